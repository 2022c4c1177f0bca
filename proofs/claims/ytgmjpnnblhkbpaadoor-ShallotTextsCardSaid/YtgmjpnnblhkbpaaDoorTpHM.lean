/-
  The printer's atom, stmts, body, stmt. Conditions: the sizes that strings can have; statements in form.
-/
import Derived.Test.YtgmjpnnblhkbpaaDoorTpFM
import Derived.Test.YtgmjpnnblhkbpaaDoorTwYM
import Derived.Test.YtgmjpnnblhkbpaaDoorTyBM
namespace Go.Proofs.YtgmjpnnblhkbpaaDoor
open Go Go.RowKit Go.Sh Tx
open Go.Lib (hid)
theorem SC.inj {k c : SC} (h : k.cells = c.cells) : k = c:=by
 obtain ⟨k1,k2,⟨k3,k4⟩,⟨a1,a2,a3,a4,a5,a6,a7⟩,⟨b1,b2,b3,b4,b5,b6,b7⟩,⟨c1,c2,c3,c4,c5,c6,c7⟩,⟨r1,r2,r3⟩,⟨e1,e2⟩,⟨t1,t2⟩,⟨y1,y2,y3⟩,⟨z1,z2,z3⟩⟩:=k
 obtain ⟨k1',k2',⟨k3',k4'⟩,⟨a1',a2',a3',a4',a5',a6',a7'⟩,⟨b1',b2',b3',b4',b5',b6',b7'⟩,⟨c1',c2',c3',c4',c5',c6',c7'⟩,⟨r1',r2',r3'⟩,⟨e1',e2'⟩,⟨t1',t2'⟩,⟨y1',y2',y3'⟩,⟨z1',z2',z3'⟩⟩:=c
 simp only [SC.cells,List.cons.injEq,Value.string.injEq,Value.int.injEq,Value.slice.injEq,true_and,and_true] at h
 obtain ⟨rfl,rfl,rfl,rfl,rfl,rfl,rfl,rfl,⟨rfl,rfl,rfl⟩,rfl,rfl,rfl,rfl,⟨rfl,rfl,rfl⟩,rfl,rfl,rfl,rfl,⟨rfl,rfl,rfl⟩,⟨rfl,rfl,rfl⟩,rfl,rfl,rfl,rfl,⟨rfl,rfl,rfl⟩,rfl,rfl,rfl⟩:=h
 rfl
theorem StV.inv {X : Nat → Prop} {w : World} {kind name : Bs} {a b c : Ex} {routes : List Bs} {block tag : Bs} {body els : List St} {k : SC} (h : StV X w [.mk kind name a b c routes block tag body els] [k.cells]) :
   k.kind = sb kind ∧ sb name = k.name.t ∧ TrV X w [a] [k.a.cells] ∧ TrV X w [b] [k.b.cells] ∧ TrV X w [c] [k.c.cells] ∧ (∃ rs,RfV routes rs ∧ RP X w 2 k.routes.A k.routes.n rs) ∧ sb block = k.block.t ∧ sb tag = k.tag.t ∧
     (∃ bs,StV X w body bs ∧ RP X w 26 k.body.A k.body.n bs) ∧ (∃ es,StV X w els es ∧ RP X w 26 k.els.A k.els.n es):=by
 generalize hl : [k.cells] = L at h
 cases h with
 | cons h1 h2 h3 h4 h5 h6 h7 h8 h9 h10 h11 h12 h13=>
   obtain rfl:=SC.inj (List.cons.inj hl).1
   exact ⟨h1,h2.symm,h3,h4,h5,⟨_,h6.1,h6.2.1⟩,h7.symm,h8.symm,⟨_,h9,h10.1⟩,⟨_,h11,h12.1⟩⟩
theorem namedV (b : Nat) (l word x : Bs) (W V : ByteArray) (a : Int) (w : World) (hW : sb word = W) (hV : sb x = V) (h : Pr w b l) (hlen : (l ++ nmO word x).length ≤ 10000000000000) :
   Calls Tryd.prog 84 #[.pointer (some ⟨b,0,none⟩),.string W,.agg #[.string V,.int .i64 a]] w (PrPost b (l ++ nmO word x) w):=by
 subst hW hV
 exact named_any b l word x a w h (by omega)
theorem rend_pcN (w x : Bs) : rend (pcN w x) = nmO (32 :: (w ++ [32])) x:=by
 unfold pcN nmO
 split
 · rfl
 · simp [rend,sp,spell,tWord,tName]
def LnP (t : St) (out : Bs) : Prop:=∀ (b : Nat) (l : Bs) (w : World) (c : SC) (X : Nat → Prop),Pr w b l → TabX b w → StV X w [t] [c.cells] → (∀ g,X g → g < b) → (l ++ out).length ≤ 10000000000000 →
 Calls Tryd.prog 71 #[.pointer (some ⟨b,0,none⟩),.agg c.cells.toArray] w (PrPost b (l ++ out) w)
section
set_option maxHeartbeats 16000000
set_option maxRecDepth 100000
theorem pvia_pr (b : Nat) (l : Bs) (names : List Bs) (A0 : Option Addr) (N c0 : Nat) (rs : List (List Value)) (X : Nat → Prop) (w : World) (h : Pr w b l) (hR : RfV names rs) (hr : RP X w 2 A0 N rs) (hX : ∀ g,X g → g < b) (hlen : (l ++ rend (pcVia names)).length ≤ 10000000000000) :
   Calls Tryd.prog 83 #[.pointer (some ⟨b,0,none⟩),.slice A0 N c0] w (PrPost b (l ++ rend (pcVia names)) w):=pvia_any b l names A0 N c0 rs X w h hR hr hX (by omega)
theorem routes_pr (b : Nat) (l : Bs) (names : List Bs) (A0 : Option Addr) (N c0 : Nat) (rs : List (List Value)) (X : Nat → Prop) (w : World) (h : Pr w b l) (hR : RfV names rs) (hr : RP X w 2 A0 N rs) (hX : ∀ g,X g → g < b) (hlen : (l ++ rend (pcRoutes names)).length ≤ 10000000000000) :
   Calls Tryd.prog 85 #[.pointer (some ⟨b,0,none⟩),.slice A0 N c0] w (PrPost b (l ++ rend (pcRoutes names)) w):=routes_any b l names A0 N c0 rs X w h hR hr hX (by omega)
theorem out_send (name : Bs) (ea eb ec : Ex) (routes : List Bs) (block tag : Bs) : rend (pcLn kSend name ea eb ec routes block tag) = [115,101,110,100,32] ++ (tE ea ++ (rend (pcVia routes) ++ (nmO [32,119,105,116,104,32] block ++ (nmO [32,97,115,32] tag)))):=by
 rw [pcLn,if_pos rfl]
 simp [rend,rend_app,rend_pcN,spell,tWord,sp,tE,kSend,kWith,kAs]
set_option maxRecDepth 100000 in
theorem pl_send (name : Bs) (ea eb ec : Ex) (routes : List Bs) (block tag : Bs) (body els : List St) (hwa : ea.wf) : LnP (.mk kSend name ea eb ec routes block tag body els) ([115,101,110,100,32] ++ (tE ea ++ (rend (pcVia routes) ++ (nmO [32,119,105,116,104,32] block ++ (nmO [32,97,115,32] tag))))):=by
 intro b l w c X h hT ht hX hlen
 have hbl:=h.lt
 obtain ⟨hki,hna,hta,htb,htc,⟨rs,hrf,hrr⟩,hbk,htg,⟨bs,hbv,hbr⟩,⟨es,hev,her⟩⟩:=ht.inv
 have hki2 : c.kind = ⟨#[115,101,110,100]⟩:=hki
 have HX:=hid hX
 have HN:=hid hlen
 have HNA:=hid hna
 have HBK:=hid hbk
 have HTG:=hid htg
 have HRF:=hid hrf
 have hba : Below w.heap.size w (w.alloc (.cells c.cells.toArray 64)):=(Below.refl _ w).alloc (Nat.le_refl _) _
 have HP1:=hid (h.later hba)
 have HF1:=hid (show Fb b w _ from Fb.of hba)
 have HTB1:=hid (hT.on hba (Nat.le_of_lt hbl))
 have HE1:=hid (show SB (w.alloc (.cells c.cells.toArray 64)) w.heap.size c from heap_alloc_new w _)
 have hs1 : b < (w.alloc (.cells c.cells.toArray 64)).heap.size:=Nat.lt_of_lt_of_le hbl hba.size
 have HA1:=hid (hta.keep fun g hg=>hba.block g (Nat.lt_trans (hX g hg) hbl))
 have HR1:=hid (hrr.keep fun g hg=>hba.block g (Nat.lt_trans (hX g hg) hbl))
 have HWa:=hid hwa
 have k0 : (w.alloc (.cells c.cells.toArray 64)).cell? ⟨w.heap.size,0,none⟩ = some (.string ⟨#[115,101,110,100]⟩):=by rw [HE1.out.cell 0,← hki2];rfl
 obtain ⟨CC,hCC⟩ : ∃ CC,c.cells.toArray = CC:=⟨_,rfl⟩
 obtain ⟨CC,hCC⟩ : ∃ CC,c.cells.toArray = CC:=⟨_,rfl⟩
 rw [hCC] at HP1 HF1 HTB1 HE1 hs1 k0 hba HA1 HR1 ⊢
 clear h hT ht hX hlen hki hna hta htb htc hrf hrr hbk htg hbv hbr hev her hki2 hCC
 go_enter Tryd.func71,Tryd.ntmps71
 go_upto_region 1 with fail
 obtain ⟨z,hz⟩ : ∃ z,w.heap.size = z:=⟨_,rfl⟩
 have hzb : b < z:=by rw [← hz];exact hbl
 rw [hz] at HE1 k0 ⊢
 generalize (w.alloc (.cells CC 64)) = w1 at *
 clear hz hba
 skip
 go_wp2_with fail
 refine (write1 b l [115,101,110,100,32] ⟨#[115,101,110,100,32]⟩ w1 rfl HP1.out (by have h:=HN.out;first | (simp at h ⊢;omega) | omega | (simp at h;omega))).mono ?_
 rintro e w2 ⟨rfl,hp2,hf2⟩
 have HP2:=hid hp2
 have HF2:=hid (HF1.out.trans hf2)
 have HE2:=hid (show SB w2 z c from hf2.keep HE1.out (by decide) (by omega))
 have HA2:=hid (HA1.out.keep fun g hg=>(hf2.low (Nat.le_of_lt hs1)).block g (HX.out g hg))
 have HR2:=hid (HR1.out.keep fun g hg=>(hf2.low (Nat.le_of_lt hs1)).block g (HX.out g hg))
 have HTB2:=hid (HTB1.out.fb hf2 (Nat.le_of_lt hs1))
 have hs2 : b < w2.heap.size:=Nat.lt_of_lt_of_le hs1 hf2.size
 clear hp2 hf2 HP1 HF1 HE1 HA1 HR1 HTB1
 clear k0
 have y4:=HE2.out.cell 4
 have y5:=HE2.out.cell 5
 have y6:=HE2.out.cell 6
 have y7:=HE2.out.cell 7
 have y8:=HE2.out.cell 8
 simp only [SC.cells,List.getElem?_cons_succ,List.getElem?_cons_zero] at y4 y5 y6 y7 y8
 go_wp2_with fail
 refine (expr_pr ea b (l ++ [115,101,110,100,32]) w2 _ _ _ _ _ _ _ X HP2.out HTB2.out HA2.out HX.out HWa.out (by have h:=HN.out;first | (simp at h ⊢;omega) | omega | (simp at h;omega))).mono ?_
 rintro e w3 ⟨rfl,hp3,hf3⟩
 have HP3:=hid hp3
 have HF3:=hid (HF2.out.trans hf3)
 have HE3:=hid (show SB w3 z c from hf3.keep HE2.out (by decide) (by omega))
 have HA3:=hid (HA2.out.keep fun g hg=>(hf3.low (Nat.le_of_lt hs2)).block g (HX.out g hg))
 have HR3:=hid (HR2.out.keep fun g hg=>(hf3.low (Nat.le_of_lt hs2)).block g (HX.out g hg))
 have HTB3:=hid (HTB2.out.fb hf3 (Nat.le_of_lt hs2))
 have hs3 : b < w3.heap.size:=Nat.lt_of_lt_of_le hs2 hf3.size
 clear hp3 hf3 HP2 HF2 HE2 HA2 HR2 HTB2
 clear y4 y5 y6 y7 y8
 have y19:=HE3.out.cell 19
 simp only [SC.cells,List.getElem?_cons_succ,List.getElem?_cons_zero] at y19
 go_wp2_with fail
 refine (pvia_pr b ((l ++ [115,101,110,100,32]) ++ tE ea) routes _ _ _ rs X w3 HP3.out HRF.out HR3.out HX.out (by have h:=HN.out;first | (simp at h ⊢;omega) | omega | (simp at h;omega))).mono ?_
 rintro e w4 ⟨rfl,hp4,hf4⟩
 have HP4:=hid hp4
 have HF4:=hid (HF3.out.trans hf4)
 have HE4:=hid (show SB w4 z c from hf4.keep HE3.out (by decide) (by omega))
 have HA4:=hid (HA3.out.keep fun g hg=>(hf4.low (Nat.le_of_lt hs3)).block g (HX.out g hg))
 have HR4:=hid (HR3.out.keep fun g hg=>(hf4.low (Nat.le_of_lt hs3)).block g (HX.out g hg))
 have HTB4:=hid (HTB3.out.fb hf4 (Nat.le_of_lt hs3))
 have hs4 : b < w4.heap.size:=Nat.lt_of_lt_of_le hs3 hf4.size
 clear hp4 hf4 HP3 HF3 HE3 HA3 HR3 HTB3
 clear y19
 have y20:=HE4.out.cell 20
 have y21:=HE4.out.cell 21
 simp only [SC.cells,List.getElem?_cons_succ,List.getElem?_cons_zero] at y20 y21
 go_wp2_with fail
 refine (namedV b (((l ++ [115,101,110,100,32]) ++ tE ea) ++ rend (pcVia routes)) [32,119,105,116,104,32] block _ _ _ w4 rfl HBK.out HP4.out (by have h:=HN.out;first | (simp at h ⊢;omega) | omega | (simp at h;omega))).mono ?_
 rintro e w5 ⟨rfl,hp5,hf5⟩
 have HP5:=hid hp5
 have HF5:=hid (HF4.out.trans hf5)
 have HE5:=hid (show SB w5 z c from hf5.keep HE4.out (by decide) (by omega))
 have HA5:=hid (HA4.out.keep fun g hg=>(hf5.low (Nat.le_of_lt hs4)).block g (HX.out g hg))
 have HR5:=hid (HR4.out.keep fun g hg=>(hf5.low (Nat.le_of_lt hs4)).block g (HX.out g hg))
 have HTB5:=hid (HTB4.out.fb hf5 (Nat.le_of_lt hs4))
 have hs5 : b < w5.heap.size:=Nat.lt_of_lt_of_le hs4 hf5.size
 clear hp5 hf5 HP4 HF4 HE4 HA4 HR4 HTB4
 clear y20 y21
 have y22:=HE5.out.cell 22
 have y23:=HE5.out.cell 23
 simp only [SC.cells,List.getElem?_cons_succ,List.getElem?_cons_zero] at y22 y23
 go_wp2_with fail
 refine (namedV b ((((l ++ [115,101,110,100,32]) ++ tE ea) ++ rend (pcVia routes)) ++ nmO [32,119,105,116,104,32] block) [32,97,115,32] tag _ _ _ w5 rfl HTG.out HP5.out (by have h:=HN.out;first | (simp at h ⊢;omega) | omega | (simp at h;omega))).mono ?_
 rintro e w6 ⟨rfl,hp6,hf6⟩
 have HP6:=hid hp6
 have HF6:=hid (HF5.out.trans hf6)
 have HE6:=hid (show SB w6 z c from hf6.keep HE5.out (by decide) (by omega))
 have HA6:=hid (HA5.out.keep fun g hg=>(hf6.low (Nat.le_of_lt hs5)).block g (HX.out g hg))
 have HR6:=hid (HR5.out.keep fun g hg=>(hf6.low (Nat.le_of_lt hs5)).block g (HX.out g hg))
 have HTB6:=hid (HTB5.out.fb hf6 (Nat.le_of_lt hs5))
 have hs6 : b < w6.heap.size:=Nat.lt_of_lt_of_le hs5 hf6.size
 clear hp6 hf6 HP5 HF5 HE5 HA5 HR5 HTB5
 clear y22 y23
 go_wp2_with fail
 go_end0
 exact ⟨rfl,cast (congrArg (Pr w6 b) (show (((((l ++ [115,101,110,100,32]) ++ tE ea) ++ rend (pcVia routes)) ++ nmO [32,119,105,116,104,32] block) ++ nmO [32,97,115,32] tag) = l ++ ([115,101,110,100,32] ++ (tE ea ++ (rend (pcVia routes) ++ (nmO [32,119,105,116,104,32] block ++ (nmO [32,97,115,32] tag))))) from by simp only [List.append_assoc])) HP6.out,HF6.out⟩
theorem out_split (name : Bs) (ea eb ec : Ex) (routes : List Bs) (block tag : Bs) : rend (pcLn kSplit name ea eb ec routes block tag) = [115,112,108,105,116,32] ++ (tE ea ++ (rend (pcVia routes) ++ (nmO [32,97,115,32] tag))):=by
 rw [pcLn,if_neg (by decide),if_pos rfl]
 simp [rend,rend_app,rend_pcN,spell,tWord,sp,tE,kSplit,kAs]
set_option maxRecDepth 100000 in
theorem pl_split (name : Bs) (ea eb ec : Ex) (routes : List Bs) (block tag : Bs) (body els : List St) (hwa : ea.wf) : LnP (.mk kSplit name ea eb ec routes block tag body els) ([115,112,108,105,116,32] ++ (tE ea ++ (rend (pcVia routes) ++ (nmO [32,97,115,32] tag)))):=by
 intro b l w c X h hT ht hX hlen
 have hbl:=h.lt
 obtain ⟨hki,hna,hta,htb,htc,⟨rs,hrf,hrr⟩,hbk,htg,⟨bs,hbv,hbr⟩,⟨es,hev,her⟩⟩:=ht.inv
 have hki2 : c.kind = ⟨#[115,112,108,105,116]⟩:=hki
 have HX:=hid hX
 have HN:=hid hlen
 have HNA:=hid hna
 have HBK:=hid hbk
 have HTG:=hid htg
 have HRF:=hid hrf
 have hba : Below w.heap.size w (w.alloc (.cells c.cells.toArray 64)):=(Below.refl _ w).alloc (Nat.le_refl _) _
 have HP1:=hid (h.later hba)
 have HF1:=hid (show Fb b w _ from Fb.of hba)
 have HTB1:=hid (hT.on hba (Nat.le_of_lt hbl))
 have HE1:=hid (show SB (w.alloc (.cells c.cells.toArray 64)) w.heap.size c from heap_alloc_new w _)
 have hs1 : b < (w.alloc (.cells c.cells.toArray 64)).heap.size:=Nat.lt_of_lt_of_le hbl hba.size
 have HA1:=hid (hta.keep fun g hg=>hba.block g (Nat.lt_trans (hX g hg) hbl))
 have HR1:=hid (hrr.keep fun g hg=>hba.block g (Nat.lt_trans (hX g hg) hbl))
 have HWa:=hid hwa
 have k0 : (w.alloc (.cells c.cells.toArray 64)).cell? ⟨w.heap.size,0,none⟩ = some (.string ⟨#[115,112,108,105,116]⟩):=by rw [HE1.out.cell 0,← hki2];rfl
 obtain ⟨CC,hCC⟩ : ∃ CC,c.cells.toArray = CC:=⟨_,rfl⟩
 obtain ⟨CC,hCC⟩ : ∃ CC,c.cells.toArray = CC:=⟨_,rfl⟩
 rw [hCC] at HP1 HF1 HTB1 HE1 hs1 k0 hba HA1 HR1 ⊢
 clear h hT ht hX hlen hki hna hta htb htc hrf hrr hbk htg hbv hbr hev her hki2 hCC
 go_enter Tryd.func71,Tryd.ntmps71
 go_upto_region 1 with fail
 obtain ⟨z,hz⟩ : ∃ z,w.heap.size = z:=⟨_,rfl⟩
 have hzb : b < z:=by rw [← hz];exact hbl
 rw [hz] at HE1 k0 ⊢
 generalize (w.alloc (.cells CC 64)) = w1 at *
 clear hz hba
 go_wp2_with fail
 refine (write1 b l [115,112,108,105,116,32] ⟨#[115,112,108,105,116,32]⟩ w1 rfl HP1.out (by have h:=HN.out;first | (simp at h ⊢;omega) | omega | (simp at h;omega))).mono ?_
 rintro e w2 ⟨rfl,hp2,hf2⟩
 have HP2:=hid hp2
 have HF2:=hid (HF1.out.trans hf2)
 have HE2:=hid (show SB w2 z c from hf2.keep HE1.out (by decide) (by omega))
 have HA2:=hid (HA1.out.keep fun g hg=>(hf2.low (Nat.le_of_lt hs1)).block g (HX.out g hg))
 have HR2:=hid (HR1.out.keep fun g hg=>(hf2.low (Nat.le_of_lt hs1)).block g (HX.out g hg))
 have HTB2:=hid (HTB1.out.fb hf2 (Nat.le_of_lt hs1))
 have hs2 : b < w2.heap.size:=Nat.lt_of_lt_of_le hs1 hf2.size
 clear hp2 hf2 HP1 HF1 HE1 HA1 HR1 HTB1
 clear k0
 have y4:=HE2.out.cell 4
 have y5:=HE2.out.cell 5
 have y6:=HE2.out.cell 6
 have y7:=HE2.out.cell 7
 have y8:=HE2.out.cell 8
 simp only [SC.cells,List.getElem?_cons_succ,List.getElem?_cons_zero] at y4 y5 y6 y7 y8
 go_wp2_with fail
 refine (expr_pr ea b (l ++ [115,112,108,105,116,32]) w2 _ _ _ _ _ _ _ X HP2.out HTB2.out HA2.out HX.out HWa.out (by have h:=HN.out;first | (simp at h ⊢;omega) | omega | (simp at h;omega))).mono ?_
 rintro e w3 ⟨rfl,hp3,hf3⟩
 have HP3:=hid hp3
 have HF3:=hid (HF2.out.trans hf3)
 have HE3:=hid (show SB w3 z c from hf3.keep HE2.out (by decide) (by omega))
 have HA3:=hid (HA2.out.keep fun g hg=>(hf3.low (Nat.le_of_lt hs2)).block g (HX.out g hg))
 have HR3:=hid (HR2.out.keep fun g hg=>(hf3.low (Nat.le_of_lt hs2)).block g (HX.out g hg))
 have HTB3:=hid (HTB2.out.fb hf3 (Nat.le_of_lt hs2))
 have hs3 : b < w3.heap.size:=Nat.lt_of_lt_of_le hs2 hf3.size
 clear hp3 hf3 HP2 HF2 HE2 HA2 HR2 HTB2
 clear y4 y5 y6 y7 y8
 have y19:=HE3.out.cell 19
 simp only [SC.cells,List.getElem?_cons_succ,List.getElem?_cons_zero] at y19
 go_wp2_with fail
 refine (pvia_pr b ((l ++ [115,112,108,105,116,32]) ++ tE ea) routes _ _ _ rs X w3 HP3.out HRF.out HR3.out HX.out (by have h:=HN.out;first | (simp at h ⊢;omega) | omega | (simp at h;omega))).mono ?_
 rintro e w4 ⟨rfl,hp4,hf4⟩
 have HP4:=hid hp4
 have HF4:=hid (HF3.out.trans hf4)
 have HE4:=hid (show SB w4 z c from hf4.keep HE3.out (by decide) (by omega))
 have HA4:=hid (HA3.out.keep fun g hg=>(hf4.low (Nat.le_of_lt hs3)).block g (HX.out g hg))
 have HR4:=hid (HR3.out.keep fun g hg=>(hf4.low (Nat.le_of_lt hs3)).block g (HX.out g hg))
 have HTB4:=hid (HTB3.out.fb hf4 (Nat.le_of_lt hs3))
 have hs4 : b < w4.heap.size:=Nat.lt_of_lt_of_le hs3 hf4.size
 clear hp4 hf4 HP3 HF3 HE3 HA3 HR3 HTB3
 clear y19
 have y22:=HE4.out.cell 22
 have y23:=HE4.out.cell 23
 simp only [SC.cells,List.getElem?_cons_succ,List.getElem?_cons_zero] at y22 y23
 go_wp2_with fail
 refine (namedV b (((l ++ [115,112,108,105,116,32]) ++ tE ea) ++ rend (pcVia routes)) [32,97,115,32] tag _ _ _ w4 rfl HTG.out HP4.out (by have h:=HN.out;first | (simp at h ⊢;omega) | omega | (simp at h;omega))).mono ?_
 rintro e w5 ⟨rfl,hp5,hf5⟩
 have HP5:=hid hp5
 have HF5:=hid (HF4.out.trans hf5)
 have HE5:=hid (show SB w5 z c from hf5.keep HE4.out (by decide) (by omega))
 have HA5:=hid (HA4.out.keep fun g hg=>(hf5.low (Nat.le_of_lt hs4)).block g (HX.out g hg))
 have HR5:=hid (HR4.out.keep fun g hg=>(hf5.low (Nat.le_of_lt hs4)).block g (HX.out g hg))
 have HTB5:=hid (HTB4.out.fb hf5 (Nat.le_of_lt hs4))
 have hs5 : b < w5.heap.size:=Nat.lt_of_lt_of_le hs4 hf5.size
 clear hp5 hf5 HP4 HF4 HE4 HA4 HR4 HTB4
 clear y22 y23
 go_wp2_with fail
 go_end0
 exact ⟨rfl,cast (congrArg (Pr w5 b) (show ((((l ++ [115,112,108,105,116,32]) ++ tE ea) ++ rend (pcVia routes)) ++ nmO [32,97,115,32] tag) = l ++ ([115,112,108,105,116,32] ++ (tE ea ++ (rend (pcVia routes) ++ (nmO [32,97,115,32] tag)))) from by simp only [List.append_assoc])) HP5.out,HF5.out⟩
theorem out_cover (name : Bs) (ea eb ec : Ex) (routes : List Bs) (block tag : Bs) : rend (pcLn kCover name ea eb ec routes block tag) = [99,111,118,101,114,32] ++ (rend (pcRoutes routes)):=by
 rw [pcLn,if_neg (by decide),if_neg (by decide),if_pos rfl]
 simp [rend,spell,tWord,sp,kCover]
set_option maxRecDepth 100000 in
theorem pl_cover (name : Bs) (ea eb ec : Ex) (routes : List Bs) (block tag : Bs) (body els : List St) : LnP (.mk kCover name ea eb ec routes block tag body els) ([99,111,118,101,114,32] ++ (rend (pcRoutes routes))):=by
 intro b l w c X h hT ht hX hlen
 have hbl:=h.lt
 obtain ⟨hki,hna,hta,htb,htc,⟨rs,hrf,hrr⟩,hbk,htg,⟨bs,hbv,hbr⟩,⟨es,hev,her⟩⟩:=ht.inv
 have hki2 : c.kind = ⟨#[99,111,118,101,114]⟩:=hki
 have HX:=hid hX
 have HN:=hid hlen
 have HNA:=hid hna
 have HBK:=hid hbk
 have HTG:=hid htg
 have HRF:=hid hrf
 have hba : Below w.heap.size w (w.alloc (.cells c.cells.toArray 64)):=(Below.refl _ w).alloc (Nat.le_refl _) _
 have HP1:=hid (h.later hba)
 have HF1:=hid (show Fb b w _ from Fb.of hba)
 have HTB1:=hid (hT.on hba (Nat.le_of_lt hbl))
 have HE1:=hid (show SB (w.alloc (.cells c.cells.toArray 64)) w.heap.size c from heap_alloc_new w _)
 have hs1 : b < (w.alloc (.cells c.cells.toArray 64)).heap.size:=Nat.lt_of_lt_of_le hbl hba.size
 have HR1:=hid (hrr.keep fun g hg=>hba.block g (Nat.lt_trans (hX g hg) hbl))
 have k0 : (w.alloc (.cells c.cells.toArray 64)).cell? ⟨w.heap.size,0,none⟩ = some (.string ⟨#[99,111,118,101,114]⟩):=by rw [HE1.out.cell 0,← hki2];rfl
 obtain ⟨CC,hCC⟩ : ∃ CC,c.cells.toArray = CC:=⟨_,rfl⟩
 obtain ⟨CC,hCC⟩ : ∃ CC,c.cells.toArray = CC:=⟨_,rfl⟩
 rw [hCC] at HP1 HF1 HTB1 HE1 hs1 k0 hba HR1 ⊢
 clear h hT ht hX hlen hki hna hta htb htc hrf hrr hbk htg hbv hbr hev her hki2 hCC
 go_enter Tryd.func71,Tryd.ntmps71
 go_upto_region 1 with fail
 obtain ⟨z,hz⟩ : ∃ z,w.heap.size = z:=⟨_,rfl⟩
 have hzb : b < z:=by rw [← hz];exact hbl
 rw [hz] at HE1 k0 ⊢
 generalize (w.alloc (.cells CC 64)) = w1 at *
 clear hz hba
 go_wp2_with fail
 refine (write1 b l [99,111,118,101,114,32] ⟨#[99,111,118,101,114,32]⟩ w1 rfl HP1.out (by have h:=HN.out;first | (simp at h ⊢;omega) | omega | (simp at h;omega))).mono ?_
 rintro e w2 ⟨rfl,hp2,hf2⟩
 have HP2:=hid hp2
 have HF2:=hid (HF1.out.trans hf2)
 have HE2:=hid (show SB w2 z c from hf2.keep HE1.out (by decide) (by omega))
 have HR2:=hid (HR1.out.keep fun g hg=>(hf2.low (Nat.le_of_lt hs1)).block g (HX.out g hg))
 have HTB2:=hid (HTB1.out.fb hf2 (Nat.le_of_lt hs1))
 have hs2 : b < w2.heap.size:=Nat.lt_of_lt_of_le hs1 hf2.size
 clear hp2 hf2 HP1 HF1 HE1 HR1 HTB1
 clear k0
 have y19:=HE2.out.cell 19
 simp only [SC.cells,List.getElem?_cons_succ,List.getElem?_cons_zero] at y19
 go_wp2_with fail
 refine (routes_pr b (l ++ [99,111,118,101,114,32]) routes _ _ _ rs X w2 HP2.out HRF.out HR2.out HX.out (by have h:=HN.out;first | (simp at h ⊢;omega) | omega | (simp at h;omega))).mono ?_
 rintro e w3 ⟨rfl,hp3,hf3⟩
 have HP3:=hid hp3
 have HF3:=hid (HF2.out.trans hf3)
 have HE3:=hid (show SB w3 z c from hf3.keep HE2.out (by decide) (by omega))
 have HR3:=hid (HR2.out.keep fun g hg=>(hf3.low (Nat.le_of_lt hs2)).block g (HX.out g hg))
 have HTB3:=hid (HTB2.out.fb hf3 (Nat.le_of_lt hs2))
 have hs3 : b < w3.heap.size:=Nat.lt_of_lt_of_le hs2 hf3.size
 clear hp3 hf3 HP2 HF2 HE2 HR2 HTB2
 clear y19
 go_wp2_with fail
 go_end0
 exact ⟨rfl,cast (congrArg (Pr w3 b) (show ((l ++ [99,111,118,101,114,32]) ++ rend (pcRoutes routes)) = l ++ ([99,111,118,101,114,32] ++ (rend (pcRoutes routes))) from by simp only [List.append_assoc])) HP3.out,HF3.out⟩
theorem out_wait (name : Bs) (ea eb ec : Ex) (routes : List Bs) (block tag : Bs) : rend (pcLn kWait name ea eb ec routes block tag) = [119,97,105,116,32] ++ (tE ea):=by
 rw [pcLn,if_neg (by decide),if_neg (by decide),if_neg (by decide),if_pos rfl]
 simp [rend,spell,tWord,sp,tE,kWait]
set_option maxRecDepth 100000 in
theorem pl_wait (name : Bs) (ea eb ec : Ex) (routes : List Bs) (block tag : Bs) (body els : List St) (hwa : ea.wf) : LnP (.mk kWait name ea eb ec routes block tag body els) ([119,97,105,116,32] ++ (tE ea)):=by
 intro b l w c X h hT ht hX hlen
 have hbl:=h.lt
 obtain ⟨hki,hna,hta,htb,htc,⟨rs,hrf,hrr⟩,hbk,htg,⟨bs,hbv,hbr⟩,⟨es,hev,her⟩⟩:=ht.inv
 have hki2 : c.kind = ⟨#[119,97,105,116]⟩:=hki
 have HX:=hid hX
 have HN:=hid hlen
 have HNA:=hid hna
 have HBK:=hid hbk
 have HTG:=hid htg
 have HRF:=hid hrf
 have hba : Below w.heap.size w (w.alloc (.cells c.cells.toArray 64)):=(Below.refl _ w).alloc (Nat.le_refl _) _
 have HP1:=hid (h.later hba)
 have HF1:=hid (show Fb b w _ from Fb.of hba)
 have HTB1:=hid (hT.on hba (Nat.le_of_lt hbl))
 have HE1:=hid (show SB (w.alloc (.cells c.cells.toArray 64)) w.heap.size c from heap_alloc_new w _)
 have hs1 : b < (w.alloc (.cells c.cells.toArray 64)).heap.size:=Nat.lt_of_lt_of_le hbl hba.size
 have HA1:=hid (hta.keep fun g hg=>hba.block g (Nat.lt_trans (hX g hg) hbl))
 have HWa:=hid hwa
 have k0 : (w.alloc (.cells c.cells.toArray 64)).cell? ⟨w.heap.size,0,none⟩ = some (.string ⟨#[119,97,105,116]⟩):=by rw [HE1.out.cell 0,← hki2];rfl
 obtain ⟨CC,hCC⟩ : ∃ CC,c.cells.toArray = CC:=⟨_,rfl⟩
 obtain ⟨CC,hCC⟩ : ∃ CC,c.cells.toArray = CC:=⟨_,rfl⟩
 rw [hCC] at HP1 HF1 HTB1 HE1 hs1 k0 hba HA1 ⊢
 clear h hT ht hX hlen hki hna hta htb htc hrf hrr hbk htg hbv hbr hev her hki2 hCC
 go_enter Tryd.func71,Tryd.ntmps71
 go_upto_region 1 with fail
 obtain ⟨z,hz⟩ : ∃ z,w.heap.size = z:=⟨_,rfl⟩
 have hzb : b < z:=by rw [← hz];exact hbl
 rw [hz] at HE1 k0 ⊢
 generalize (w.alloc (.cells CC 64)) = w1 at *
 clear hz hba
 go_wp2_with fail
 refine (write1 b l [119,97,105,116,32] ⟨#[119,97,105,116,32]⟩ w1 rfl HP1.out (by have h:=HN.out;first | (simp at h ⊢;omega) | omega | (simp at h;omega))).mono ?_
 rintro e w2 ⟨rfl,hp2,hf2⟩
 have HP2:=hid hp2
 have HF2:=hid (HF1.out.trans hf2)
 have HE2:=hid (show SB w2 z c from hf2.keep HE1.out (by decide) (by omega))
 have HA2:=hid (HA1.out.keep fun g hg=>(hf2.low (Nat.le_of_lt hs1)).block g (HX.out g hg))
 have HTB2:=hid (HTB1.out.fb hf2 (Nat.le_of_lt hs1))
 have hs2 : b < w2.heap.size:=Nat.lt_of_lt_of_le hs1 hf2.size
 clear hp2 hf2 HP1 HF1 HE1 HA1 HTB1
 clear k0
 have y4:=HE2.out.cell 4
 have y5:=HE2.out.cell 5
 have y6:=HE2.out.cell 6
 have y7:=HE2.out.cell 7
 have y8:=HE2.out.cell 8
 simp only [SC.cells,List.getElem?_cons_succ,List.getElem?_cons_zero] at y4 y5 y6 y7 y8
 go_wp2_with fail
 refine (expr_pr ea b (l ++ [119,97,105,116,32]) w2 _ _ _ _ _ _ _ X HP2.out HTB2.out HA2.out HX.out HWa.out (by have h:=HN.out;first | (simp at h ⊢;omega) | omega | (simp at h;omega))).mono ?_
 rintro e w3 ⟨rfl,hp3,hf3⟩
 have HP3:=hid hp3
 have HF3:=hid (HF2.out.trans hf3)
 have HE3:=hid (show SB w3 z c from hf3.keep HE2.out (by decide) (by omega))
 have HA3:=hid (HA2.out.keep fun g hg=>(hf3.low (Nat.le_of_lt hs2)).block g (HX.out g hg))
 have HTB3:=hid (HTB2.out.fb hf3 (Nat.le_of_lt hs2))
 have hs3 : b < w3.heap.size:=Nat.lt_of_lt_of_le hs2 hf3.size
 clear hp3 hf3 HP2 HF2 HE2 HA2 HTB2
 clear y4 y5 y6 y7 y8
 go_wp2_with fail
 go_end0
 exact ⟨rfl,cast (congrArg (Pr w3 b) (show ((l ++ [119,97,105,116,32]) ++ tE ea) = l ++ ([119,97,105,116,32] ++ (tE ea)) from by simp only [List.append_assoc])) HP3.out,HF3.out⟩
theorem out_block (name : Bs) (ea eb ec : Ex) (routes : List Bs) (block tag : Bs) : rend (pcLn kBlock name ea eb ec routes block tag) = [98,108,111,99,107,32] ++ name ++ (rend (pcVia routes)):=by
 rw [pcLn,if_neg (by decide),if_neg (by decide),if_neg (by decide),if_neg (by decide),if_pos rfl]
 simp [rend,spell,tWord,tName,sp,kBlock]
set_option maxRecDepth 100000 in
theorem pl_block (name : Bs) (ea eb ec : Ex) (routes : List Bs) (block tag : Bs) (body els : List St) : LnP (.mk kBlock name ea eb ec routes block tag body els) ([98,108,111,99,107,32] ++ name ++ (rend (pcVia routes))):=by
 intro b l w c X h hT ht hX hlen
 have hbl:=h.lt
 obtain ⟨hki,hna,hta,htb,htc,⟨rs,hrf,hrr⟩,hbk,htg,⟨bs,hbv,hbr⟩,⟨es,hev,her⟩⟩:=ht.inv
 have hki2 : c.kind = ⟨#[98,108,111,99,107]⟩:=hki
 have HX:=hid hX
 have HN:=hid hlen
 have HNA:=hid hna
 have HBK:=hid hbk
 have HTG:=hid htg
 have HRF:=hid hrf
 have hba : Below w.heap.size w (w.alloc (.cells c.cells.toArray 64)):=(Below.refl _ w).alloc (Nat.le_refl _) _
 have HP1:=hid (h.later hba)
 have HF1:=hid (show Fb b w _ from Fb.of hba)
 have HTB1:=hid (hT.on hba (Nat.le_of_lt hbl))
 have HE1:=hid (show SB (w.alloc (.cells c.cells.toArray 64)) w.heap.size c from heap_alloc_new w _)
 have hs1 : b < (w.alloc (.cells c.cells.toArray 64)).heap.size:=Nat.lt_of_lt_of_le hbl hba.size
 have HR1:=hid (hrr.keep fun g hg=>hba.block g (Nat.lt_trans (hX g hg) hbl))
 have k0 : (w.alloc (.cells c.cells.toArray 64)).cell? ⟨w.heap.size,0,none⟩ = some (.string ⟨#[98,108,111,99,107]⟩):=by rw [HE1.out.cell 0,← hki2];rfl
 obtain ⟨CC,hCC⟩ : ∃ CC,c.cells.toArray = CC:=⟨_,rfl⟩
 obtain ⟨CC,hCC⟩ : ∃ CC,c.cells.toArray = CC:=⟨_,rfl⟩
 rw [hCC] at HP1 HF1 HTB1 HE1 hs1 k0 hba HR1 ⊢
 clear h hT ht hX hlen hki hna hta htb htc hrf hrr hbk htg hbv hbr hev her hki2 hCC
 go_enter Tryd.func71,Tryd.ntmps71
 go_upto_region 1 with fail
 obtain ⟨z,hz⟩ : ∃ z,w.heap.size = z:=⟨_,rfl⟩
 have hzb : b < z:=by rw [← hz];exact hbl
 rw [hz] at HE1 k0 ⊢
 generalize (w.alloc (.cells CC 64)) = w1 at *
 clear hz hba
 have y2:=HE1.out.cell 2
 simp only [SC.cells,List.getElem?_cons_succ,List.getElem?_cons_zero] at y2
 go_wp2_with fail
 refine (write2 b l [98,108,111,99,107,32] name ⟨#[98,108,111,99,107,32]⟩ c.name.t w1 rfl HNA.out HP1.out (by have h:=HN.out;first | (simp at h ⊢;omega) | omega | (simp at h;omega))).mono ?_
 rintro e w2 ⟨rfl,hp2,hf2⟩
 have HP2:=hid hp2
 have HF2:=hid (HF1.out.trans hf2)
 have HE2:=hid (show SB w2 z c from hf2.keep HE1.out (by decide) (by omega))
 have HR2:=hid (HR1.out.keep fun g hg=>(hf2.low (Nat.le_of_lt hs1)).block g (HX.out g hg))
 have HTB2:=hid (HTB1.out.fb hf2 (Nat.le_of_lt hs1))
 have hs2 : b < w2.heap.size:=Nat.lt_of_lt_of_le hs1 hf2.size
 clear hp2 hf2 HP1 HF1 HE1 HR1 HTB1
 clear k0
 clear y2
 have y19:=HE2.out.cell 19
 simp only [SC.cells,List.getElem?_cons_succ,List.getElem?_cons_zero] at y19
 go_wp2_with fail
 refine (pvia_pr b (l ++ ([98,108,111,99,107,32] ++ name)) routes _ _ _ rs X w2 HP2.out HRF.out HR2.out HX.out (by have h:=HN.out;first | (simp at h ⊢;omega) | omega | (simp at h;omega))).mono ?_
 rintro e w3 ⟨rfl,hp3,hf3⟩
 have HP3:=hid hp3
 have HF3:=hid (HF2.out.trans hf3)
 have HE3:=hid (show SB w3 z c from hf3.keep HE2.out (by decide) (by omega))
 have HR3:=hid (HR2.out.keep fun g hg=>(hf3.low (Nat.le_of_lt hs2)).block g (HX.out g hg))
 have HTB3:=hid (HTB2.out.fb hf3 (Nat.le_of_lt hs2))
 have hs3 : b < w3.heap.size:=Nat.lt_of_lt_of_le hs2 hf3.size
 clear hp3 hf3 HP2 HF2 HE2 HR2 HTB2
 clear y19
 go_wp2_with fail
 go_end0
 exact ⟨rfl,cast (congrArg (Pr w3 b) (show ((l ++ ([98,108,111,99,107,32] ++ name)) ++ rend (pcVia routes)) = l ++ ([98,108,111,99,107,32] ++ name ++ (rend (pcVia routes))) from by simp only [List.append_assoc])) HP3.out,HF3.out⟩
theorem out_retry (name : Bs) (ea eb ec : Ex) (routes : List Bs) (block tag : Bs) : rend (pcLn kRetry name ea eb ec routes block tag) = [114,101,116,114,121,32] ++ (tE ea ++ ([32,101,118,101,114,121,32] ++ (tE eb ++ ([32,115,101,110,100,32] ++ (tE ec ++ (rend (pcVia routes) ++ (nmO [32,97,115,32] tag))))))):=by
 rw [pcLn,if_neg (by decide),if_neg (by decide),if_neg (by decide),if_neg (by decide),if_neg (by decide),if_pos rfl]
 simp [rend,rend_app,rend_pcN,spell,tWord,sp,tE,kRetry,kEvery,kSend,kAs]
set_option maxRecDepth 100000 in
theorem pl_retry (name : Bs) (ea eb ec : Ex) (routes : List Bs) (block tag : Bs) (body els : List St) (hwa : ea.wf) (hwb : eb.wf) (hwc : ec.wf) : LnP (.mk kRetry name ea eb ec routes block tag body els) ([114,101,116,114,121,32] ++ (tE ea ++ ([32,101,118,101,114,121,32] ++ (tE eb ++ ([32,115,101,110,100,32] ++ (tE ec ++ (rend (pcVia routes) ++ (nmO [32,97,115,32] tag)))))))):=by
 intro b l w c X h hT ht hX hlen
 have hbl:=h.lt
 obtain ⟨hki,hna,hta,htb,htc,⟨rs,hrf,hrr⟩,hbk,htg,⟨bs,hbv,hbr⟩,⟨es,hev,her⟩⟩:=ht.inv
 have hki2 : c.kind = ⟨#[114,101,116,114,121]⟩:=hki
 have HX:=hid hX
 have HN:=hid hlen
 have HNA:=hid hna
 have HBK:=hid hbk
 have HTG:=hid htg
 have HRF:=hid hrf
 have hba : Below w.heap.size w (w.alloc (.cells c.cells.toArray 64)):=(Below.refl _ w).alloc (Nat.le_refl _) _
 have HP1:=hid (h.later hba)
 have HF1:=hid (show Fb b w _ from Fb.of hba)
 have HTB1:=hid (hT.on hba (Nat.le_of_lt hbl))
 have HE1:=hid (show SB (w.alloc (.cells c.cells.toArray 64)) w.heap.size c from heap_alloc_new w _)
 have hs1 : b < (w.alloc (.cells c.cells.toArray 64)).heap.size:=Nat.lt_of_lt_of_le hbl hba.size
 have HA1:=hid (hta.keep fun g hg=>hba.block g (Nat.lt_trans (hX g hg) hbl))
 have HBB1:=hid (htb.keep fun g hg=>hba.block g (Nat.lt_trans (hX g hg) hbl))
 have HC1:=hid (htc.keep fun g hg=>hba.block g (Nat.lt_trans (hX g hg) hbl))
 have HR1:=hid (hrr.keep fun g hg=>hba.block g (Nat.lt_trans (hX g hg) hbl))
 have HWa:=hid hwa
 have HWb:=hid hwb
 have HWc:=hid hwc
 have k0 : (w.alloc (.cells c.cells.toArray 64)).cell? ⟨w.heap.size,0,none⟩ = some (.string ⟨#[114,101,116,114,121]⟩):=by rw [HE1.out.cell 0,← hki2];rfl
 obtain ⟨CC,hCC⟩ : ∃ CC,c.cells.toArray = CC:=⟨_,rfl⟩
 obtain ⟨CC,hCC⟩ : ∃ CC,c.cells.toArray = CC:=⟨_,rfl⟩
 rw [hCC] at HP1 HF1 HTB1 HE1 hs1 k0 hba HA1 HBB1 HC1 HR1 ⊢
 clear h hT ht hX hlen hki hna hta htb htc hrf hrr hbk htg hbv hbr hev her hki2 hCC
 go_enter Tryd.func71,Tryd.ntmps71
 go_upto_region 1 with fail
 obtain ⟨z,hz⟩ : ∃ z,w.heap.size = z:=⟨_,rfl⟩
 have hzb : b < z:=by rw [← hz];exact hbl
 rw [hz] at HE1 k0 ⊢
 generalize (w.alloc (.cells CC 64)) = w1 at *
 clear hz hba
 go_wp2_with fail
 refine (write1 b l [114,101,116,114,121,32] ⟨#[114,101,116,114,121,32]⟩ w1 rfl HP1.out (by have h:=HN.out;first | (simp at h ⊢;omega) | omega | (simp at h;omega))).mono ?_
 rintro e w2 ⟨rfl,hp2,hf2⟩
 have HP2:=hid hp2
 have HF2:=hid (HF1.out.trans hf2)
 have HE2:=hid (show SB w2 z c from hf2.keep HE1.out (by decide) (by omega))
 have HA2:=hid (HA1.out.keep fun g hg=>(hf2.low (Nat.le_of_lt hs1)).block g (HX.out g hg))
 have HBB2:=hid (HBB1.out.keep fun g hg=>(hf2.low (Nat.le_of_lt hs1)).block g (HX.out g hg))
 have HC2:=hid (HC1.out.keep fun g hg=>(hf2.low (Nat.le_of_lt hs1)).block g (HX.out g hg))
 have HR2:=hid (HR1.out.keep fun g hg=>(hf2.low (Nat.le_of_lt hs1)).block g (HX.out g hg))
 have HTB2:=hid (HTB1.out.fb hf2 (Nat.le_of_lt hs1))
 have hs2 : b < w2.heap.size:=Nat.lt_of_lt_of_le hs1 hf2.size
 clear hp2 hf2 HP1 HF1 HE1 HA1 HBB1 HC1 HR1 HTB1
 clear k0
 have y4:=HE2.out.cell 4
 have y5:=HE2.out.cell 5
 have y6:=HE2.out.cell 6
 have y7:=HE2.out.cell 7
 have y8:=HE2.out.cell 8
 simp only [SC.cells,List.getElem?_cons_succ,List.getElem?_cons_zero] at y4 y5 y6 y7 y8
 go_wp2_with fail
 refine (expr_pr ea b (l ++ [114,101,116,114,121,32]) w2 _ _ _ _ _ _ _ X HP2.out HTB2.out HA2.out HX.out HWa.out (by have h:=HN.out;first | (simp at h ⊢;omega) | omega | (simp at h;omega))).mono ?_
 rintro e w3 ⟨rfl,hp3,hf3⟩
 have HP3:=hid hp3
 have HF3:=hid (HF2.out.trans hf3)
 have HE3:=hid (show SB w3 z c from hf3.keep HE2.out (by decide) (by omega))
 have HA3:=hid (HA2.out.keep fun g hg=>(hf3.low (Nat.le_of_lt hs2)).block g (HX.out g hg))
 have HBB3:=hid (HBB2.out.keep fun g hg=>(hf3.low (Nat.le_of_lt hs2)).block g (HX.out g hg))
 have HC3:=hid (HC2.out.keep fun g hg=>(hf3.low (Nat.le_of_lt hs2)).block g (HX.out g hg))
 have HR3:=hid (HR2.out.keep fun g hg=>(hf3.low (Nat.le_of_lt hs2)).block g (HX.out g hg))
 have HTB3:=hid (HTB2.out.fb hf3 (Nat.le_of_lt hs2))
 have hs3 : b < w3.heap.size:=Nat.lt_of_lt_of_le hs2 hf3.size
 clear hp3 hf3 HP2 HF2 HE2 HA2 HBB2 HC2 HR2 HTB2
 clear y4 y5 y6 y7 y8
 go_wp2_with fail
 refine (write1 b ((l ++ [114,101,116,114,121,32]) ++ tE ea) [32,101,118,101,114,121,32] ⟨#[32,101,118,101,114,121,32]⟩ w3 rfl HP3.out (by have h:=HN.out;first | (simp at h ⊢;omega) | omega | (simp at h;omega))).mono ?_
 rintro e w4 ⟨rfl,hp4,hf4⟩
 have HP4:=hid hp4
 have HF4:=hid (HF3.out.trans hf4)
 have HE4:=hid (show SB w4 z c from hf4.keep HE3.out (by decide) (by omega))
 have HA4:=hid (HA3.out.keep fun g hg=>(hf4.low (Nat.le_of_lt hs3)).block g (HX.out g hg))
 have HBB4:=hid (HBB3.out.keep fun g hg=>(hf4.low (Nat.le_of_lt hs3)).block g (HX.out g hg))
 have HC4:=hid (HC3.out.keep fun g hg=>(hf4.low (Nat.le_of_lt hs3)).block g (HX.out g hg))
 have HR4:=hid (HR3.out.keep fun g hg=>(hf4.low (Nat.le_of_lt hs3)).block g (HX.out g hg))
 have HTB4:=hid (HTB3.out.fb hf4 (Nat.le_of_lt hs3))
 have hs4 : b < w4.heap.size:=Nat.lt_of_lt_of_le hs3 hf4.size
 clear hp4 hf4 HP3 HF3 HE3 HA3 HBB3 HC3 HR3 HTB3
 have y9:=HE4.out.cell 9
 have y10:=HE4.out.cell 10
 have y11:=HE4.out.cell 11
 have y12:=HE4.out.cell 12
 have y13:=HE4.out.cell 13
 simp only [SC.cells,List.getElem?_cons_succ,List.getElem?_cons_zero] at y9 y10 y11 y12 y13
 go_wp2_with fail
 refine (expr_pr eb b (((l ++ [114,101,116,114,121,32]) ++ tE ea) ++ [32,101,118,101,114,121,32]) w4 _ _ _ _ _ _ _ X HP4.out HTB4.out HBB4.out HX.out HWb.out (by have h:=HN.out;first | (simp at h ⊢;omega) | omega | (simp at h;omega))).mono ?_
 rintro e w5 ⟨rfl,hp5,hf5⟩
 have HP5:=hid hp5
 have HF5:=hid (HF4.out.trans hf5)
 have HE5:=hid (show SB w5 z c from hf5.keep HE4.out (by decide) (by omega))
 have HA5:=hid (HA4.out.keep fun g hg=>(hf5.low (Nat.le_of_lt hs4)).block g (HX.out g hg))
 have HBB5:=hid (HBB4.out.keep fun g hg=>(hf5.low (Nat.le_of_lt hs4)).block g (HX.out g hg))
 have HC5:=hid (HC4.out.keep fun g hg=>(hf5.low (Nat.le_of_lt hs4)).block g (HX.out g hg))
 have HR5:=hid (HR4.out.keep fun g hg=>(hf5.low (Nat.le_of_lt hs4)).block g (HX.out g hg))
 have HTB5:=hid (HTB4.out.fb hf5 (Nat.le_of_lt hs4))
 have hs5 : b < w5.heap.size:=Nat.lt_of_lt_of_le hs4 hf5.size
 clear hp5 hf5 HP4 HF4 HE4 HA4 HBB4 HC4 HR4 HTB4
 clear y9 y10 y11 y12 y13
 go_wp2_with fail
 refine (write1 b ((((l ++ [114,101,116,114,121,32]) ++ tE ea) ++ [32,101,118,101,114,121,32]) ++ tE eb) [32,115,101,110,100,32] ⟨#[32,115,101,110,100,32]⟩ w5 rfl HP5.out (by have h:=HN.out;first | (simp at h ⊢;omega) | omega | (simp at h;omega))).mono ?_
 rintro e w6 ⟨rfl,hp6,hf6⟩
 have HP6:=hid hp6
 have HF6:=hid (HF5.out.trans hf6)
 have HE6:=hid (show SB w6 z c from hf6.keep HE5.out (by decide) (by omega))
 have HA6:=hid (HA5.out.keep fun g hg=>(hf6.low (Nat.le_of_lt hs5)).block g (HX.out g hg))
 have HBB6:=hid (HBB5.out.keep fun g hg=>(hf6.low (Nat.le_of_lt hs5)).block g (HX.out g hg))
 have HC6:=hid (HC5.out.keep fun g hg=>(hf6.low (Nat.le_of_lt hs5)).block g (HX.out g hg))
 have HR6:=hid (HR5.out.keep fun g hg=>(hf6.low (Nat.le_of_lt hs5)).block g (HX.out g hg))
 have HTB6:=hid (HTB5.out.fb hf6 (Nat.le_of_lt hs5))
 have hs6 : b < w6.heap.size:=Nat.lt_of_lt_of_le hs5 hf6.size
 clear hp6 hf6 HP5 HF5 HE5 HA5 HBB5 HC5 HR5 HTB5
 have y14:=HE6.out.cell 14
 have y15:=HE6.out.cell 15
 have y16:=HE6.out.cell 16
 have y17:=HE6.out.cell 17
 have y18:=HE6.out.cell 18
 simp only [SC.cells,List.getElem?_cons_succ,List.getElem?_cons_zero] at y14 y15 y16 y17 y18
 go_wp2_with fail
 refine (expr_pr ec b (((((l ++ [114,101,116,114,121,32]) ++ tE ea) ++ [32,101,118,101,114,121,32]) ++ tE eb) ++ [32,115,101,110,100,32]) w6 _ _ _ _ _ _ _ X HP6.out HTB6.out HC6.out HX.out HWc.out (by have h:=HN.out;first | (simp at h ⊢;omega) | omega | (simp at h;omega))).mono ?_
 rintro e w7 ⟨rfl,hp7,hf7⟩
 have HP7:=hid hp7
 have HF7:=hid (HF6.out.trans hf7)
 have HE7:=hid (show SB w7 z c from hf7.keep HE6.out (by decide) (by omega))
 have HA7:=hid (HA6.out.keep fun g hg=>(hf7.low (Nat.le_of_lt hs6)).block g (HX.out g hg))
 have HBB7:=hid (HBB6.out.keep fun g hg=>(hf7.low (Nat.le_of_lt hs6)).block g (HX.out g hg))
 have HC7:=hid (HC6.out.keep fun g hg=>(hf7.low (Nat.le_of_lt hs6)).block g (HX.out g hg))
 have HR7:=hid (HR6.out.keep fun g hg=>(hf7.low (Nat.le_of_lt hs6)).block g (HX.out g hg))
 have HTB7:=hid (HTB6.out.fb hf7 (Nat.le_of_lt hs6))
 have hs7 : b < w7.heap.size:=Nat.lt_of_lt_of_le hs6 hf7.size
 clear hp7 hf7 HP6 HF6 HE6 HA6 HBB6 HC6 HR6 HTB6
 clear y14 y15 y16 y17 y18
 have y19:=HE7.out.cell 19
 simp only [SC.cells,List.getElem?_cons_succ,List.getElem?_cons_zero] at y19
 go_wp2_with fail
 refine (pvia_pr b ((((((l ++ [114,101,116,114,121,32]) ++ tE ea) ++ [32,101,118,101,114,121,32]) ++ tE eb) ++ [32,115,101,110,100,32]) ++ tE ec) routes _ _ _ rs X w7 HP7.out HRF.out HR7.out HX.out (by have h:=HN.out;first | (simp at h ⊢;omega) | omega | (simp at h;omega))).mono ?_
 rintro e w8 ⟨rfl,hp8,hf8⟩
 have HP8:=hid hp8
 have HF8:=hid (HF7.out.trans hf8)
 have HE8:=hid (show SB w8 z c from hf8.keep HE7.out (by decide) (by omega))
 have HA8:=hid (HA7.out.keep fun g hg=>(hf8.low (Nat.le_of_lt hs7)).block g (HX.out g hg))
 have HBB8:=hid (HBB7.out.keep fun g hg=>(hf8.low (Nat.le_of_lt hs7)).block g (HX.out g hg))
 have HC8:=hid (HC7.out.keep fun g hg=>(hf8.low (Nat.le_of_lt hs7)).block g (HX.out g hg))
 have HR8:=hid (HR7.out.keep fun g hg=>(hf8.low (Nat.le_of_lt hs7)).block g (HX.out g hg))
 have HTB8:=hid (HTB7.out.fb hf8 (Nat.le_of_lt hs7))
 have hs8 : b < w8.heap.size:=Nat.lt_of_lt_of_le hs7 hf8.size
 clear hp8 hf8 HP7 HF7 HE7 HA7 HBB7 HC7 HR7 HTB7
 clear y19
 have y22:=HE8.out.cell 22
 have y23:=HE8.out.cell 23
 simp only [SC.cells,List.getElem?_cons_succ,List.getElem?_cons_zero] at y22 y23
 go_wp2_with fail
 refine (namedV b (((((((l ++ [114,101,116,114,121,32]) ++ tE ea) ++ [32,101,118,101,114,121,32]) ++ tE eb) ++ [32,115,101,110,100,32]) ++ tE ec) ++ rend (pcVia routes)) [32,97,115,32] tag _ _ _ w8 rfl HTG.out HP8.out (by have h:=HN.out;first | (simp at h ⊢;omega) | omega | (simp at h;omega))).mono ?_
 rintro e w9 ⟨rfl,hp9,hf9⟩
 have HP9:=hid hp9
 have HF9:=hid (HF8.out.trans hf9)
 have HE9:=hid (show SB w9 z c from hf9.keep HE8.out (by decide) (by omega))
 have HA9:=hid (HA8.out.keep fun g hg=>(hf9.low (Nat.le_of_lt hs8)).block g (HX.out g hg))
 have HBB9:=hid (HBB8.out.keep fun g hg=>(hf9.low (Nat.le_of_lt hs8)).block g (HX.out g hg))
 have HC9:=hid (HC8.out.keep fun g hg=>(hf9.low (Nat.le_of_lt hs8)).block g (HX.out g hg))
 have HR9:=hid (HR8.out.keep fun g hg=>(hf9.low (Nat.le_of_lt hs8)).block g (HX.out g hg))
 have HTB9:=hid (HTB8.out.fb hf9 (Nat.le_of_lt hs8))
 have hs9 : b < w9.heap.size:=Nat.lt_of_lt_of_le hs8 hf9.size
 clear hp9 hf9 HP8 HF8 HE8 HA8 HBB8 HC8 HR8 HTB8
 clear y22 y23
 go_wp2_with fail
 go_end0
 exact ⟨rfl,cast (congrArg (Pr w9 b) (show ((((((((l ++ [114,101,116,114,121,32]) ++ tE ea) ++ [32,101,118,101,114,121,32]) ++ tE eb) ++ [32,115,101,110,100,32]) ++ tE ec) ++ rend (pcVia routes)) ++ nmO [32,97,115,32] tag) = l ++ ([114,101,116,114,121,32] ++ (tE ea ++ ([32,101,118,101,114,121,32] ++ (tE eb ++ ([32,115,101,110,100,32] ++ (tE ec ++ (rend (pcVia routes) ++ (nmO [32,97,115,32] tag)))))))) from by simp only [List.append_assoc])) HP9.out,HF9.out⟩
theorem out_every (name : Bs) (ea eb ec : Ex) (routes : List Bs) (block tag : Bs) : rend (pcLn kEvery name ea eb ec routes block tag) = [101,118,101,114,121,32] ++ (tE ea ++ ([32,116,105,109,101,115,32] ++ (tE eb ++ ([32,99,111,118,101,114,32] ++ (rend (pcRoutes routes)))))):=by
 rw [pcLn,if_neg (by decide),if_neg (by decide),if_neg (by decide),if_neg (by decide),if_neg (by decide),if_neg (by decide),if_pos rfl]
 simp [rend,rend_app,spell,tWord,sp,tE,kEvery,kTimes,kCover]
set_option maxRecDepth 100000 in
theorem pl_every (name : Bs) (ea eb ec : Ex) (routes : List Bs) (block tag : Bs) (body els : List St) (hwa : ea.wf) (hwb : eb.wf) : LnP (.mk kEvery name ea eb ec routes block tag body els) ([101,118,101,114,121,32] ++ (tE ea ++ ([32,116,105,109,101,115,32] ++ (tE eb ++ ([32,99,111,118,101,114,32] ++ (rend (pcRoutes routes))))))):=by
 intro b l w c X h hT ht hX hlen
 have hbl:=h.lt
 obtain ⟨hki,hna,hta,htb,htc,⟨rs,hrf,hrr⟩,hbk,htg,⟨bs,hbv,hbr⟩,⟨es,hev,her⟩⟩:=ht.inv
 have hki2 : c.kind = ⟨#[101,118,101,114,121]⟩:=hki
 have HX:=hid hX
 have HN:=hid hlen
 have HNA:=hid hna
 have HBK:=hid hbk
 have HTG:=hid htg
 have HRF:=hid hrf
 have hba : Below w.heap.size w (w.alloc (.cells c.cells.toArray 64)):=(Below.refl _ w).alloc (Nat.le_refl _) _
 have HP1:=hid (h.later hba)
 have HF1:=hid (show Fb b w _ from Fb.of hba)
 have HTB1:=hid (hT.on hba (Nat.le_of_lt hbl))
 have HE1:=hid (show SB (w.alloc (.cells c.cells.toArray 64)) w.heap.size c from heap_alloc_new w _)
 have hs1 : b < (w.alloc (.cells c.cells.toArray 64)).heap.size:=Nat.lt_of_lt_of_le hbl hba.size
 have HA1:=hid (hta.keep fun g hg=>hba.block g (Nat.lt_trans (hX g hg) hbl))
 have HBB1:=hid (htb.keep fun g hg=>hba.block g (Nat.lt_trans (hX g hg) hbl))
 have HR1:=hid (hrr.keep fun g hg=>hba.block g (Nat.lt_trans (hX g hg) hbl))
 have HWa:=hid hwa
 have HWb:=hid hwb
 have k0 : (w.alloc (.cells c.cells.toArray 64)).cell? ⟨w.heap.size,0,none⟩ = some (.string ⟨#[101,118,101,114,121]⟩):=by rw [HE1.out.cell 0,← hki2];rfl
 obtain ⟨CC,hCC⟩ : ∃ CC,c.cells.toArray = CC:=⟨_,rfl⟩
 obtain ⟨CC,hCC⟩ : ∃ CC,c.cells.toArray = CC:=⟨_,rfl⟩
 rw [hCC] at HP1 HF1 HTB1 HE1 hs1 k0 hba HA1 HBB1 HR1 ⊢
 clear h hT ht hX hlen hki hna hta htb htc hrf hrr hbk htg hbv hbr hev her hki2 hCC
 go_enter Tryd.func71,Tryd.ntmps71
 go_upto_region 1 with fail
 obtain ⟨z,hz⟩ : ∃ z,w.heap.size = z:=⟨_,rfl⟩
 have hzb : b < z:=by rw [← hz];exact hbl
 rw [hz] at HE1 k0 ⊢
 generalize (w.alloc (.cells CC 64)) = w1 at *
 clear hz hba
 go_wp2_with fail
 refine (write1 b l [101,118,101,114,121,32] ⟨#[101,118,101,114,121,32]⟩ w1 rfl HP1.out (by have h:=HN.out;first | (simp at h ⊢;omega) | omega | (simp at h;omega))).mono ?_
 rintro e w2 ⟨rfl,hp2,hf2⟩
 have HP2:=hid hp2
 have HF2:=hid (HF1.out.trans hf2)
 have HE2:=hid (show SB w2 z c from hf2.keep HE1.out (by decide) (by omega))
 have HA2:=hid (HA1.out.keep fun g hg=>(hf2.low (Nat.le_of_lt hs1)).block g (HX.out g hg))
 have HBB2:=hid (HBB1.out.keep fun g hg=>(hf2.low (Nat.le_of_lt hs1)).block g (HX.out g hg))
 have HR2:=hid (HR1.out.keep fun g hg=>(hf2.low (Nat.le_of_lt hs1)).block g (HX.out g hg))
 have HTB2:=hid (HTB1.out.fb hf2 (Nat.le_of_lt hs1))
 have hs2 : b < w2.heap.size:=Nat.lt_of_lt_of_le hs1 hf2.size
 clear hp2 hf2 HP1 HF1 HE1 HA1 HBB1 HR1 HTB1
 clear k0
 have y4:=HE2.out.cell 4
 have y5:=HE2.out.cell 5
 have y6:=HE2.out.cell 6
 have y7:=HE2.out.cell 7
 have y8:=HE2.out.cell 8
 simp only [SC.cells,List.getElem?_cons_succ,List.getElem?_cons_zero] at y4 y5 y6 y7 y8
 go_wp2_with fail
 refine (expr_pr ea b (l ++ [101,118,101,114,121,32]) w2 _ _ _ _ _ _ _ X HP2.out HTB2.out HA2.out HX.out HWa.out (by have h:=HN.out;first | (simp at h ⊢;omega) | omega | (simp at h;omega))).mono ?_
 rintro e w3 ⟨rfl,hp3,hf3⟩
 have HP3:=hid hp3
 have HF3:=hid (HF2.out.trans hf3)
 have HE3:=hid (show SB w3 z c from hf3.keep HE2.out (by decide) (by omega))
 have HA3:=hid (HA2.out.keep fun g hg=>(hf3.low (Nat.le_of_lt hs2)).block g (HX.out g hg))
 have HBB3:=hid (HBB2.out.keep fun g hg=>(hf3.low (Nat.le_of_lt hs2)).block g (HX.out g hg))
 have HR3:=hid (HR2.out.keep fun g hg=>(hf3.low (Nat.le_of_lt hs2)).block g (HX.out g hg))
 have HTB3:=hid (HTB2.out.fb hf3 (Nat.le_of_lt hs2))
 have hs3 : b < w3.heap.size:=Nat.lt_of_lt_of_le hs2 hf3.size
 clear hp3 hf3 HP2 HF2 HE2 HA2 HBB2 HR2 HTB2
 clear y4 y5 y6 y7 y8
 go_wp2_with fail
 refine (write1 b ((l ++ [101,118,101,114,121,32]) ++ tE ea) [32,116,105,109,101,115,32] ⟨#[32,116,105,109,101,115,32]⟩ w3 rfl HP3.out (by have h:=HN.out;first | (simp at h ⊢;omega) | omega | (simp at h;omega))).mono ?_
 rintro e w4 ⟨rfl,hp4,hf4⟩
 have HP4:=hid hp4
 have HF4:=hid (HF3.out.trans hf4)
 have HE4:=hid (show SB w4 z c from hf4.keep HE3.out (by decide) (by omega))
 have HA4:=hid (HA3.out.keep fun g hg=>(hf4.low (Nat.le_of_lt hs3)).block g (HX.out g hg))
 have HBB4:=hid (HBB3.out.keep fun g hg=>(hf4.low (Nat.le_of_lt hs3)).block g (HX.out g hg))
 have HR4:=hid (HR3.out.keep fun g hg=>(hf4.low (Nat.le_of_lt hs3)).block g (HX.out g hg))
 have HTB4:=hid (HTB3.out.fb hf4 (Nat.le_of_lt hs3))
 have hs4 : b < w4.heap.size:=Nat.lt_of_lt_of_le hs3 hf4.size
 clear hp4 hf4 HP3 HF3 HE3 HA3 HBB3 HR3 HTB3
 have y9:=HE4.out.cell 9
 have y10:=HE4.out.cell 10
 have y11:=HE4.out.cell 11
 have y12:=HE4.out.cell 12
 have y13:=HE4.out.cell 13
 simp only [SC.cells,List.getElem?_cons_succ,List.getElem?_cons_zero] at y9 y10 y11 y12 y13
 go_wp2_with fail
 refine (expr_pr eb b (((l ++ [101,118,101,114,121,32]) ++ tE ea) ++ [32,116,105,109,101,115,32]) w4 _ _ _ _ _ _ _ X HP4.out HTB4.out HBB4.out HX.out HWb.out (by have h:=HN.out;first | (simp at h ⊢;omega) | omega | (simp at h;omega))).mono ?_
 rintro e w5 ⟨rfl,hp5,hf5⟩
 have HP5:=hid hp5
 have HF5:=hid (HF4.out.trans hf5)
 have HE5:=hid (show SB w5 z c from hf5.keep HE4.out (by decide) (by omega))
 have HA5:=hid (HA4.out.keep fun g hg=>(hf5.low (Nat.le_of_lt hs4)).block g (HX.out g hg))
 have HBB5:=hid (HBB4.out.keep fun g hg=>(hf5.low (Nat.le_of_lt hs4)).block g (HX.out g hg))
 have HR5:=hid (HR4.out.keep fun g hg=>(hf5.low (Nat.le_of_lt hs4)).block g (HX.out g hg))
 have HTB5:=hid (HTB4.out.fb hf5 (Nat.le_of_lt hs4))
 have hs5 : b < w5.heap.size:=Nat.lt_of_lt_of_le hs4 hf5.size
 clear hp5 hf5 HP4 HF4 HE4 HA4 HBB4 HR4 HTB4
 clear y9 y10 y11 y12 y13
 go_wp2_with fail
 refine (write1 b ((((l ++ [101,118,101,114,121,32]) ++ tE ea) ++ [32,116,105,109,101,115,32]) ++ tE eb) [32,99,111,118,101,114,32] ⟨#[32,99,111,118,101,114,32]⟩ w5 rfl HP5.out (by have h:=HN.out;first | (simp at h ⊢;omega) | omega | (simp at h;omega))).mono ?_
 rintro e w6 ⟨rfl,hp6,hf6⟩
 have HP6:=hid hp6
 have HF6:=hid (HF5.out.trans hf6)
 have HE6:=hid (show SB w6 z c from hf6.keep HE5.out (by decide) (by omega))
 have HA6:=hid (HA5.out.keep fun g hg=>(hf6.low (Nat.le_of_lt hs5)).block g (HX.out g hg))
 have HBB6:=hid (HBB5.out.keep fun g hg=>(hf6.low (Nat.le_of_lt hs5)).block g (HX.out g hg))
 have HR6:=hid (HR5.out.keep fun g hg=>(hf6.low (Nat.le_of_lt hs5)).block g (HX.out g hg))
 have HTB6:=hid (HTB5.out.fb hf6 (Nat.le_of_lt hs5))
 have hs6 : b < w6.heap.size:=Nat.lt_of_lt_of_le hs5 hf6.size
 clear hp6 hf6 HP5 HF5 HE5 HA5 HBB5 HR5 HTB5
 have y19:=HE6.out.cell 19
 simp only [SC.cells,List.getElem?_cons_succ,List.getElem?_cons_zero] at y19
 go_wp2_with fail
 refine (routes_pr b (((((l ++ [101,118,101,114,121,32]) ++ tE ea) ++ [32,116,105,109,101,115,32]) ++ tE eb) ++ [32,99,111,118,101,114,32]) routes _ _ _ rs X w6 HP6.out HRF.out HR6.out HX.out (by have h:=HN.out;first | (simp at h ⊢;omega) | omega | (simp at h;omega))).mono ?_
 rintro e w7 ⟨rfl,hp7,hf7⟩
 have HP7:=hid hp7
 have HF7:=hid (HF6.out.trans hf7)
 have HE7:=hid (show SB w7 z c from hf7.keep HE6.out (by decide) (by omega))
 have HA7:=hid (HA6.out.keep fun g hg=>(hf7.low (Nat.le_of_lt hs6)).block g (HX.out g hg))
 have HBB7:=hid (HBB6.out.keep fun g hg=>(hf7.low (Nat.le_of_lt hs6)).block g (HX.out g hg))
 have HR7:=hid (HR6.out.keep fun g hg=>(hf7.low (Nat.le_of_lt hs6)).block g (HX.out g hg))
 have HTB7:=hid (HTB6.out.fb hf7 (Nat.le_of_lt hs6))
 have hs7 : b < w7.heap.size:=Nat.lt_of_lt_of_le hs6 hf7.size
 clear hp7 hf7 HP6 HF6 HE6 HA6 HBB6 HR6 HTB6
 clear y19
 go_wp2_with fail
 go_end0
 exact ⟨rfl,cast (congrArg (Pr w7 b) (show ((((((l ++ [101,118,101,114,121,32]) ++ tE ea) ++ [32,116,105,109,101,115,32]) ++ tE eb) ++ [32,99,111,118,101,114,32]) ++ rend (pcRoutes routes)) = l ++ ([101,118,101,114,121,32] ++ (tE ea ++ ([32,116,105,109,101,115,32] ++ (tE eb ++ ([32,99,111,118,101,114,32] ++ (rend (pcRoutes routes))))))) from by simp only [List.append_assoc])) HP7.out,HF7.out⟩
theorem line_pr {kind name : Bs} {ea eb ec : Ex} {routes : List Bs} {block tag : Bs} {body els : List St} (h : LineW (.mk kind name ea eb ec routes block tag body els)) : LnP (.mk kind name ea eb ec routes block tag body els) (rend (pcLn kind name ea eb ec routes block tag)):=by
 cases h with
 | send h1 _ _ _=>rw [out_send];exact pl_send _ _ _ _ _ _ _ _ _ h1.1
 | split h1 _ _ _=>rw [out_split];exact pl_split _ _ _ _ _ _ _ _ _ h1.1
 | cover _=>rw [out_cover];exact pl_cover _ _ _ _ _ _ _ _ _
 | wait h1=>rw [out_wait];exact pl_wait _ _ _ _ _ _ _ _ _ h1.1
 | block _ _=>rw [out_block];exact pl_block _ _ _ _ _ _ _ _ _
 | retry h1 h2 h3 _ _=>rw [out_retry];exact pl_retry _ _ _ _ _ _ _ _ _ h1.1 h2.1 h3.1
 | every h1 h2 _=>rw [out_every];exact pl_every _ _ _ _ _ _ _ _ _ h1.1 h2.1
end
end Go.Proofs.YtgmjpnnblhkbpaaDoor
namespace Go.Proofs.YtgmjpnnblhkbpaaDoor
open Go Go.RowKit Go.Sh Tx
open Go.Lib (hid)
theorem rend_at (x : Bs) (e : Ex) (he : e ≠ .none) : rend (pcAt x e) = x ++ rend (parP (!e.bare) (pcE e)):=by
 cases e with
 | none=>exact absurd rfl he
 | _=>simp [pcAt,rend,spell,tMark]
theorem rend_l (d : Nat) (l : List St) (t : St) : rend (pcL d (l ++ [t])) = rend (pcL d l) ++ (rend [ind d] ++ rend (pcS d t)):=by
 induction l with
 | nil=>simp [pcL,rend,ind]
 | cons y l ih=>
   rw [List.cons_append,pcL,pcL,rend.eq_def (ind d :: _),rend.eq_def (ind d :: _)]
   simp only [ind,rend_app,List.append_assoc] at ih ⊢
   rw [ih]
theorem rend_l_len (d : Nat) : ∀ (l : List St) (j : Nat),(rend (pcL d (l.take j))).length ≤ (rend (pcL d l)).length
 | [],j=>by simp [pcL,rend]
 | x :: l,0=>by simp [pcL,rend]
 | x :: l,j + 1=>by
   have:=rend_l_len d l j
   rw [List.take_succ_cons,pcL,pcL]
   simp only [rend,ind,rend_app,List.length_append]
   omega
theorem rend_s_pos (d : Nat) (t : St) : 1 ≤ (rend (pcS d t)).length:=by
 obtain ⟨kind,name,a,b,c,routes,block,tag,body,els⟩:=t
 rw [pcS,rend_app,List.length_append]
 simp [rend]
theorem rend_l_num (d : Nat) : ∀ l : List St,l.length ≤ (rend (pcL d l)).length
 | []=>Nat.zero_le _
 | x :: l=>by
   have h1:=rend_l_num d l
   have h2:=rend_s_pos d x
   rw [pcL]
   simp only [rend,ind,rend_app,List.length_append,List.length_cons]
   omega
theorem StV.at_ {X : Nat → Prop} {w : World} {l : List St} {css : List (List Value)} (h : StV X w l css) {j : Nat} {cs : List Value} (hc : css[j]? = some cs) : ∃ (t : St) (c : SC),l[j]? = some t ∧ cs = c.cells ∧ StV X w [t] [c.cells]:=by
 induction h generalizing j with
 | nil=>simp at hc
 | @cons kind name a b c routes block tag body els l k rs bs es css h1 h2 h3 h4 h5 h6 h7 h8 h9 h10 h11 h12 _ _ _ ih=>
   cases j with
   | zero=>
     obtain rfl:=Option.some.inj hc
     exact ⟨_,k,rfl,rfl,.cons h1 h2 h3 h4 h5 h6 h7 h8 h9 h10 h11 h12 .nil⟩
   | succ j=>exact ih hc
def StP (t : St) (d : Nat) : Prop:=∀ (b : Nat) (l : Bs) (w : World) (c : SC) (X : Nat → Prop),Pr w b l → TabX b w → StV X w [t] [c.cells] → (∀ g,X g → g < b) → (l ++ rend (pcS d t)).length ≤ 10000000000000 →
 Calls Tryd.prog 52 #[.pointer (some ⟨b,0,none⟩),.agg c.cells.toArray,.int .i64 (d : Int)] w (PrPost b (l ++ rend (pcS d t)) w)
def StsP (ts : List St) (d : Nat) : Prop:=∀ (b : Nat) (l : Bs) (w : World) (A : Option Addr) (n c : Nat) (css : List (List Value)) (X : Nat → Prop),Pr w b l → TabX b w → StV X w ts css → RP X w 26 A n css → (∀ g,X g → g < b) → (l ++ rend (pcL d ts)).length ≤ 10000000000000 →
 Calls Tryd.prog 24 #[.pointer (some ⟨b,0,none⟩),.slice A n c,.int .i64 (d : Int)] w (PrPost b (l ++ rend (pcL d ts)) w)
def BoP (ts : List St) (d : Nat) : Prop:=∀ (b : Nat) (l : Bs) (w : World) (A : Option Addr) (n c : Nat) (css : List (List Value)) (X : Nat → Prop),Pr w b l → TabX b w → StV X w ts css → RP X w 26 A n css → (∀ g,X g → g < b) → (l ++ rend (pcB d ts)).length ≤ 10000000000000 →
 Calls Tryd.prog 70 #[.pointer (some ⟨b,0,none⟩),.slice A n c,.int .i64 (d : Int)] w (PrPost b (l ++ rend (pcB d ts)) w)
theorem indent_pr (b : Nat) (l : Bs) (d : Nat) (w : World) (h : Pr w b l) (hd : d ≤ 1000) (hlen : (l ++ rend [ind d]).length ≤ 10000000000000) :
   Calls Tryd.prog 51 #[.pointer (some ⟨b,0,none⟩),.int .i64 (d : Int)] w (PrPost b (l ++ rend [ind d]) w):=indent_any b l d w h hd (by omega)
section
set_option maxHeartbeats 16000000
set_option maxRecDepth 100000
set_option maxRecDepth 100000 in
theorem atom_pr (e : Ex) (mark : Bs) (M : ByteArray) (hM : sb mark = M) (he : e = .none ∨ e.wf) (b : Nat) (l : Bs) (w : World) (o t : ByteArray) (m a : Int) (A : Option Addr) (n d : Nat) (X : Nat → Prop) (h : Pr w b l) (hT : TabX b w) (ht : TrV X w [e] [[.string o,.int .i64 m,.string t,.int .i64 a,.slice A n d]]) (hX : ∀ g,X g → g < b) (hlen : (l ++ rend (pcAt mark e)).length ≤ 10000000000000) :
   Calls Tryd.prog 50 #[.pointer (some ⟨b,0,none⟩),.string M,.agg #[.string o,.int .i64 m,.string t,.int .i64 a,.slice A n d]] w (PrPost b (l ++ rend (pcAt mark e)) w):=by
 have hbl:=h.lt
 have HM:=hid hM
 have HX:=hid hX
 have hba : Below w.heap.size w (w.alloc (.cells #[.string o,.int .i64 m,.string t,.int .i64 a,.slice A n d] 55)):=(Below.refl _ w).alloc (Nat.le_refl _) _
 have HP1:=hid (h.later hba)
 have HF1:=hid (show Fb b w _ from Fb.of hba)
 have HTB1:=hid (hT.on hba (Nat.le_of_lt hbl))
 have HE1:=hid (show EB (w.alloc (.cells #[.string o,.int .i64 m,.string t,.int .i64 a,.slice A n d] 55)) w.heap.size (.string o) (.int .i64 m) (.string t) (.int .i64 a) (.slice A n d) from heap_alloc_new w _)
 have HT1:=hid (ht.keep fun g hg=>hba.block g (Nat.lt_trans (hX g hg) hbl))
 have hs1 : b < (w.alloc (.cells #[.string o,.int .i64 m,.string t,.int .i64 a,.slice A n d] 55)).heap.size:=Nat.lt_of_lt_of_le hbl hba.size
 have ho:=ht.inv.1
 rcases he with rfl | hw
 · obtain rfl : o = ⟨#[]⟩:=ho
   clear h hT ht hX hlen hM
   (try clear ho)
   go_enter Tryd.func50,Tryd.ntmps50
   go_wp2_with fail
   go_end0
   exact ⟨rfl,cast (congrArg (Pr _ b) (by simp [pcAt,rend])) HP1.out,HF1.out⟩
 · have hne : e ≠ .none:=by rintro rfl;cases hw
   rw [rend_at mark e hne] at hlen ⊢
   have HN:=hid hlen
   have HW:=hid hw
   have hcase : (o = ⟨#[110,117,109,98,101,114]⟩ ∧ (!e.bare) = false) ∨ (o = ⟨#[110,97,109,101]⟩ ∧ (!e.bare) = false) ∨ ((o.toList == []) = false ∧ (o.toList == [110,117,109,98,101,114]) = false ∧ (o.toList == [110,97,109,101]) = false ∧ (!e.bare) = true):=by
     rw [ho,toList_sb]
     cases e with
     | none=>exact absurd rfl hne
     | num v=>exact .inl ⟨rfl,rfl⟩
     | name x=>exact .inr (.inl ⟨rfl,rfl⟩)
     | text x=>exact .inr (.inr ⟨(by decide : (oText == []) = false),(by decide : (oText == [110,117,109,98,101,114]) = false),(by decide : (oText == [110,97,109,101]) = false),rfl⟩)
     | join l=>exact .inr (.inr ⟨(by decide : (kJoin == []) = false),(by decide : (kJoin == [110,117,109,98,101,114]) = false),(by decide : (kJoin == [110,97,109,101]) = false),rfl⟩)
     | bin q x y=>
       have hq : (q == []) = false ∧ (q == [110,117,109,98,101,114]) = false ∧ (q == [110,97,109,101]) = false:=by
         rcases hw.1 with rfl | rfl | rfl <;> decide
       exact .inr (.inr ⟨hq.1,hq.2.1,hq.2.2,rfl⟩)
   clear h hT ht hX hlen hM ho hne hw
   rcases hcase with ⟨rfl,hb⟩ | ⟨rfl,hb⟩ | ⟨e1,e2,e3,hb⟩
   · rw [hb] at HN ⊢
     clear hb
     go_enter Tryd.func50,Tryd.ntmps50
     go_upto_region 1 with fail
     obtain ⟨z,hz⟩ : ∃ z,w.heap.size = z:=⟨_,rfl⟩
     have hzb : b < z:=by rw [← hz];exact hbl
     rw [hz] at HE1 ⊢
     generalize w.alloc (.cells #[.string ⟨#[110,117,109,98,101,114]⟩,.int .i64 m,.string t,.int .i64 a,.slice A n d] 55) = w1 at *
     clear hz hba
     have y0:=HE1.out.c0
     have y1:=HE1.out.c1
     have y2:=HE1.out.c2
     have y3:=HE1.out.c3
     have y4:=HE1.out.c4
     go_wp2_with fail
     refine (write1 b l mark M w1 HM.out HP1.out (by have h:=HN.out;first | (simp at h ⊢;omega) | omega | (simp at h;omega))).mono ?_
     rintro e w2 ⟨rfl,hp2,hf2⟩
     have HP2:=hid hp2
     have HF2:=hid (HF1.out.trans hf2)
     have HE2:=hid (show EB w2 z (.string ⟨#[110,117,109,98,101,114]⟩) (.int .i64 m) (.string t) (.int .i64 a) (.slice A n d) from hf2.keep HE1.out (by decide) (by omega))
     have HT2:=hid (HT1.out.keep fun g hg=>(hf2.low (Nat.le_of_lt hs1)).block g (HX.out g hg))
     have HTB2:=hid (HTB1.out.fb hf2 (Nat.le_of_lt hs1))
     have hs2 : b < w2.heap.size:=Nat.lt_of_lt_of_le hs1 hf2.size
     clear hp2 hf2 HP1 HF1 HE1 HT1 HTB1
     clear y0 y1 y2 y3 y4
     have y0:=HE2.out.c0
     have y1:=HE2.out.c1
     have y2:=HE2.out.c2
     have y3:=HE2.out.c3
     have y4:=HE2.out.c4
     go_wp2_with fail
     refine (operand_pr e false b (l ++ mark) w2 _ t m a A n d X HP2.out HTB2.out HT2.out HX.out HW.out (by have h:=HN.out;first | (simp at h ⊢;omega) | omega | (simp at h;omega))).mono ?_
     rintro e w3 ⟨rfl,hp3,hf3⟩
     have HP3:=hid hp3
     have HF3:=hid (HF2.out.trans hf3)
     have HE3:=hid (show EB w3 z (.string ⟨#[110,117,109,98,101,114]⟩) (.int .i64 m) (.string t) (.int .i64 a) (.slice A n d) from hf3.keep HE2.out (by decide) (by omega))
     have HT3:=hid (HT2.out.keep fun g hg=>(hf3.low (Nat.le_of_lt hs2)).block g (HX.out g hg))
     have HTB3:=hid (HTB2.out.fb hf3 (Nat.le_of_lt hs2))
     have hs3 : b < w3.heap.size:=Nat.lt_of_lt_of_le hs2 hf3.size
     clear hp3 hf3 HP2 HF2 HE2 HT2 HTB2
     clear y0 y1 y2 y3 y4
     go_wp2_with fail
     go_end0
     exact ⟨rfl,cast (congrArg (Pr w3 b) (show ((l ++ mark) ++ rend (parP false (pcE e))) = l ++ (mark ++ rend (parP false (pcE e))) from by simp only [List.append_assoc])) HP3.out,HF3.out⟩
   · rw [hb] at HN ⊢
     clear hb
     go_enter Tryd.func50,Tryd.ntmps50
     go_upto_region 1 with fail
     obtain ⟨z,hz⟩ : ∃ z,w.heap.size = z:=⟨_,rfl⟩
     have hzb : b < z:=by rw [← hz];exact hbl
     rw [hz] at HE1 ⊢
     generalize w.alloc (.cells #[.string ⟨#[110,97,109,101]⟩,.int .i64 m,.string t,.int .i64 a,.slice A n d] 55) = w1 at *
     clear hz hba
     have y0:=HE1.out.c0
     have y1:=HE1.out.c1
     have y2:=HE1.out.c2
     have y3:=HE1.out.c3
     have y4:=HE1.out.c4
     go_wp2_with fail
     refine (write1 b l mark M w1 HM.out HP1.out (by have h:=HN.out;first | (simp at h ⊢;omega) | omega | (simp at h;omega))).mono ?_
     rintro e w2 ⟨rfl,hp2,hf2⟩
     have HP2:=hid hp2
     have HF2:=hid (HF1.out.trans hf2)
     have HE2:=hid (show EB w2 z (.string ⟨#[110,97,109,101]⟩) (.int .i64 m) (.string t) (.int .i64 a) (.slice A n d) from hf2.keep HE1.out (by decide) (by omega))
     have HT2:=hid (HT1.out.keep fun g hg=>(hf2.low (Nat.le_of_lt hs1)).block g (HX.out g hg))
     have HTB2:=hid (HTB1.out.fb hf2 (Nat.le_of_lt hs1))
     have hs2 : b < w2.heap.size:=Nat.lt_of_lt_of_le hs1 hf2.size
     clear hp2 hf2 HP1 HF1 HE1 HT1 HTB1
     clear y0 y1 y2 y3 y4
     have y0:=HE2.out.c0
     have y1:=HE2.out.c1
     have y2:=HE2.out.c2
     have y3:=HE2.out.c3
     have y4:=HE2.out.c4
     go_wp2_with fail
     refine (operand_pr e false b (l ++ mark) w2 _ t m a A n d X HP2.out HTB2.out HT2.out HX.out HW.out (by have h:=HN.out;first | (simp at h ⊢;omega) | omega | (simp at h;omega))).mono ?_
     rintro e w3 ⟨rfl,hp3,hf3⟩
     have HP3:=hid hp3
     have HF3:=hid (HF2.out.trans hf3)
     have HE3:=hid (show EB w3 z (.string ⟨#[110,97,109,101]⟩) (.int .i64 m) (.string t) (.int .i64 a) (.slice A n d) from hf3.keep HE2.out (by decide) (by omega))
     have HT3:=hid (HT2.out.keep fun g hg=>(hf3.low (Nat.le_of_lt hs2)).block g (HX.out g hg))
     have HTB3:=hid (HTB2.out.fb hf3 (Nat.le_of_lt hs2))
     have hs3 : b < w3.heap.size:=Nat.lt_of_lt_of_le hs2 hf3.size
     clear hp3 hf3 HP2 HF2 HE2 HT2 HTB2
     clear y0 y1 y2 y3 y4
     go_wp2_with fail
     go_end0
     exact ⟨rfl,cast (congrArg (Pr w3 b) (show ((l ++ mark) ++ rend (parP false (pcE e))) = l ++ (mark ++ rend (parP false (pcE e))) from by simp only [List.append_assoc])) HP3.out,HF3.out⟩
   · rw [hb] at HN ⊢
     clear hb
     go_enter Tryd.func50,Tryd.ntmps50
     go_upto_region 1 with fail
     obtain ⟨z,hz⟩ : ∃ z,w.heap.size = z:=⟨_,rfl⟩
     have hzb : b < z:=by rw [← hz];exact hbl
     rw [hz] at HE1 ⊢
     generalize w.alloc (.cells #[.string o,.int .i64 m,.string t,.int .i64 a,.slice A n d] 55) = w1 at *
     clear hz hba
     have y0:=HE1.out.c0
     have y1:=HE1.out.c1
     have y2:=HE1.out.c2
     have y3:=HE1.out.c3
     have y4:=HE1.out.c4
     go_wp2_with fail
     refine (write1 b l mark M w1 HM.out HP1.out (by have h:=HN.out;first | (simp at h ⊢;omega) | omega | (simp at h;omega))).mono ?_
     rintro e w2 ⟨rfl,hp2,hf2⟩
     have HP2:=hid hp2
     have HF2:=hid (HF1.out.trans hf2)
     have HE2:=hid (show EB w2 z (.string o) (.int .i64 m) (.string t) (.int .i64 a) (.slice A n d) from hf2.keep HE1.out (by decide) (by omega))
     have HT2:=hid (HT1.out.keep fun g hg=>(hf2.low (Nat.le_of_lt hs1)).block g (HX.out g hg))
     have HTB2:=hid (HTB1.out.fb hf2 (Nat.le_of_lt hs1))
     have hs2 : b < w2.heap.size:=Nat.lt_of_lt_of_le hs1 hf2.size
     clear hp2 hf2 HP1 HF1 HE1 HT1 HTB1
     clear y0 y1 y2 y3 y4
     have y0:=HE2.out.c0
     have y1:=HE2.out.c1
     have y2:=HE2.out.c2
     have y3:=HE2.out.c3
     have y4:=HE2.out.c4
     go_wp2_with fail
     refine (operand_pr e true b (l ++ mark) w2 _ t m a A n d X HP2.out HTB2.out HT2.out HX.out HW.out (by have h:=HN.out;first | (simp at h ⊢;omega) | omega | (simp at h;omega))).mono ?_
     rintro e w3 ⟨rfl,hp3,hf3⟩
     have HP3:=hid hp3
     have HF3:=hid (HF2.out.trans hf3)
     have HE3:=hid (show EB w3 z (.string o) (.int .i64 m) (.string t) (.int .i64 a) (.slice A n d) from hf3.keep HE2.out (by decide) (by omega))
     have HT3:=hid (HT2.out.keep fun g hg=>(hf3.low (Nat.le_of_lt hs2)).block g (HX.out g hg))
     have HTB3:=hid (HTB2.out.fb hf3 (Nat.le_of_lt hs2))
     have hs3 : b < w3.heap.size:=Nat.lt_of_lt_of_le hs2 hf3.size
     clear hp3 hf3 HP2 HF2 HE2 HT2 HTB2
     clear y0 y1 y2 y3 y4
     go_wp2_with fail
     go_end0
     exact ⟨rfl,cast (congrArg (Pr w3 b) (show ((l ++ mark) ++ rend (parP true (pcE e))) = l ++ (mark ++ rend (parP true (pcE e))) from by simp only [List.append_assoc])) HP3.out,HF3.out⟩
set_option maxRecDepth 100000 in
theorem stmts_of {ts : List St} {d : Nat} (hd : d ≤ 1000) (ih : ∀ t ∈ ts,StP t d) : StsP ts d:=by
 intro b l w A n c css X h hT hv hr hX hlen
 have hbl:=h.lt
 have hln : ts.length = n:=by have h2:=hv.len;have h3:=hr.1;omega
 have hnb : n ≤ 10000000000001:=by have h1:=rend_l_num d ts;rw [List.length_append] at hlen;omega
 have HLN:=hid hln
 have HIH:=hid ih
 have HV:=hid hv
 have HRR:=hid (hr.rr (B:=b) hX)
 have HX:=hid hX
 have HTB:=hid hT
 have HN:=hid hlen
 have HD:=hid hd
 have HE0:=hid (show Pr w b (l ++ rend (pcL d (ts.take 0))) by simpa [pcL,rend] using h)
 clear h hT hv hr hX hlen hln ih hd
 go_enter Tryd.func24,Tryd.ntmps24
 go_wp2_with fail
 go_loopw [10] (fun i wr=>∃ j : Nat,j ≤ n ∧ i = .int .i64 (j : Int) ∧ Pr wr b (l ++ rend (pcL d (ts.take j))) ∧ Fb b w wr) (fun i _=>n - (intOf i).toNat)
 case atStart=>exact ⟨0,by omega,by first | rfl | simp,HE0.out,Fb.refl⟩
 case round=>
   obtain ⟨j,hj,rfl,hp,hf⟩:=hrel
   have HPr:=hid hp
   have HFr:=hid hf
   have hblr : b < wr.heap.size:=Nat.lt_of_lt_of_le hbl hf.size
   have hlow:=hf.low (Nat.le_of_lt hbl)
   have HRr:=hid (HRR.out.below hlow)
   have HVr:=hid (HV.out.keep fun g hg=>hlow.block g (HX.out g hg))
   have HTB0:=hid (HTB.out.fb hf (Nat.le_of_lt hbl))
   clear hp hf HE0 hlow
   by_cases hlt : j < n
   · have hji : (j : Int) < (n : Int):=by omega
     have hwj : IntKind.i64.wrap ((j : Int) + 1) = (j : Int) + 1:=by rw [IntKind.wrap_i64];omega
     obtain ⟨ab,off,cs,hA,hbB,hcs,hcl,hrg⟩:=HRr.out.at_ hlt
     obtain ⟨t,c2,ht,rfl,htv⟩:=HVr.out.at_ hcs
     subst hA
     have HTK:=hid (show rend (pcL d (ts.take (j + 1))) = rend (pcL d (ts.take j)) ++ (rend [ind d] ++ rend (pcS d t)) by rw [List.take_add_one,ht];exact rend_l d _ t)
     have HLE:=hid (rend_l_len d ts (j + 1))
     have HST:=hid (HIH.out t (List.mem_of_getElem? ht))
     have HN2:=hid (show (l ++ rend (pcL d (ts.take j)) ++ rend [ind d] ++ rend (pcS d t)).length ≤ 10000000000000 by have h1:=HN.out;have h2:=HLE.out;rw [HTK.out] at h2;simp only [List.length_append] at h1 h2 ⊢;omega)
     have hba : Below wr.heap.size wr (wr.alloc (.cells c2.cells.toArray 64)):=(Below.refl _ wr).alloc (Nat.le_refl _) _
     have HP1:=hid (HPr.out.later hba)
     have HF1:=hid (HFr.out.trans (Fb.of hba))
     have HE1:=hid (show SB (wr.alloc (.cells c2.cells.toArray 64)) wr.heap.size c2 from heap_alloc_new wr _)
     have hs1 : b < (wr.alloc (.cells c2.cells.toArray 64)).heap.size:=Nat.lt_of_lt_of_le hblr hba.size
     have HV1:=hid (htv.keep fun g hg=>hba.block g (Nat.lt_trans (HX.out g hg) hblr))
     have HTB1:=hid (HTB0.out.on hba (Nat.le_of_lt hblr))
     have hi1:=hid (show (Tryd.prog.info? 64).map (·.size) = some c2.cells.length from infoSt c2)
     have hi2:=hid (infoSt c2)
     have hx1:=hid (SC.oneA c2)
     have hXs : c2.cells.toArray.size = SC.zero.cells.toArray.size:=rfl
     obtain ⟨Y,hY⟩ : ∃ Y : List Value,c2.cells = Y:=⟨_,rfl⟩
     have HY:=hid hY
     rw [hY] at hrg hba HP1 HF1 hs1 hi1 hi2 hx1 hXs HTB1
     have HE1':=hid (show (wr.alloc (.cells Y.toArray 64)).heap[wr.heap.size]? = some (.cells Y.toArray 64 (0,0)) from heap_alloc_new wr _)
     have HV1':=hid (show StV X (wr.alloc (.cells Y.toArray 64)) [t] [c2.cells] by have:=HV1.out;rw [hY] at this ⊢;exact this)
     clear hcl hcs ht htv hY HE1 HV1
     go_upto_region 3 with (first | (refine wl_load_mid (by rfl) 64 (.tmp 12) rfl ab (off + j * 26) rfl Y _ hrg Tryd.underlying64 rfl hi1.out ?_) | (refine wl_store_all (by rfl) 64 (.tmp 7) (.tmp 13) rfl wr.heap.size Y.toArray rfl rfl SC.zero.cells.toArray _ (heap_alloc_new wr _) hXs hi2.out hx1.out ?_))
     rw [alloc_setRow]
     obtain ⟨z,hz⟩ : ∃ z,wr.heap.size = z:=⟨_,rfl⟩
     have hzb : b < z:=by rw [← hz];exact hblr
     rw [hz] at HE1' ⊢
     clear hz hba HPr HFr HRr HVr HTB0 hrg
     generalize wr.alloc (.cells Y.toArray 64) = w1 at *
     have HE1:=HE1'
     have HV1:=HV1'
     clear HE1' HV1'
     have HM:=HN
     clear HN
     have HN:=HN2
     clear HN2
     go_wp2_with fail
     refine (indent_pr b (l ++ rend (pcL d (ts.take j))) d w1 HP1.out HD.out (by have h:=HN.out;simp only [List.length_append] at h ⊢;omega)).mono ?_
     rintro e w2 ⟨rfl,hp2,hf2⟩
     have HP2:=hid hp2
     have HF2:=hid (HF1.out.trans hf2)
     have HE2:=hid (show w2.heap[z]? = some (.cells Y.toArray 64 (0,0)) from hf2.keep HE1.out (by decide) (by omega))
     have HV2:=hid (HV1.out.keep fun g hg=>(hf2.low (Nat.le_of_lt hs1)).block g (HX.out g hg))
     have HTB2:=hid (HTB1.out.fb hf2 (Nat.le_of_lt hs1))
     have hs2 : b < w2.heap.size:=Nat.lt_of_lt_of_le hs1 hf2.size
     clear hp2 hf2 HP1 HF1 HE1 HV1 HTB1
     have hrx : w2.rangeAt z 0 Y:=blk_range HE2.out
     go_wp2_with (refine wl_load_mid (by rfl) 64 (.tmp 7) rfl z 0 rfl Y _ hrx Tryd.underlying64 rfl hi1.out ?_)
     have HSC:=hid (HST.out b ((l ++ rend (pcL d (ts.take j))) ++ rend [ind d]) w2 c2 X HP2.out HTB2.out HV2.out HX.out HN.out)
     rw [HY.out] at HSC
     refine HSC.out.mono ?_
     rintro e w3 ⟨rfl,hp3,hf3⟩
     have HP3:=hid hp3
     have HF3:=hid (HF2.out.trans hf3)
     clear hp3 hf3 HP2 HF2 HSC hrx
     go_wp2_with fail
     exact ⟨⟨j + 1,by omega,by first | rfl | (congr 1;omega),cast (congrArg (Pr w3 b) (show ((l ++ rend (pcL d (ts.take j))) ++ rend [ind d]) ++ rend (pcS d t) = l ++ rend (pcL d (ts.take (j + 1))) from by rw [HTK.out];simp only [List.append_assoc])) HP3.out,HF3.out⟩,by simp [intOf];omega⟩
   · have hge : ¬ ((j : Int) < (n : Int)):=by omega
     have HE:=hid (show ts.take j = ts from List.take_of_length_le (by rw [HLN.out];omega))
     go_wp2_with fail
     go_end0
     exact ⟨rfl,by have:=HPr.out;rwa [HE.out] at this,HFr.out⟩
set_option maxRecDepth 100000 in
theorem body_of {ts : List St} {d : Nat} (hd : d ≤ 1000) (hst : StsP ts (d + 1)) : BoP ts d:=by
 intro b l w0 A n c css X h hT hv hr hX hlen
 have hs0:=h.lt
 have HEQ:=hid (show rend (pcB d ts) = [32,123,10] ++ (rend (pcL (d + 1) ts) ++ (rend [ind d] ++ [125])) by rw [pcB];simp [rend,rend_app,sp,spell,tMark,kLb,kRb,ind])
 rw [HEQ.out] at hlen ⊢
 have HN:=hid hlen
 have HX:=hid hX
 have HP0:=hid h
 have HTB0:=hid hT
 have HV0:=hid hv
 have HR0:=hid hr
 have HF0:=hid (show Fb b w0 w0 from Fb.refl)
 have HST:=hid hst
 have hwd : IntKind.i64.wrap ((d : Int) + 1) = ((d + 1 : Nat) : Int):=by rw [IntKind.wrap_i64];omega
 clear h hT hv hr hX hlen hst
 go_enter Tryd.func70,Tryd.ntmps70
 go_wp2_with fail
 refine (write1 b l [32,123,10] ⟨#[32,123,10]⟩ w0 rfl HP0.out (by have h:=HN.out;first | (simp at h ⊢;omega) | omega | (simp at h;omega))).mono ?_
 rintro e w1 ⟨rfl,hp1,hf1⟩
 have HP1:=hid hp1
 have HF1:=hid (HF0.out.trans hf1)
 have HV1:=hid (HV0.out.keep fun g hg=>(hf1.low (Nat.le_of_lt hs0)).block g (HX.out g hg))
 have HR1:=hid (HR0.out.keep fun g hg=>(hf1.low (Nat.le_of_lt hs0)).block g (HX.out g hg))
 have HTB1:=hid (HTB0.out.fb hf1 (Nat.le_of_lt hs0))
 have hs1 : b < w1.heap.size:=Nat.lt_of_lt_of_le hs0 hf1.size
 clear hp1 hf1 HP0 HF0 HV0 HR0 HTB0
 go_wp2_with fail
 refine (HST.out b (l ++ [32,123,10]) w1 A n c css X HP1.out HTB1.out HV1.out HR1.out HX.out (by have h:=HN.out;first | (simp at h ⊢;omega) | omega | (simp at h;omega))).mono ?_
 rintro e w2 ⟨rfl,hp2,hf2⟩
 have HP2:=hid hp2
 have HF2:=hid (HF1.out.trans hf2)
 have HV2:=hid (HV1.out.keep fun g hg=>(hf2.low (Nat.le_of_lt hs1)).block g (HX.out g hg))
 have HR2:=hid (HR1.out.keep fun g hg=>(hf2.low (Nat.le_of_lt hs1)).block g (HX.out g hg))
 have HTB2:=hid (HTB1.out.fb hf2 (Nat.le_of_lt hs1))
 have hs2 : b < w2.heap.size:=Nat.lt_of_lt_of_le hs1 hf2.size
 clear hp2 hf2 HP1 HF1 HV1 HR1 HTB1
 go_wp2_with fail
 refine (indent_pr b ((l ++ [32,123,10]) ++ rend (pcL (d + 1) ts)) d w2 HP2.out hd (by have h:=HN.out;first | (simp at h ⊢;omega) | omega | (simp at h;omega))).mono ?_
 rintro e w3 ⟨rfl,hp3,hf3⟩
 have HP3:=hid hp3
 have HF3:=hid (HF2.out.trans hf3)
 have HV3:=hid (HV2.out.keep fun g hg=>(hf3.low (Nat.le_of_lt hs2)).block g (HX.out g hg))
 have HR3:=hid (HR2.out.keep fun g hg=>(hf3.low (Nat.le_of_lt hs2)).block g (HX.out g hg))
 have HTB3:=hid (HTB2.out.fb hf3 (Nat.le_of_lt hs2))
 have hs3 : b < w3.heap.size:=Nat.lt_of_lt_of_le hs2 hf3.size
 clear hp3 hf3 HP2 HF2 HV2 HR2 HTB2
 go_wp2_with fail
 refine (write1 b (((l ++ [32,123,10]) ++ rend (pcL (d + 1) ts)) ++ rend [ind d]) [125] ⟨#[125]⟩ w3 rfl HP3.out (by have h:=HN.out;first | (simp at h ⊢;omega) | omega | (simp at h;omega))).mono ?_
 rintro e w4 ⟨rfl,hp4,hf4⟩
 have HP4:=hid hp4
 have HF4:=hid (HF3.out.trans hf4)
 have HV4:=hid (HV3.out.keep fun g hg=>(hf4.low (Nat.le_of_lt hs3)).block g (HX.out g hg))
 have HR4:=hid (HR3.out.keep fun g hg=>(hf4.low (Nat.le_of_lt hs3)).block g (HX.out g hg))
 have HTB4:=hid (HTB3.out.fb hf4 (Nat.le_of_lt hs3))
 have hs4 : b < w4.heap.size:=Nat.lt_of_lt_of_le hs3 hf4.size
 clear hp4 hf4 HP3 HF3 HV3 HR3 HTB3
 go_wp2_with fail
 go_end0
 exact ⟨rfl,cast (congrArg (Pr w4 b) (show ((((l ++ [32,123,10]) ++ rend (pcL (d + 1) ts)) ++ rend [ind d]) ++ [125]) = l ++ ([32,123,10] ++ (rend (pcL (d + 1) ts) ++ (rend [ind d] ++ [125]))) from by simp only [List.append_assoc])) HP4.out,HF4.out⟩
set_option maxRecDepth 100000 in
theorem ps_after (name : Bs) (ea eb ec : Ex) (routes : List Bs) (block tag : Bs) (body : List St) (els : List St) (d : Nat) (hwa : ea.wf) (hbo : BoP body d) : StP (.mk kAfter name ea eb ec routes block tag body els) d:=by
 intro b l w c X h hT ht hX hlen
 have HEQ:=hid (show rend (pcS d (.mk kAfter name ea eb ec routes block tag body els)) = [97,102,116,101,114,32] ++ (tE ea ++ (rend (pcB d body) ++ ([10]))) by rw [pcS,if_pos rfl];simp [rend,rend_app,spell,tWord,sp,tE,kAfter])
 rw [HEQ.out] at hlen ⊢
 have hbl:=h.lt
 obtain ⟨hki,hna,hta,htb,htc,⟨rs,hrf,hrr⟩,hbk,htg,⟨bs,hbv,hbr⟩,⟨es,hev,her⟩⟩:=ht.inv
 have hki2 : c.kind = ⟨#[97,102,116,101,114]⟩:=hki
 have HX:=hid hX
 have HN:=hid hlen
 have HNA:=hid hna
 have HBK:=hid hbk
 have HTG:=hid htg
 have HRF:=hid hrf
 have hba : Below w.heap.size w (w.alloc (.cells c.cells.toArray 64)):=(Below.refl _ w).alloc (Nat.le_refl _) _
 have HP1:=hid (h.later hba)
 have HF1:=hid (show Fb b w _ from Fb.of hba)
 have HTB1:=hid (hT.on hba (Nat.le_of_lt hbl))
 have HE1:=hid (show SB (w.alloc (.cells c.cells.toArray 64)) w.heap.size c from heap_alloc_new w _)
 have hs1 : b < (w.alloc (.cells c.cells.toArray 64)).heap.size:=Nat.lt_of_lt_of_le hbl hba.size
 have HA1:=hid (hta.keep fun g hg=>hba.block g (Nat.lt_trans (hX g hg) hbl))
 have HUV1:=hid (hbv.keep fun g hg=>hba.block g (Nat.lt_trans (hX g hg) hbl))
 have HUR1:=hid (hbr.keep fun g hg=>hba.block g (Nat.lt_trans (hX g hg) hbl))
 have HBO:=hid hbo
 clear HEQ
 have HWa:=hid hwa
 have k0 : (w.alloc (.cells c.cells.toArray 64)).cell? ⟨w.heap.size,0,none⟩ = some (.string ⟨#[97,102,116,101,114]⟩):=by rw [HE1.out.cell 0,← hki2];rfl
 obtain ⟨CC,hCC⟩ : ∃ CC,c.cells.toArray = CC:=⟨_,rfl⟩
 obtain ⟨CC,hCC⟩ : ∃ CC,c.cells.toArray = CC:=⟨_,rfl⟩
 rw [hCC] at HP1 HF1 HTB1 HE1 hs1 k0 hba HA1 HUV1 HUR1 ⊢
 clear h hT ht hX hlen hki hna hta htb htc hrf hrr hbk htg hbv hbr hev her hki2 hCC
 go_enter Tryd.func52,Tryd.ntmps52
 go_upto_region 1 with fail
 obtain ⟨z,hz⟩ : ∃ z,w.heap.size = z:=⟨_,rfl⟩
 have hzb : b < z:=by rw [← hz];exact hbl
 rw [hz] at HE1 k0 ⊢
 generalize (w.alloc (.cells CC 64)) = w1 at *
 clear hz hba
 go_wp2_with fail
 refine (write1 b l [97,102,116,101,114,32] ⟨#[97,102,116,101,114,32]⟩ w1 rfl HP1.out (by have h:=HN.out;first | (simp at h ⊢;omega) | omega | (simp at h;omega))).mono ?_
 rintro e w2 ⟨rfl,hp2,hf2⟩
 have HP2:=hid hp2
 have HF2:=hid (HF1.out.trans hf2)
 have HE2:=hid (show SB w2 z c from hf2.keep HE1.out (by decide) (by omega))
 have HA2:=hid (HA1.out.keep fun g hg=>(hf2.low (Nat.le_of_lt hs1)).block g (HX.out g hg))
 have HUV2:=hid (HUV1.out.keep fun g hg=>(hf2.low (Nat.le_of_lt hs1)).block g (HX.out g hg))
 have HUR2:=hid (HUR1.out.keep fun g hg=>(hf2.low (Nat.le_of_lt hs1)).block g (HX.out g hg))
 have HTB2:=hid (HTB1.out.fb hf2 (Nat.le_of_lt hs1))
 have hs2 : b < w2.heap.size:=Nat.lt_of_lt_of_le hs1 hf2.size
 clear hp2 hf2 HP1 HF1 HE1 HA1 HUV1 HUR1 HTB1
 clear k0
 have y4:=HE2.out.cell 4
 have y5:=HE2.out.cell 5
 have y6:=HE2.out.cell 6
 have y7:=HE2.out.cell 7
 have y8:=HE2.out.cell 8
 simp only [SC.cells,List.getElem?_cons_succ,List.getElem?_cons_zero] at y4 y5 y6 y7 y8
 go_wp2_with fail
 refine (expr_pr ea b (l ++ [97,102,116,101,114,32]) w2 _ _ _ _ _ _ _ X HP2.out HTB2.out HA2.out HX.out HWa.out (by have h:=HN.out;first | (simp at h ⊢;omega) | omega | (simp at h;omega))).mono ?_
 rintro e w3 ⟨rfl,hp3,hf3⟩
 have HP3:=hid hp3
 have HF3:=hid (HF2.out.trans hf3)
 have HE3:=hid (show SB w3 z c from hf3.keep HE2.out (by decide) (by omega))
 have HA3:=hid (HA2.out.keep fun g hg=>(hf3.low (Nat.le_of_lt hs2)).block g (HX.out g hg))
 have HUV3:=hid (HUV2.out.keep fun g hg=>(hf3.low (Nat.le_of_lt hs2)).block g (HX.out g hg))
 have HUR3:=hid (HUR2.out.keep fun g hg=>(hf3.low (Nat.le_of_lt hs2)).block g (HX.out g hg))
 have HTB3:=hid (HTB2.out.fb hf3 (Nat.le_of_lt hs2))
 have hs3 : b < w3.heap.size:=Nat.lt_of_lt_of_le hs2 hf3.size
 clear hp3 hf3 HP2 HF2 HE2 HA2 HUV2 HUR2 HTB2
 clear y4 y5 y6 y7 y8
 have y24:=HE3.out.cell 24
 simp only [SC.cells,List.getElem?_cons_succ,List.getElem?_cons_zero] at y24
 go_wp2_with fail
 refine (HBO.out b ((l ++ [97,102,116,101,114,32]) ++ tE ea) w3 _ _ _ _ X HP3.out HTB3.out HUV3.out HUR3.out HX.out (by have h:=HN.out;first | (simp at h ⊢;omega) | omega | (simp at h;omega))).mono ?_
 rintro e w4 ⟨rfl,hp4,hf4⟩
 have HP4:=hid hp4
 have HF4:=hid (HF3.out.trans hf4)
 have HE4:=hid (show SB w4 z c from hf4.keep HE3.out (by decide) (by omega))
 have HA4:=hid (HA3.out.keep fun g hg=>(hf4.low (Nat.le_of_lt hs3)).block g (HX.out g hg))
 have HUV4:=hid (HUV3.out.keep fun g hg=>(hf4.low (Nat.le_of_lt hs3)).block g (HX.out g hg))
 have HUR4:=hid (HUR3.out.keep fun g hg=>(hf4.low (Nat.le_of_lt hs3)).block g (HX.out g hg))
 have HTB4:=hid (HTB3.out.fb hf4 (Nat.le_of_lt hs3))
 have hs4 : b < w4.heap.size:=Nat.lt_of_lt_of_le hs3 hf4.size
 clear hp4 hf4 HP3 HF3 HE3 HA3 HUV3 HUR3 HTB3
 clear y24
 go_wp2_with fail
 refine (write1 b (((l ++ [97,102,116,101,114,32]) ++ tE ea) ++ rend (pcB d body)) [10] ⟨#[10]⟩ w4 rfl HP4.out (by have h:=HN.out;first | (simp at h ⊢;omega) | omega | (simp at h;omega))).mono ?_
 rintro e w5 ⟨rfl,hp5,hf5⟩
 have HP5:=hid hp5
 have HF5:=hid (HF4.out.trans hf5)
 have HE5:=hid (show SB w5 z c from hf5.keep HE4.out (by decide) (by omega))
 have HA5:=hid (HA4.out.keep fun g hg=>(hf5.low (Nat.le_of_lt hs4)).block g (HX.out g hg))
 have HUV5:=hid (HUV4.out.keep fun g hg=>(hf5.low (Nat.le_of_lt hs4)).block g (HX.out g hg))
 have HUR5:=hid (HUR4.out.keep fun g hg=>(hf5.low (Nat.le_of_lt hs4)).block g (HX.out g hg))
 have HTB5:=hid (HTB4.out.fb hf5 (Nat.le_of_lt hs4))
 have hs5 : b < w5.heap.size:=Nat.lt_of_lt_of_le hs4 hf5.size
 clear hp5 hf5 HP4 HF4 HE4 HA4 HUV4 HUR4 HTB4
 go_wp2_with fail
 go_end0
 exact ⟨rfl,cast (congrArg (Pr w5 b) (show ((((l ++ [97,102,116,101,114,32]) ++ tE ea) ++ rend (pcB d body)) ++ [10]) = l ++ ([97,102,116,101,114,32] ++ (tE ea ++ (rend (pcB d body) ++ ([10])))) from by simp only [List.append_assoc])) HP5.out,HF5.out⟩
set_option maxRecDepth 100000 in
theorem ps_repeat (name : Bs) (ea eb ec : Ex) (routes : List Bs) (block tag : Bs) (body : List St) (els : List St) (d : Nat) (hwa : ea.wf) (hbo : BoP body d) : StP (.mk kRepeat name ea eb ec routes block tag body els) d:=by
 intro b l w c X h hT ht hX hlen
 have HEQ:=hid (show rend (pcS d (.mk kRepeat name ea eb ec routes block tag body els)) = [114,101,112,101,97,116,32] ++ name ++ [32] ++ (tE ea ++ (rend (pcB d body) ++ ([10]))) by rw [pcS,if_neg (by decide),if_pos rfl];simp [rend,rend_app,spell,tWord,tName,sp,tE,kRepeat])
 rw [HEQ.out] at hlen ⊢
 have hbl:=h.lt
 obtain ⟨hki,hna,hta,htb,htc,⟨rs,hrf,hrr⟩,hbk,htg,⟨bs,hbv,hbr⟩,⟨es,hev,her⟩⟩:=ht.inv
 have hki2 : c.kind = ⟨#[114,101,112,101,97,116]⟩:=hki
 have HX:=hid hX
 have HN:=hid hlen
 have HNA:=hid hna
 have HBK:=hid hbk
 have HTG:=hid htg
 have HRF:=hid hrf
 have hba : Below w.heap.size w (w.alloc (.cells c.cells.toArray 64)):=(Below.refl _ w).alloc (Nat.le_refl _) _
 have HP1:=hid (h.later hba)
 have HF1:=hid (show Fb b w _ from Fb.of hba)
 have HTB1:=hid (hT.on hba (Nat.le_of_lt hbl))
 have HE1:=hid (show SB (w.alloc (.cells c.cells.toArray 64)) w.heap.size c from heap_alloc_new w _)
 have hs1 : b < (w.alloc (.cells c.cells.toArray 64)).heap.size:=Nat.lt_of_lt_of_le hbl hba.size
 have HA1:=hid (hta.keep fun g hg=>hba.block g (Nat.lt_trans (hX g hg) hbl))
 have HUV1:=hid (hbv.keep fun g hg=>hba.block g (Nat.lt_trans (hX g hg) hbl))
 have HUR1:=hid (hbr.keep fun g hg=>hba.block g (Nat.lt_trans (hX g hg) hbl))
 have HBO:=hid hbo
 clear HEQ
 have HWa:=hid hwa
 have k0 : (w.alloc (.cells c.cells.toArray 64)).cell? ⟨w.heap.size,0,none⟩ = some (.string ⟨#[114,101,112,101,97,116]⟩):=by rw [HE1.out.cell 0,← hki2];rfl
 obtain ⟨CC,hCC⟩ : ∃ CC,c.cells.toArray = CC:=⟨_,rfl⟩
 obtain ⟨CC,hCC⟩ : ∃ CC,c.cells.toArray = CC:=⟨_,rfl⟩
 rw [hCC] at HP1 HF1 HTB1 HE1 hs1 k0 hba HA1 HUV1 HUR1 ⊢
 clear h hT ht hX hlen hki hna hta htb htc hrf hrr hbk htg hbv hbr hev her hki2 hCC
 go_enter Tryd.func52,Tryd.ntmps52
 go_upto_region 1 with fail
 obtain ⟨z,hz⟩ : ∃ z,w.heap.size = z:=⟨_,rfl⟩
 have hzb : b < z:=by rw [← hz];exact hbl
 rw [hz] at HE1 k0 ⊢
 generalize (w.alloc (.cells CC 64)) = w1 at *
 clear hz hba
 have y2:=HE1.out.cell 2
 simp only [SC.cells,List.getElem?_cons_succ,List.getElem?_cons_zero] at y2
 go_wp2_with fail
 refine (write3 b l [114,101,112,101,97,116,32] name [32] ⟨#[114,101,112,101,97,116,32]⟩ c.name.t ⟨#[32]⟩ w1 rfl HNA.out rfl HP1.out (by have h:=HN.out;first | (simp at h ⊢;omega) | omega | (simp at h;omega))).mono ?_
 rintro e w2 ⟨rfl,hp2,hf2⟩
 have HP2:=hid hp2
 have HF2:=hid (HF1.out.trans hf2)
 have HE2:=hid (show SB w2 z c from hf2.keep HE1.out (by decide) (by omega))
 have HA2:=hid (HA1.out.keep fun g hg=>(hf2.low (Nat.le_of_lt hs1)).block g (HX.out g hg))
 have HUV2:=hid (HUV1.out.keep fun g hg=>(hf2.low (Nat.le_of_lt hs1)).block g (HX.out g hg))
 have HUR2:=hid (HUR1.out.keep fun g hg=>(hf2.low (Nat.le_of_lt hs1)).block g (HX.out g hg))
 have HTB2:=hid (HTB1.out.fb hf2 (Nat.le_of_lt hs1))
 have hs2 : b < w2.heap.size:=Nat.lt_of_lt_of_le hs1 hf2.size
 clear hp2 hf2 HP1 HF1 HE1 HA1 HUV1 HUR1 HTB1
 clear k0
 clear y2
 have y4:=HE2.out.cell 4
 have y5:=HE2.out.cell 5
 have y6:=HE2.out.cell 6
 have y7:=HE2.out.cell 7
 have y8:=HE2.out.cell 8
 simp only [SC.cells,List.getElem?_cons_succ,List.getElem?_cons_zero] at y4 y5 y6 y7 y8
 go_wp2_with fail
 refine (expr_pr ea b (l ++ ([114,101,112,101,97,116,32] ++ name ++ [32])) w2 _ _ _ _ _ _ _ X HP2.out HTB2.out HA2.out HX.out HWa.out (by have h:=HN.out;first | (simp at h ⊢;omega) | omega | (simp at h;omega))).mono ?_
 rintro e w3 ⟨rfl,hp3,hf3⟩
 have HP3:=hid hp3
 have HF3:=hid (HF2.out.trans hf3)
 have HE3:=hid (show SB w3 z c from hf3.keep HE2.out (by decide) (by omega))
 have HA3:=hid (HA2.out.keep fun g hg=>(hf3.low (Nat.le_of_lt hs2)).block g (HX.out g hg))
 have HUV3:=hid (HUV2.out.keep fun g hg=>(hf3.low (Nat.le_of_lt hs2)).block g (HX.out g hg))
 have HUR3:=hid (HUR2.out.keep fun g hg=>(hf3.low (Nat.le_of_lt hs2)).block g (HX.out g hg))
 have HTB3:=hid (HTB2.out.fb hf3 (Nat.le_of_lt hs2))
 have hs3 : b < w3.heap.size:=Nat.lt_of_lt_of_le hs2 hf3.size
 clear hp3 hf3 HP2 HF2 HE2 HA2 HUV2 HUR2 HTB2
 clear y4 y5 y6 y7 y8
 have y24:=HE3.out.cell 24
 simp only [SC.cells,List.getElem?_cons_succ,List.getElem?_cons_zero] at y24
 go_wp2_with fail
 refine (HBO.out b ((l ++ ([114,101,112,101,97,116,32] ++ name ++ [32])) ++ tE ea) w3 _ _ _ _ X HP3.out HTB3.out HUV3.out HUR3.out HX.out (by have h:=HN.out;first | (simp at h ⊢;omega) | omega | (simp at h;omega))).mono ?_
 rintro e w4 ⟨rfl,hp4,hf4⟩
 have HP4:=hid hp4
 have HF4:=hid (HF3.out.trans hf4)
 have HE4:=hid (show SB w4 z c from hf4.keep HE3.out (by decide) (by omega))
 have HA4:=hid (HA3.out.keep fun g hg=>(hf4.low (Nat.le_of_lt hs3)).block g (HX.out g hg))
 have HUV4:=hid (HUV3.out.keep fun g hg=>(hf4.low (Nat.le_of_lt hs3)).block g (HX.out g hg))
 have HUR4:=hid (HUR3.out.keep fun g hg=>(hf4.low (Nat.le_of_lt hs3)).block g (HX.out g hg))
 have HTB4:=hid (HTB3.out.fb hf4 (Nat.le_of_lt hs3))
 have hs4 : b < w4.heap.size:=Nat.lt_of_lt_of_le hs3 hf4.size
 clear hp4 hf4 HP3 HF3 HE3 HA3 HUV3 HUR3 HTB3
 clear y24
 go_wp2_with fail
 refine (write1 b (((l ++ ([114,101,112,101,97,116,32] ++ name ++ [32])) ++ tE ea) ++ rend (pcB d body)) [10] ⟨#[10]⟩ w4 rfl HP4.out (by have h:=HN.out;first | (simp at h ⊢;omega) | omega | (simp at h;omega))).mono ?_
 rintro e w5 ⟨rfl,hp5,hf5⟩
 have HP5:=hid hp5
 have HF5:=hid (HF4.out.trans hf5)
 have HE5:=hid (show SB w5 z c from hf5.keep HE4.out (by decide) (by omega))
 have HA5:=hid (HA4.out.keep fun g hg=>(hf5.low (Nat.le_of_lt hs4)).block g (HX.out g hg))
 have HUV5:=hid (HUV4.out.keep fun g hg=>(hf5.low (Nat.le_of_lt hs4)).block g (HX.out g hg))
 have HUR5:=hid (HUR4.out.keep fun g hg=>(hf5.low (Nat.le_of_lt hs4)).block g (HX.out g hg))
 have HTB5:=hid (HTB4.out.fb hf5 (Nat.le_of_lt hs4))
 have hs5 : b < w5.heap.size:=Nat.lt_of_lt_of_le hs4 hf5.size
 clear hp5 hf5 HP4 HF4 HE4 HA4 HUV4 HUR4 HTB4
 go_wp2_with fail
 go_end0
 exact ⟨rfl,cast (congrArg (Pr w5 b) (show ((((l ++ ([114,101,112,101,97,116,32] ++ name ++ [32])) ++ tE ea) ++ rend (pcB d body)) ++ [10]) = l ++ ([114,101,112,101,97,116,32] ++ name ++ [32] ++ (tE ea ++ (rend (pcB d body) ++ ([10])))) from by simp only [List.append_assoc])) HP5.out,HF5.out⟩
set_option maxRecDepth 100000 in
theorem ps_ifOne (name : Bs) (ea eb ec : Ex) (routes : List Bs) (block tag : Bs) (body : List St) (d : Nat) (hbo : BoP body d) : StP (.mk kIf name ea eb ec routes block tag body []) d:=by
 intro b l w c X h hT ht hX hlen
 have HEQ:=hid (show rend (pcS d (.mk kIf name ea eb ec routes block tag body [])) = [105,102,32,97,99,107,101,100,32] ++ tag ++ (rend (pcB d body) ++ ([10])) by rw [pcS,if_neg (by decide),if_neg (by decide),if_pos rfl];simp [rend,rend_app,spell,tWord,tName,sp,pcX,kIf,kAcked])
 rw [HEQ.out] at hlen ⊢
 have hbl:=h.lt
 obtain ⟨hki,hna,hta,htb,htc,⟨rs,hrf,hrr⟩,hbk,htg,⟨bs,hbv,hbr⟩,⟨es,hev,her⟩⟩:=ht.inv
 have hki2 : c.kind = ⟨#[105,102]⟩:=hki
 have HX:=hid hX
 have HN:=hid hlen
 have HNA:=hid hna
 have HBK:=hid hbk
 have HTG:=hid htg
 have HRF:=hid hrf
 have hba : Below w.heap.size w (w.alloc (.cells c.cells.toArray 64)):=(Below.refl _ w).alloc (Nat.le_refl _) _
 have HP1:=hid (h.later hba)
 have HF1:=hid (show Fb b w _ from Fb.of hba)
 have HTB1:=hid (hT.on hba (Nat.le_of_lt hbl))
 have HE1:=hid (show SB (w.alloc (.cells c.cells.toArray 64)) w.heap.size c from heap_alloc_new w _)
 have hs1 : b < (w.alloc (.cells c.cells.toArray 64)).heap.size:=Nat.lt_of_lt_of_le hbl hba.size
 have HUV1:=hid (hbv.keep fun g hg=>hba.block g (Nat.lt_trans (hX g hg) hbl))
 have HUR1:=hid (hbr.keep fun g hg=>hba.block g (Nat.lt_trans (hX g hg) hbl))
 have HVR1:=hid (her.keep fun g hg=>hba.block g (Nat.lt_trans (hX g hg) hbl))
 have HBO:=hid hbo
 clear HEQ
 have hn0 : c.els.n = 0:=by have h1:=her.1;have h2 : es.length = 0:=hev.len;omega
 have HN0:=hid hn0
 clear hn0
 have k0 : (w.alloc (.cells c.cells.toArray 64)).cell? ⟨w.heap.size,0,none⟩ = some (.string ⟨#[105,102]⟩):=by rw [HE1.out.cell 0,← hki2];rfl
 obtain ⟨CC,hCC⟩ : ∃ CC,c.cells.toArray = CC:=⟨_,rfl⟩
 obtain ⟨CC,hCC⟩ : ∃ CC,c.cells.toArray = CC:=⟨_,rfl⟩
 rw [hCC] at HP1 HF1 HTB1 HE1 hs1 k0 hba HUV1 HUR1 HVR1 ⊢
 clear h hT ht hX hlen hki hna hta htb htc hrf hrr hbk htg hbv hbr hev her hki2 hCC
 go_enter Tryd.func52,Tryd.ntmps52
 go_upto_region 1 with fail
 obtain ⟨z,hz⟩ : ∃ z,w.heap.size = z:=⟨_,rfl⟩
 have hzb : b < z:=by rw [← hz];exact hbl
 rw [hz] at HE1 k0 ⊢
 generalize (w.alloc (.cells CC 64)) = w1 at *
 clear hz hba
 have y22:=HE1.out.cell 22
 simp only [SC.cells,List.getElem?_cons_succ,List.getElem?_cons_zero] at y22
 go_wp2_with fail
 refine (write2 b l [105,102,32,97,99,107,101,100,32] tag ⟨#[105,102,32,97,99,107,101,100,32]⟩ c.tag.t w1 rfl HTG.out HP1.out (by have h:=HN.out;first | (simp at h ⊢;omega) | omega | (simp at h;omega))).mono ?_
 rintro e w2 ⟨rfl,hp2,hf2⟩
 have HP2:=hid hp2
 have HF2:=hid (HF1.out.trans hf2)
 have HE2:=hid (show SB w2 z c from hf2.keep HE1.out (by decide) (by omega))
 have HUV2:=hid (HUV1.out.keep fun g hg=>(hf2.low (Nat.le_of_lt hs1)).block g (HX.out g hg))
 have HUR2:=hid (HUR1.out.keep fun g hg=>(hf2.low (Nat.le_of_lt hs1)).block g (HX.out g hg))
 have HVR2:=hid (HVR1.out.keep fun g hg=>(hf2.low (Nat.le_of_lt hs1)).block g (HX.out g hg))
 have HTB2:=hid (HTB1.out.fb hf2 (Nat.le_of_lt hs1))
 have hs2 : b < w2.heap.size:=Nat.lt_of_lt_of_le hs1 hf2.size
 clear hp2 hf2 HP1 HF1 HE1 HUV1 HUR1 HVR1 HTB1
 clear k0
 clear y22
 have y24:=HE2.out.cell 24
 simp only [SC.cells,List.getElem?_cons_succ,List.getElem?_cons_zero] at y24
 go_wp2_with fail
 refine (HBO.out b (l ++ ([105,102,32,97,99,107,101,100,32] ++ tag)) w2 _ _ _ _ X HP2.out HTB2.out HUV2.out HUR2.out HX.out (by have h:=HN.out;first | (simp at h ⊢;omega) | omega | (simp at h;omega))).mono ?_
 rintro e w3 ⟨rfl,hp3,hf3⟩
 have HP3:=hid hp3
 have HF3:=hid (HF2.out.trans hf3)
 have HE3:=hid (show SB w3 z c from hf3.keep HE2.out (by decide) (by omega))
 have HUV3:=hid (HUV2.out.keep fun g hg=>(hf3.low (Nat.le_of_lt hs2)).block g (HX.out g hg))
 have HUR3:=hid (HUR2.out.keep fun g hg=>(hf3.low (Nat.le_of_lt hs2)).block g (HX.out g hg))
 have HVR3:=hid (HVR2.out.keep fun g hg=>(hf3.low (Nat.le_of_lt hs2)).block g (HX.out g hg))
 have HTB3:=hid (HTB2.out.fb hf3 (Nat.le_of_lt hs2))
 have hs3 : b < w3.heap.size:=Nat.lt_of_lt_of_le hs2 hf3.size
 clear hp3 hf3 HP2 HF2 HE2 HUV2 HUR2 HVR2 HTB2
 clear y24
 have y25:=HE3.out.cell 25
 simp only [SC.cells,List.getElem?_cons_succ,List.getElem?_cons_zero] at y25
 rw [HN0.out] at y25
 go_wp2_with fail
 refine (write1 b ((l ++ ([105,102,32,97,99,107,101,100,32] ++ tag)) ++ rend (pcB d body)) [10] ⟨#[10]⟩ w3 rfl HP3.out (by have h:=HN.out;first | (simp at h ⊢;omega) | omega | (simp at h;omega))).mono ?_
 rintro e w4 ⟨rfl,hp4,hf4⟩
 have HP4:=hid hp4
 have HF4:=hid (HF3.out.trans hf4)
 have HE4:=hid (show SB w4 z c from hf4.keep HE3.out (by decide) (by omega))
 have HUV4:=hid (HUV3.out.keep fun g hg=>(hf4.low (Nat.le_of_lt hs3)).block g (HX.out g hg))
 have HUR4:=hid (HUR3.out.keep fun g hg=>(hf4.low (Nat.le_of_lt hs3)).block g (HX.out g hg))
 have HVR4:=hid (HVR3.out.keep fun g hg=>(hf4.low (Nat.le_of_lt hs3)).block g (HX.out g hg))
 have HTB4:=hid (HTB3.out.fb hf4 (Nat.le_of_lt hs3))
 have hs4 : b < w4.heap.size:=Nat.lt_of_lt_of_le hs3 hf4.size
 clear hp4 hf4 HP3 HF3 HE3 HUV3 HUR3 HVR3 HTB3
 go_wp2_with fail
 go_end0
 exact ⟨rfl,cast (congrArg (Pr w4 b) (show (((l ++ ([105,102,32,97,99,107,101,100,32] ++ tag)) ++ rend (pcB d body)) ++ [10]) = l ++ ([105,102,32,97,99,107,101,100,32] ++ tag ++ (rend (pcB d body) ++ ([10]))) from by simp only [List.append_assoc])) HP4.out,HF4.out⟩
set_option maxRecDepth 100000 in
theorem ps_ifTwo (name : Bs) (ea eb ec : Ex) (routes : List Bs) (block tag : Bs) (body : List St) (e0 : St) (els : List St) (d : Nat) (hbo : BoP body d) (hvo : BoP (e0 :: els) d) : StP (.mk kIf name ea eb ec routes block tag body (e0 :: els)) d:=by
 intro b l w c X h hT ht hX hlen
 have HEQ:=hid (show rend (pcS d (.mk kIf name ea eb ec routes block tag body (e0 :: els))) = [105,102,32,97,99,107,101,100,32] ++ tag ++ (rend (pcB d body) ++ ([32,101,108,115,101] ++ (rend (pcB d (e0 :: els)) ++ ([10])))) by rw [pcS,if_neg (by decide),if_neg (by decide),if_pos rfl];simp [rend,rend_app,spell,tWord,tName,sp,pcX,kIf,kAcked,kElse])
 rw [HEQ.out] at hlen ⊢
 have hbl:=h.lt
 obtain ⟨hki,hna,hta,htb,htc,⟨rs,hrf,hrr⟩,hbk,htg,⟨bs,hbv,hbr⟩,⟨es,hev,her⟩⟩:=ht.inv
 have hki2 : c.kind = ⟨#[105,102]⟩:=hki
 have HX:=hid hX
 have HN:=hid hlen
 have HNA:=hid hna
 have HBK:=hid hbk
 have HTG:=hid htg
 have HRF:=hid hrf
 have hba : Below w.heap.size w (w.alloc (.cells c.cells.toArray 64)):=(Below.refl _ w).alloc (Nat.le_refl _) _
 have HP1:=hid (h.later hba)
 have HF1:=hid (show Fb b w _ from Fb.of hba)
 have HTB1:=hid (hT.on hba (Nat.le_of_lt hbl))
 have HE1:=hid (show SB (w.alloc (.cells c.cells.toArray 64)) w.heap.size c from heap_alloc_new w _)
 have hs1 : b < (w.alloc (.cells c.cells.toArray 64)).heap.size:=Nat.lt_of_lt_of_le hbl hba.size
 have HUV1:=hid (hbv.keep fun g hg=>hba.block g (Nat.lt_trans (hX g hg) hbl))
 have HUR1:=hid (hbr.keep fun g hg=>hba.block g (Nat.lt_trans (hX g hg) hbl))
 have HVV1:=hid (hev.keep fun g hg=>hba.block g (Nat.lt_trans (hX g hg) hbl))
 have HVR1:=hid (her.keep fun g hg=>hba.block g (Nat.lt_trans (hX g hg) hbl))
 have HBO:=hid hbo
 clear HEQ
 have HVO:=hid hvo
 have hn0 : (0 : Int) < (c.els.n : Int):=by have h1:=her.1;have h2 : es.length = (e0 :: els).length:=hev.len;simp at h2;omega
 have HN0:=hid hn0
 clear hn0
 have k0 : (w.alloc (.cells c.cells.toArray 64)).cell? ⟨w.heap.size,0,none⟩ = some (.string ⟨#[105,102]⟩):=by rw [HE1.out.cell 0,← hki2];rfl
 obtain ⟨CC,hCC⟩ : ∃ CC,c.cells.toArray = CC:=⟨_,rfl⟩
 obtain ⟨CC,hCC⟩ : ∃ CC,c.cells.toArray = CC:=⟨_,rfl⟩
 rw [hCC] at HP1 HF1 HTB1 HE1 hs1 k0 hba HUV1 HUR1 HVV1 HVR1 ⊢
 clear h hT ht hX hlen hki hna hta htb htc hrf hrr hbk htg hbv hbr hev her hki2 hCC
 go_enter Tryd.func52,Tryd.ntmps52
 go_upto_region 1 with fail
 obtain ⟨z,hz⟩ : ∃ z,w.heap.size = z:=⟨_,rfl⟩
 have hzb : b < z:=by rw [← hz];exact hbl
 rw [hz] at HE1 k0 ⊢
 generalize (w.alloc (.cells CC 64)) = w1 at *
 clear hz hba
 have y22:=HE1.out.cell 22
 simp only [SC.cells,List.getElem?_cons_succ,List.getElem?_cons_zero] at y22
 go_wp2_with fail
 refine (write2 b l [105,102,32,97,99,107,101,100,32] tag ⟨#[105,102,32,97,99,107,101,100,32]⟩ c.tag.t w1 rfl HTG.out HP1.out (by have h:=HN.out;first | (simp at h ⊢;omega) | omega | (simp at h;omega))).mono ?_
 rintro e w2 ⟨rfl,hp2,hf2⟩
 have HP2:=hid hp2
 have HF2:=hid (HF1.out.trans hf2)
 have HE2:=hid (show SB w2 z c from hf2.keep HE1.out (by decide) (by omega))
 have HUV2:=hid (HUV1.out.keep fun g hg=>(hf2.low (Nat.le_of_lt hs1)).block g (HX.out g hg))
 have HUR2:=hid (HUR1.out.keep fun g hg=>(hf2.low (Nat.le_of_lt hs1)).block g (HX.out g hg))
 have HVV2:=hid (HVV1.out.keep fun g hg=>(hf2.low (Nat.le_of_lt hs1)).block g (HX.out g hg))
 have HVR2:=hid (HVR1.out.keep fun g hg=>(hf2.low (Nat.le_of_lt hs1)).block g (HX.out g hg))
 have HTB2:=hid (HTB1.out.fb hf2 (Nat.le_of_lt hs1))
 have hs2 : b < w2.heap.size:=Nat.lt_of_lt_of_le hs1 hf2.size
 clear hp2 hf2 HP1 HF1 HE1 HUV1 HUR1 HVV1 HVR1 HTB1
 clear k0
 clear y22
 have y24:=HE2.out.cell 24
 simp only [SC.cells,List.getElem?_cons_succ,List.getElem?_cons_zero] at y24
 go_wp2_with fail
 refine (HBO.out b (l ++ ([105,102,32,97,99,107,101,100,32] ++ tag)) w2 _ _ _ _ X HP2.out HTB2.out HUV2.out HUR2.out HX.out (by have h:=HN.out;first | (simp at h ⊢;omega) | omega | (simp at h;omega))).mono ?_
 rintro e w3 ⟨rfl,hp3,hf3⟩
 have HP3:=hid hp3
 have HF3:=hid (HF2.out.trans hf3)
 have HE3:=hid (show SB w3 z c from hf3.keep HE2.out (by decide) (by omega))
 have HUV3:=hid (HUV2.out.keep fun g hg=>(hf3.low (Nat.le_of_lt hs2)).block g (HX.out g hg))
 have HUR3:=hid (HUR2.out.keep fun g hg=>(hf3.low (Nat.le_of_lt hs2)).block g (HX.out g hg))
 have HVV3:=hid (HVV2.out.keep fun g hg=>(hf3.low (Nat.le_of_lt hs2)).block g (HX.out g hg))
 have HVR3:=hid (HVR2.out.keep fun g hg=>(hf3.low (Nat.le_of_lt hs2)).block g (HX.out g hg))
 have HTB3:=hid (HTB2.out.fb hf3 (Nat.le_of_lt hs2))
 have hs3 : b < w3.heap.size:=Nat.lt_of_lt_of_le hs2 hf3.size
 clear hp3 hf3 HP2 HF2 HE2 HUV2 HUR2 HVV2 HVR2 HTB2
 clear y24
 have hn0:=HN0.out
 have y25:=HE3.out.cell 25
 simp only [SC.cells,List.getElem?_cons_succ,List.getElem?_cons_zero] at y25
 go_wp2_with fail
 refine (write1 b ((l ++ ([105,102,32,97,99,107,101,100,32] ++ tag)) ++ rend (pcB d body)) [32,101,108,115,101] ⟨#[32,101,108,115,101]⟩ w3 rfl HP3.out (by have h:=HN.out;first | (simp at h ⊢;omega) | omega | (simp at h;omega))).mono ?_
 rintro e w4 ⟨rfl,hp4,hf4⟩
 have HP4:=hid hp4
 have HF4:=hid (HF3.out.trans hf4)
 have HE4:=hid (show SB w4 z c from hf4.keep HE3.out (by decide) (by omega))
 have HUV4:=hid (HUV3.out.keep fun g hg=>(hf4.low (Nat.le_of_lt hs3)).block g (HX.out g hg))
 have HUR4:=hid (HUR3.out.keep fun g hg=>(hf4.low (Nat.le_of_lt hs3)).block g (HX.out g hg))
 have HVV4:=hid (HVV3.out.keep fun g hg=>(hf4.low (Nat.le_of_lt hs3)).block g (HX.out g hg))
 have HVR4:=hid (HVR3.out.keep fun g hg=>(hf4.low (Nat.le_of_lt hs3)).block g (HX.out g hg))
 have HTB4:=hid (HTB3.out.fb hf4 (Nat.le_of_lt hs3))
 have hs4 : b < w4.heap.size:=Nat.lt_of_lt_of_le hs3 hf4.size
 clear hp4 hf4 HP3 HF3 HE3 HUV3 HUR3 HVV3 HVR3 HTB3
 clear y25
 have y25:=HE4.out.cell 25
 simp only [SC.cells,List.getElem?_cons_succ,List.getElem?_cons_zero] at y25
 go_wp2_with fail
 refine (HVO.out b (((l ++ ([105,102,32,97,99,107,101,100,32] ++ tag)) ++ rend (pcB d body)) ++ [32,101,108,115,101]) w4 _ _ _ _ X HP4.out HTB4.out HVV4.out HVR4.out HX.out (by have h:=HN.out;first | (simp at h ⊢;omega) | omega | (simp at h;omega))).mono ?_
 rintro e w5 ⟨rfl,hp5,hf5⟩
 have HP5:=hid hp5
 have HF5:=hid (HF4.out.trans hf5)
 have HE5:=hid (show SB w5 z c from hf5.keep HE4.out (by decide) (by omega))
 have HUV5:=hid (HUV4.out.keep fun g hg=>(hf5.low (Nat.le_of_lt hs4)).block g (HX.out g hg))
 have HUR5:=hid (HUR4.out.keep fun g hg=>(hf5.low (Nat.le_of_lt hs4)).block g (HX.out g hg))
 have HVV5:=hid (HVV4.out.keep fun g hg=>(hf5.low (Nat.le_of_lt hs4)).block g (HX.out g hg))
 have HVR5:=hid (HVR4.out.keep fun g hg=>(hf5.low (Nat.le_of_lt hs4)).block g (HX.out g hg))
 have HTB5:=hid (HTB4.out.fb hf5 (Nat.le_of_lt hs4))
 have hs5 : b < w5.heap.size:=Nat.lt_of_lt_of_le hs4 hf5.size
 clear hp5 hf5 HP4 HF4 HE4 HUV4 HUR4 HVV4 HVR4 HTB4
 clear y25
 go_wp2_with fail
 refine (write1 b ((((l ++ ([105,102,32,97,99,107,101,100,32] ++ tag)) ++ rend (pcB d body)) ++ [32,101,108,115,101]) ++ rend (pcB d (e0 :: els))) [10] ⟨#[10]⟩ w5 rfl HP5.out (by have h:=HN.out;first | (simp at h ⊢;omega) | omega | (simp at h;omega))).mono ?_
 rintro e w6 ⟨rfl,hp6,hf6⟩
 have HP6:=hid hp6
 have HF6:=hid (HF5.out.trans hf6)
 have HE6:=hid (show SB w6 z c from hf6.keep HE5.out (by decide) (by omega))
 have HUV6:=hid (HUV5.out.keep fun g hg=>(hf6.low (Nat.le_of_lt hs5)).block g (HX.out g hg))
 have HUR6:=hid (HUR5.out.keep fun g hg=>(hf6.low (Nat.le_of_lt hs5)).block g (HX.out g hg))
 have HVV6:=hid (HVV5.out.keep fun g hg=>(hf6.low (Nat.le_of_lt hs5)).block g (HX.out g hg))
 have HVR6:=hid (HVR5.out.keep fun g hg=>(hf6.low (Nat.le_of_lt hs5)).block g (HX.out g hg))
 have HTB6:=hid (HTB5.out.fb hf6 (Nat.le_of_lt hs5))
 have hs6 : b < w6.heap.size:=Nat.lt_of_lt_of_le hs5 hf6.size
 clear hp6 hf6 HP5 HF5 HE5 HUV5 HUR5 HVV5 HVR5 HTB5
 go_wp2_with fail
 go_end0
 exact ⟨rfl,cast (congrArg (Pr w6 b) (show (((((l ++ ([105,102,32,97,99,107,101,100,32] ++ tag)) ++ rend (pcB d body)) ++ [32,101,108,115,101]) ++ rend (pcB d (e0 :: els))) ++ [10]) = l ++ ([105,102,32,97,99,107,101,100,32] ++ tag ++ (rend (pcB d body) ++ ([32,101,108,115,101] ++ (rend (pcB d (e0 :: els)) ++ ([10]))))) from by simp only [List.append_assoc])) HP6.out,HF6.out⟩
theorem line_kind {kind name : Bs} {a b c : Ex} {routes : List Bs} {block tag : Bs} {body els : List St} (h : LineW (.mk kind name a b c routes block tag body els)) : kind ≠ kAfter ∧ kind ≠ kRepeat ∧ kind ≠ kIf:=by
 cases h <;> decide
set_option maxRecDepth 100000 in
theorem ps_line {kind name : Bs} {ea eb ec : Ex} {routes : List Bs} {block tag : Bs} {body els : List St} (d : Nat) (hl : LineW (.mk kind name ea eb ec routes block tag body els)) : StP (.mk kind name ea eb ec routes block tag body els) d:=by
 intro b l w c X h hT ht hX hlen
 obtain ⟨n1,n2,n3⟩:=line_kind hl
 have HEQ:=hid (show rend (pcS d (.mk kind name ea eb ec routes block tag body els)) = rend (pcLn kind name ea eb ec routes block tag) ++ ([59] ++ [10]) by rw [pcS,if_neg n1,if_neg n2,if_neg n3];simp [rend,rend_app,spell,tMark,kSemi])
 rw [HEQ.out] at hlen ⊢
 clear HEQ
 have hbl:=h.lt
 have HLP:=hid (line_pr hl)
 have HX:=hid hX
 have HN:=hid hlen
 have hki:=ht.inv.1
 have e1 : (c.kind.toList == [97,102,116,101,114]) = false:=by rw [hki,toList_sb];exact beq_eq_false_iff_ne.2 n1
 have e2 : (c.kind.toList == [114,101,112,101,97,116]) = false:=by rw [hki,toList_sb];exact beq_eq_false_iff_ne.2 n2
 have e3 : (c.kind.toList == [105,102]) = false:=by rw [hki,toList_sb];exact beq_eq_false_iff_ne.2 n3
 have hba : Below w.heap.size w (w.alloc (.cells c.cells.toArray 64)):=(Below.refl _ w).alloc (Nat.le_refl _) _
 have HP1:=hid (h.later hba)
 have HF1:=hid (show Fb b w _ from Fb.of hba)
 have HTB1:=hid (hT.on hba (Nat.le_of_lt hbl))
 have HE1:=hid (show SB (w.alloc (.cells c.cells.toArray 64)) w.heap.size c from heap_alloc_new w _)
 have hs1 : b < (w.alloc (.cells c.cells.toArray 64)).heap.size:=Nat.lt_of_lt_of_le hbl hba.size
 have HV1:=hid (ht.keep fun g hg=>hba.block g (Nat.lt_trans (hX g hg) hbl))
 have k0 : (w.alloc (.cells c.cells.toArray 64)).cell? ⟨w.heap.size,0,none⟩ = some (.string c.kind):=HE1.out.cell 0
 have hi1:=hid (show (Tryd.prog.info? 64).map (·.size) = some c.cells.length from infoSt c)
 generalize hkk : c.kind = KK at *
 have hrx : (w.alloc (.cells c.cells.toArray 64)).rangeAt w.heap.size 0 c.cells:=blk_range HE1.out
 have HPL:=hid (fun W (hw : Pr W b l) (ht : TabX b W) (hv : StV X W [.mk kind name ea eb ec routes block tag body els] [c.cells])=>HLP.out b l W c X hw ht hv HX.out (by have h:=HN.out;simp only [List.length_append] at h ⊢;omega))
 obtain ⟨Y,hY⟩ : ∃ Y : List Value,c.cells = Y:=⟨_,rfl⟩
 rw [hY] at hba HP1 HF1 HTB1 hs1 k0 hi1 hrx HV1 HPL ⊢
 clear h hT ht hX hlen n1 n2 n3 hki hY HE1 hkk HLP
 go_enter Tryd.func52,Tryd.ntmps52
 go_upto_region 1 with fail
 obtain ⟨z,hz⟩ : ∃ z,w.heap.size = z:=⟨_,rfl⟩
 rw [hz] at k0 hrx ⊢
 clear hz hba
 generalize w.alloc (.cells Y.toArray 64) = w1 at *
 go_wp2_with (refine wl_load_mid (by rfl) 64 (.tmp 4) rfl z 0 rfl Y _ hrx Tryd.underlying64 rfl hi1.out ?_)
 refine (HPL.out w1 HP1.out HTB1.out HV1.out).mono ?_
 rintro e w2 ⟨rfl,hp2,hf2⟩
 have HP2:=hid hp2
 have HF2:=hid (HF1.out.trans hf2)
 have hs2 : b < w2.heap.size:=Nat.lt_of_lt_of_le hs1 hf2.size
 clear hp2 hf2 HP1 HF1 HTB1 HV1 k0 hrx hi1 HPL
 go_wp2_with fail
 refine (write1 b (l ++ rend (pcLn kind name ea eb ec routes block tag)) [59] ⟨#[59]⟩ w2 rfl HP2.out (by have h:=HN.out;first | (simp at h ⊢;omega) | omega | (simp at h;omega))).mono ?_
 rintro e w3 ⟨rfl,hp3,hf3⟩
 have HP3:=hid hp3
 have HF3:=hid (HF2.out.trans hf3)
 have hs3 : b < w3.heap.size:=Nat.lt_of_lt_of_le hs2 hf3.size
 clear hp3 hf3 HP2 HF2
 go_wp2_with fail
 refine (write1 b ((l ++ rend (pcLn kind name ea eb ec routes block tag)) ++ [59]) [10] ⟨#[10]⟩ w3 rfl HP3.out (by have h:=HN.out;first | (simp at h ⊢;omega) | omega | (simp at h;omega))).mono ?_
 rintro e w4 ⟨rfl,hp4,hf4⟩
 have HP4:=hid hp4
 have HF4:=hid (HF3.out.trans hf4)
 have hs4 : b < w4.heap.size:=Nat.lt_of_lt_of_le hs3 hf4.size
 clear hp4 hf4 HP3 HF3
 go_wp2_with fail
 go_end0
 exact ⟨rfl,cast (congrArg (Pr w4 b) (show (((l ++ rend (pcLn kind name ea eb ec routes block tag)) ++ [59]) ++ [10]) = l ++ (rend (pcLn kind name ea eb ec routes block tag) ++ ([59] ++ [10])) from by simp only [List.append_assoc])) HP4.out,HF4.out⟩
theorem stmt_pr (t : St) (d : Nat) (h : StW d t) (hd : d ≤ 12) : StP t d:=by
 suffices H : ∀ n (t : St) (d : Nat),SizeOf.sizeOf t ≤ n → StW d t → d ≤ 12 → StP t d from H (SizeOf.sizeOf t) t d (Nat.le_refl _) h hd
 intro n
 induction n with
 | zero=>intro t d ht;cases t;simp at ht
 | succ n ih=>
   intro t d ht hw hd
   have bo : ∀ (ts : List St),d < 12 → (∀ u ∈ ts,SizeOf.sizeOf u ≤ n) → (∀ u ∈ ts,StW (d + 1) u) → BoP ts d:=fun ts h1 h2 h3=>body_of (by omega) (stmts_of (by omega) fun u hu=>ih u (d + 1) (h2 u hu) (h3 u hu) (by omega))
   cases hw with
   | line hl=>
     obtain ⟨kind,name,a,b,c,routes,block,tag,body,els⟩:=t
     exact ps_line d hl
   | @after _ a l h1 h2 h3=>exact ps_after _ _ _ _ _ _ _ _ _ _ h1.1 (bo l h2 (fun u hu=>by have:=List.sizeOf_lt_of_mem hu;simp at ht;omega) h3)
   | @rpt _ x a l h0 h1 h2 h3=>exact ps_repeat _ _ _ _ _ _ _ _ _ _ h1.1 (bo l h2 (fun u hu=>by have:=List.sizeOf_lt_of_mem hu;simp at ht;omega) h3)
   | @iff _ x l m h0 h1 h2 h3=>
     have b1:=bo l h1 (fun u hu=>by have:=List.sizeOf_lt_of_mem hu;simp at ht;omega) h2
     have b2:=bo m h1 (fun u hu=>by have:=List.sizeOf_lt_of_mem hu;simp at ht;omega) h3
     cases m with
     | nil=>exact ps_ifOne _ _ _ _ _ _ _ _ _ b1
     | cons e0 m=>exact ps_ifTwo _ _ _ _ _ _ _ _ _ _ _ b1 b2
theorem stmts_pr (ts : List St) (h : ∀ t ∈ ts,StW 0 t) : StsP ts 0:=stmts_of (by omega) fun t ht=>stmt_pr t 0 (h t ht) (by omega)
end
end Go.Proofs.YtgmjpnnblhkbpaaDoor
