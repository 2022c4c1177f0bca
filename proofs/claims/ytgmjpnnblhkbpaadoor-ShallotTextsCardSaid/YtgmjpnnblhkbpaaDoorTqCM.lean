/-
  Contracts of tree.bareRef and tree.bareExpr. Conditions: expressions in form whose print has at most 10^11 bytes.
-/
import Derived.Test.YtgmjpnnblhkbpaaDoorTpHM
import Derived.Test.YtgmjpnnblhkbpaaDoorTxOkM
import Derived.Test.YtgmjpnnblhkbpaaDoorSqM
namespace Go.Proofs.YtgmjpnnblhkbpaaDoor
open Go Go.RowKit Go.Sh Tx
open Go.Lib (hid)
theorem rend_pl (p : Pl) : rend (pcPl p) = p.node ++ (rend (pcAt kAt p.delay) ++ rend (pcAt kBang p.flags)):=by simp [pcPl,rend,rend_app,spell,tName]
theorem rend_pr (l : List Pl) (x : Pl) : rend (pcPr (l ++ [x])) = rend (pcPr l) ++ ([32,62,32] ++ rend (pcPl x)):=by
 induction l with
 | nil=>simp [pcPr,rend,sp,spell,tMark,kGt]
 | cons y l ih=>
   rw [List.cons_append,pcPr,pcPr]
   simp only [sp,rend,rend_app,ih,List.append_assoc]
theorem rend_pls (l : List Pl) (x : Pl) : rend (pcPls (l ++ [x])) = rend (pcPls l) ++ ((if l = [] then [] else [32,62,32]) ++ rend (pcPl x)):=by
 cases l with
 | nil=>simp [pcPls,pcPr,rend]
 | cons y l=>
   rw [List.cons_append,pcPls,pcPls,rend_app,rend_app,rend_pr,if_neg (by simp)]
   simp only [List.append_assoc]
theorem rend_pr_len : ∀ (l : List Pl) (j : Nat),(rend (pcPr (l.take j))).length ≤ (rend (pcPr l)).length
 | [],j=>by simp [pcPr,rend]
 | x :: l,0=>by simp [pcPr,rend]
 | x :: l,j + 1=>by
   have:=rend_pr_len l j
   rw [List.take_succ_cons,pcPr,pcPr]
   simp only [rend,sp,rend_app,List.length_append]
   omega
theorem rend_pls_len (l : List Pl) (j : Nat) : (rend (pcPls (l.take j))).length ≤ (rend (pcPls l)).length:=by
 cases l with
 | nil=>simp [pcPls,rend]
 | cons x l=>
   cases j with
   | zero=>simp [pcPls,rend]
   | succ j=>
     have:=rend_pr_len l j
     rw [List.take_succ_cons,pcPls,pcPls]
     simp only [rend_app,List.length_append]
     omega
theorem rend_pr_num : ∀ l : List Pl,l.length ≤ (rend (pcPr l)).length
 | []=>Nat.le_refl _
 | x :: l=>by
   have:=rend_pr_num l
   rw [pcPr]
   simp only [rend,sp,rend_app,List.length_append,List.length_cons,List.length_nil]
   omega
theorem rend_pls_num (l : List Pl) : l.length ≤ (rend (pcPls l)).length + 1:=by
 cases l with
 | nil=>exact Nat.zero_le _
 | cons x l=>
   have:=rend_pr_num l
   rw [pcPls]
   simp only [rend_app,List.length_append,List.length_cons]
   omega
theorem rend_ds (l : List Dc) (d : Dc) : rend (pcDs (l ++ [d])) = rend (pcDs l) ++ rend (pcD d):=by
 induction l with
 | nil=>simp [pcDs,rend]
 | cons y l ih=>rw [List.cons_append,pcDs,pcDs,rend_app,rend_app,ih,List.append_assoc]
theorem rend_ds_len : ∀ (l : List Dc) (j : Nat),(rend (pcDs (l.take j))).length ≤ (rend (pcDs l)).length
 | [],j=>by simp [pcDs,rend]
 | x :: l,0=>by simp [pcDs,rend]
 | x :: l,j + 1=>by
   have:=rend_ds_len l j
   rw [List.take_succ_cons,pcDs,pcDs]
   simp only [rend_app,List.length_append]
   omega
theorem rend_d_pos (d : Dc) : 1 ≤ (rend (pcD d)).length:=by
 rw [pcD,rend_app,List.length_append]
 simp only [rend,List.length_append,List.length_cons,List.length_nil]
 omega
theorem rend_ds_num : ∀ l : List Dc,l.length ≤ (rend (pcDs l)).length
 | []=>Nat.le_refl _
 | x :: l=>by
   have h1:=rend_ds_num l
   have h2:=rend_d_pos x
   rw [pcDs,rend_app,List.length_append,List.length_cons]
   omega
theorem DcV.inv {X : Nat → Prop} {w : World} {d : Dc} {c : DC} (h : DcV X w [d] [c.cells]) : c.kind = sb d.kind ∧ sb d.name = c.name.t ∧ TrV X w [d.value] [c.value.cells] ∧ ∃ ps,PlV X w d.places ps ∧ RP X w 12 c.places.A c.places.n ps:=by
 obtain ⟨k',⟨q1,q2⟩,⟨v1,v2,v3,v4,v5,v6,v7⟩,⟨s1,s2,s3⟩⟩:=c
 generalize hl : [DC.cells ⟨k',⟨q1,q2⟩,⟨v1,v2,v3,v4,v5,v6,v7⟩,⟨s1,s2,s3⟩⟩] = L at h
 cases h with
 | @cons e l css ps k q v s h1 h2 h3 h4 h5 h6 h7=>
   obtain ⟨a1,a2⟩:=q
   obtain ⟨b1,b2,b3,b4,b5,b6,b7⟩:=v
   obtain ⟨c1,c2,c3⟩:=s
   simp only [DC.cells,Q2.cells,Q5.cells,QS.val,List.cons_append,List.nil_append,List.cons.injEq,Value.string.injEq,Value.int.injEq,Value.slice.injEq,true_and,and_true] at hl
   obtain ⟨⟨rfl,rfl,rfl,rfl,rfl,rfl,rfl,⟨rfl,rfl,rfl⟩,rfl,rfl,rfl⟩,_⟩:=hl
   exact ⟨h1,h2.symm,h3,ps,h4,h5⟩
theorem DcV.at_ {X : Nat → Prop} {w : World} {l : List Dc} {css : List (List Value)} (h : DcV X w l css) {j : Nat} {cs : List Value} (hc : css[j]? = some cs) : ∃ (d : Dc) (c : DC),l[j]? = some d ∧ cs = c.cells ∧ DcV X w [d] [c.cells]:=by
 induction h generalizing j with
 | nil=>simp at hc
 | @cons e l css ps k q v s h1 h2 h3 h4 h5 h6 _ ih=>
   cases j with
   | zero=>
     obtain rfl:=Option.some.inj hc
     exact ⟨e,⟨k,q,v,s⟩,rfl,rfl,.cons (k:=k) (q:=q) (v:=v) (s:=s) h1 h2 h3 h4 h5 h6 .nil⟩
   | succ j=>exact ih hc
theorem PlV.at_ {X : Nat → Prop} {w : World} {l : List Pl} {css : List (List Value)} (h : PlV X w l css) {j : Nat} {cs : List Value} (hc : css[j]? = some cs) : ∃ (p : Pl) (q : Q2) (d f : Q5),l[j]? = some p ∧ cs = q.cells ++ d.cells ++ f.cells ∧ sb p.node = q.t ∧ TrV X w [p.delay] [d.cells] ∧ TrV X w [p.flags] [f.cells]:=by
 induction h generalizing j with
 | nil=>simp at hc
 | @cons e l css q d f h1 h2 h3 _ ih=>
   cases j with
   | zero=>
     obtain rfl:=Option.some.inj hc
     exact ⟨e,q,d,f,rfl,rfl,h1.symm,h2,h3⟩
   | succ j=>exact ih hc
set_option maxRecDepth 100000 in
theorem infoPl (q : Q2) (d f : Q5) : (Tryd.prog.info? 88).map (·.size) = some (q.cells ++ d.cells ++ f.cells).toArray.size:=by rw [show (q.cells ++ d.cells ++ f.cells).toArray.size = 12 from rfl];kernel_rfl
theorem oneAPl (q : Q2) (d f : Q5) : ∀ v ∈ (q.cells ++ d.cells ++ f.cells).toArray.toList,v.oneCell' = true:=by
 intro v hv
 simp only [List.append_assoc,List.mem_append] at hv
 rcases hv with hv | hv | hv
 · exact Q2.one _ v hv
 · exact Q5.one _ v hv
 · exact Q5.one _ v hv
def DeP (d : Dc) : Prop:=∀ (b : Nat) (l : Bs) (w : World) (c : DC) (X : Nat → Prop),Pr w b l → TabX b w → DcV X w [d] [c.cells] → (∀ g,X g → g < b) → (l ++ rend (pcD d)).length ≤ 10000000000000 →
 Calls Tryd.prog 23 #[.pointer (some ⟨b,0,none⟩),.agg c.cells.toArray] w (PrPost b (l ++ rend (pcD d)) w)
section
set_option maxHeartbeats 16000000
set_option maxRecDepth 100000
set_option maxRecDepth 100000 in
theorem pd_let (name : Bs) (v : Ex) (pls : List Pl) (hw : v.wf) : DeP ⟨kLet,name,v,pls⟩:=by
 intro b l w c X h hT ht hX hlen
 have hbl:=h.lt
 obtain ⟨hki,hna,htv,ps,hpl,hpr⟩:=ht.inv
 have hki2 : c.kind = ⟨#[108,101,116]⟩:=hki
 have HX:=hid hX
 have HNA:=hid hna
 have hba : Below w.heap.size w (w.alloc (.cells c.cells.toArray 58)):=(Below.refl _ w).alloc (Nat.le_refl _) _
 have HP1:=hid (h.later hba)
 have HF1:=hid (show Fb b w _ from Fb.of hba)
 have HTB1:=hid (hT.on hba (Nat.le_of_lt hbl))
 have HE1:=hid (show DB (w.alloc (.cells c.cells.toArray 58)) w.heap.size c from heap_alloc_new w _)
 have hs1 : b < (w.alloc (.cells c.cells.toArray 58)).heap.size:=Nat.lt_of_lt_of_le hbl hba.size
 have HV1:=hid (htv.keep fun g hg=>hba.block g (Nat.lt_trans (hX g hg) hbl))
 have k0 : (w.alloc (.cells c.cells.toArray 58)).cell? ⟨w.heap.size,0,none⟩ = some (.string ⟨#[108,101,116]⟩):=by rw [HE1.out.cell 0,← hki2];rfl
 obtain ⟨CC,hCC⟩ : ∃ CC,c.cells.toArray = CC:=⟨_,rfl⟩
 rw [hCC] at HP1 HF1 HTB1 HE1 hs1 k0 hba HV1 ⊢
 have HEQ : rend (pcD ⟨kLet,name,v,pls⟩) = [108,101,116,32] ++ name ++ [32,61,32] ++ (tE v ++ [59,10]):=by rw [pcD,if_pos rfl];simp [rend,rend_app,spell,tWord,tName,tMark,sp,tE,kLet,kEq,kSemi]
 rw [HEQ] at hlen ⊢
 have HN:=hid hlen
 have HW:=hid hw
 clear HEQ hw
 clear h hT ht hX hlen hki hna htv hpl hpr hki2 hCC
 go_enter Tryd.func23,Tryd.ntmps23
 go_upto_region 1 with fail
 obtain ⟨z,hz⟩ : ∃ z,w.heap.size = z:=⟨_,rfl⟩
 have hzb : b < z:=by rw [← hz];exact hbl
 rw [hz] at HE1 k0 ⊢
 generalize (w.alloc (.cells CC 58)) = w1 at *
 clear hz hba
 have y1:=HE1.out.cell 1
 simp only [DC.cells,List.getElem?_cons_succ,List.getElem?_cons_zero] at y1
 go_wp2_with fail
 refine (write3 b l [108,101,116,32] name [32,61,32] ⟨#[108,101,116,32]⟩ c.name.t ⟨#[32,61,32]⟩ w1 rfl HNA.out rfl HP1.out (by have h:=HN.out;first | (simp at h ⊢;omega) | omega | (simp at h;omega))).mono ?_
 rintro e w2 ⟨rfl,hp2,hf2⟩
 have HP2:=hid hp2
 have HF2:=hid (HF1.out.trans hf2)
 have HE2:=hid (show DB w2 z c from hf2.keep HE1.out (by decide) (by omega))
 have HV2:=hid (HV1.out.keep fun g hg=>(hf2.low (Nat.le_of_lt hs1)).block g (HX.out g hg))
 have HTB2:=hid (HTB1.out.fb hf2 (Nat.le_of_lt hs1))
 have hs2 : b < w2.heap.size:=Nat.lt_of_lt_of_le hs1 hf2.size
 clear hp2 hf2 HP1 HF1 HE1 HV1 HTB1
 clear k0
 clear y1
 have y3:=HE2.out.cell 3
 have y4:=HE2.out.cell 4
 have y5:=HE2.out.cell 5
 have y6:=HE2.out.cell 6
 have y7:=HE2.out.cell 7
 simp only [DC.cells,List.getElem?_cons_succ,List.getElem?_cons_zero] at y3 y4 y5 y6 y7
 go_wp2_with fail
 refine (expr_pr v b (l ++ ([108,101,116,32] ++ name ++ [32,61,32])) w2 _ _ _ _ _ _ _ X HP2.out HTB2.out HV2.out HX.out HW.out (by have h:=HN.out;first | (simp at h ⊢;omega) | omega | (simp at h;omega))).mono ?_
 rintro e w3 ⟨rfl,hp3,hf3⟩
 have HP3:=hid hp3
 have HF3:=hid (HF2.out.trans hf3)
 have HE3:=hid (show DB w3 z c from hf3.keep HE2.out (by decide) (by omega))
 have HV3:=hid (HV2.out.keep fun g hg=>(hf3.low (Nat.le_of_lt hs2)).block g (HX.out g hg))
 have HTB3:=hid (HTB2.out.fb hf3 (Nat.le_of_lt hs2))
 have hs3 : b < w3.heap.size:=Nat.lt_of_lt_of_le hs2 hf3.size
 clear hp3 hf3 HP2 HF2 HE2 HV2 HTB2
 clear y3 y4 y5 y6 y7
 go_wp2_with fail
 refine (write1 b ((l ++ ([108,101,116,32] ++ name ++ [32,61,32])) ++ tE v) [59,10] ⟨#[59,10]⟩ w3 rfl HP3.out (by have h:=HN.out;first | (simp at h ⊢;omega) | omega | (simp at h;omega))).mono ?_
 rintro e w4 ⟨rfl,hp4,hf4⟩
 have HP4:=hid hp4
 have HF4:=hid (HF3.out.trans hf4)
 have HE4:=hid (show DB w4 z c from hf4.keep HE3.out (by decide) (by omega))
 have HV4:=hid (HV3.out.keep fun g hg=>(hf4.low (Nat.le_of_lt hs3)).block g (HX.out g hg))
 have HTB4:=hid (HTB3.out.fb hf4 (Nat.le_of_lt hs3))
 have hs4 : b < w4.heap.size:=Nat.lt_of_lt_of_le hs3 hf4.size
 clear hp4 hf4 HP3 HF3 HE3 HV3 HTB3
 go_wp2_with fail
 go_end0
 exact ⟨rfl,cast (congrArg (Pr w4 b) (show (((l ++ ([108,101,116,32] ++ name ++ [32,61,32])) ++ tE v) ++ [59,10]) = l ++ ([108,101,116,32] ++ name ++ [32,61,32] ++ (tE v ++ [59,10])) from by simp only [List.append_assoc])) HP4.out,HF4.out⟩
set_option maxRecDepth 100000 in
theorem pd_route (name : Bs) (v : Ex) (pls : List Pl) (hw : ∀ p ∈ pls,PlW p) : DeP ⟨kRoute,name,v,pls⟩:=by
 intro b l w c X h hT ht hX hlen
 have hbl:=h.lt
 obtain ⟨hki,hna,htv,ps,hpl,hpr⟩:=ht.inv
 have hki2 : c.kind = ⟨#[114,111,117,116,101]⟩:=hki
 have HX:=hid hX
 have HNA:=hid hna
 have hba : Below w.heap.size w (w.alloc (.cells c.cells.toArray 58)):=(Below.refl _ w).alloc (Nat.le_refl _) _
 have HP1:=hid (h.later hba)
 have HF1:=hid (show Fb b w _ from Fb.of hba)
 have HTB1:=hid (hT.on hba (Nat.le_of_lt hbl))
 have HE1:=hid (show DB (w.alloc (.cells c.cells.toArray 58)) w.heap.size c from heap_alloc_new w _)
 have hs1 : b < (w.alloc (.cells c.cells.toArray 58)).heap.size:=Nat.lt_of_lt_of_le hbl hba.size
 have HPL1:=hid (hpl.keep fun g hg=>hba.block g (Nat.lt_trans (hX g hg) hbl))
 have HPR1:=hid (hpr.keep fun g hg=>hba.block g (Nat.lt_trans (hX g hg) hbl))
 have k0 : (w.alloc (.cells c.cells.toArray 58)).cell? ⟨w.heap.size,0,none⟩ = some (.string ⟨#[114,111,117,116,101]⟩):=by rw [HE1.out.cell 0,← hki2];rfl
 obtain ⟨CC,hCC⟩ : ∃ CC,c.cells.toArray = CC:=⟨_,rfl⟩
 rw [hCC] at HP1 HF1 HTB1 HE1 hs1 k0 hba HPL1 HPR1 ⊢
 have HEQ : rend (pcD ⟨kRoute,name,v,pls⟩) = [114,111,117,116,101,32] ++ name ++ [32,61,32] ++ (rend (pcPls pls) ++ [59,10]):=by rw [pcD,if_neg (show kRoute ≠ kLet by decide),if_pos rfl];simp [rend,rend_app,spell,tWord,tName,tMark,sp,kRoute,kEq,kSemi]
 rw [HEQ] at hlen ⊢
 have HN:=hid hlen
 have HW:=hid hw
 have hln : pls.length = c.places.n:=by have h2:=hpl.len;have h3:=hpr.1;have h4 : ps.length = pls.length:=h2;omega
 have HLN:=hid hln
 have hnb : c.places.n ≤ 10000000000001:=by have h1:=rend_pls_num pls;have h:=HN.out;simp only [List.length_append] at h;omega
 have HRR:=hid (hpr.rr (B:=b) hX)
 have HP0:=hid (show PlV X w pls ps from hpl)
 have HTB:=hid hT
 clear HEQ hw hln
 clear h hT ht hX hlen hki hna htv hpl hpr hki2 hCC
 go_enter Tryd.func23,Tryd.ntmps23
 go_upto_region 1 with fail
 obtain ⟨z,hz⟩ : ∃ z,w.heap.size = z:=⟨_,rfl⟩
 have hzb : b < z:=by rw [← hz];exact hbl
 rw [hz] at HE1 k0 ⊢
 generalize (w.alloc (.cells CC 58)) = w1 at *
 clear hz hba
 clear HPL1 HPR1
 have y1:=HE1.out.cell 1
 simp only [DC.cells,List.getElem?_cons_succ,List.getElem?_cons_zero] at y1
 go_wp2_with fail
 refine (write3 b l [114,111,117,116,101,32] name [32,61,32] ⟨#[114,111,117,116,101,32]⟩ c.name.t ⟨#[32,61,32]⟩ w1 rfl HNA.out rfl HP1.out (by have h:=HN.out;first | (simp at h ⊢;omega) | omega | (simp at h;omega))).mono ?_
 rintro e w2 ⟨rfl,hp2,hf2⟩
 have HP2:=hid hp2
 have HF2:=hid (HF1.out.trans hf2)
 have HE2:=hid (show DB w2 z c from hf2.keep HE1.out (by decide) (by omega))
 have HTB2:=hid (HTB1.out.fb hf2 (Nat.le_of_lt hs1))
 have hs2 : b < w2.heap.size:=Nat.lt_of_lt_of_le hs1 hf2.size
 clear hp2 hf2 HP1 HF1 HE1 HTB1
 clear k0
 clear y1
 have y8:=HE2.out.cell 8
 simp only [DC.cells,List.getElem?_cons_succ,List.getElem?_cons_zero] at y8
 obtain ⟨A0,hA0⟩ : ∃ A0,c.places.A = A0:=⟨_,rfl⟩
 obtain ⟨n,hn⟩ : ∃ n,c.places.n = n:=⟨_,rfl⟩
 rw [hA0,hn] at y8 HRR
 rw [hn] at HLN hnb
 clear hA0 hn
 have HE0:=hid (show Pr w2 b ((l ++ ([114,111,117,116,101,32] ++ name ++ [32,61,32])) ++ rend (pcPls (pls.take 0))) by simpa [pcPls,rend] using HP2.out)
 go_wp2_with fail
 clear y8 HP2 HE2
 go_loopw [34] (fun i wr=>∃ j : Nat,j ≤ n ∧ i = .int .i64 (j : Int) ∧ Pr wr b ((l ++ ([114,111,117,116,101,32] ++ name ++ [32,61,32])) ++ rend (pcPls (pls.take j))) ∧ Fb b w wr) (fun i _=>n - (intOf i).toNat)
 case atStart=>exact ⟨0,by omega,by first | rfl | simp,HE0.out,HF2.out⟩
 case round=>
   obtain ⟨j,hj,rfl,hp,hf⟩:=hrel
   have HPr:=hid hp
   have HFr:=hid hf
   have hblr : b < wr.heap.size:=Nat.lt_of_lt_of_le hbl hf.size
   have hlow:=hf.low (Nat.le_of_lt hbl)
   have HRr:=hid (HRR.out.below hlow)
   have HVr:=hid (HP0.out.keep fun g hg=>hlow.block g (HX.out g hg))
   have HTB0:=hid (HTB.out.fb hf (Nat.le_of_lt hbl))
   clear hp hf HE0 HF2 hlow hs2 hs1 HTB2
   by_cases hlt : j < n
   · have hji : (j : Int) < (n : Int):=by omega
     have hwj : IntKind.i64.wrap ((j : Int) + 1) = (j : Int) + 1:=by rw [IntKind.wrap_i64];omega
     obtain ⟨ab,off,cs,hA,hbB,hcs,hcl,hrg⟩:=HRr.out.at_ hlt
     obtain ⟨pl,q,dq,fq,hx,rfl,hnd,htd,htf⟩:=HVr.out.at_ hcs
     subst hA
     have HTK:=hid (show rend (pcPls (pls.take (j + 1))) = rend (pcPls (pls.take j)) ++ ((if pls.take j = [] then [] else [32,62,32]) ++ rend (pcPl pl)) by rw [List.take_add_one,hx];exact rend_pls _ pl)
     have HLE:=hid (rend_pls_len pls (j + 1))
     have hjn : (pls.take j = []) ↔ j = 0:=by
       have:=HLN.out
       rw [List.take_eq_nil_iff]
       constructor
       · rintro (h | h)
         · exact h
         · subst h;simp at this;omega
       · exact .inl
     have HWP:=hid (HW.out pl (List.mem_of_getElem? hx))
     have HND:=hid hnd
     obtain ⟨Y,hY⟩ : ∃ Y : List Value,q.cells ++ dq.cells ++ fq.cells = Y:=⟨_,rfl⟩
     have hba : Below wr.heap.size wr (wr.alloc (.cells Y.toArray 88)):=(Below.refl _ wr).alloc (Nat.le_refl _) _
     have HP1:=hid (HPr.out.later hba)
     have HF1:=hid (HFr.out.trans (Fb.of hba))
     have HY1:=hid (show PB (wr.alloc (.cells Y.toArray 88)) wr.heap.size q dq fq by rw [← hY];exact heap_alloc_new wr _)
     have hs1 : b < (wr.alloc (.cells Y.toArray 88)).heap.size:=Nat.lt_of_lt_of_le hblr hba.size
     have HTD1:=hid (htd.keep fun g hg=>hba.block g (Nat.lt_trans (HX.out g hg) hblr))
     have HTF1:=hid (htf.keep fun g hg=>hba.block g (Nat.lt_trans (HX.out g hg) hblr))
     have HTB1:=hid (HTB0.out.on hba (Nat.le_of_lt hblr))
     have hi1:=hid (show (Tryd.prog.info? 88).map (·.size) = some Y.length by rw [← hY];exact infoPl q dq fq)
     have hi2:=hid (show (Tryd.prog.info? 88).map (·.size) = some Y.toArray.size by rw [← hY];exact infoPl q dq fq)
     have hx1:=hid (show ∀ v ∈ Y.toArray.toList,v.oneCell' = true by rw [← hY];exact oneAPl q dq fq)
     obtain ⟨ZC,hZC⟩ : ∃ ZC : Array Value,((Q2.zero.cells ++ Q5.zero.cells ++ Q5.zero.cells).toArray) = ZC:=⟨_,rfl⟩
     have hXs : Y.toArray.size = ZC.size:=by rw [← hY,← hZC];rfl
     have hrg2 : wr.rangeAt ab (off + j * 12) Y:=by rw [← hY];exact hrg
     have hgn : (wr.alloc (.cells ZC 88)).heap[wr.heap.size]? = some (.cells ZC 88 (0,0)):=heap_alloc_new wr _
     have hzl : ∃ ZL,ZL = ZC:=⟨_,rfl⟩
     clear hcl hcs hx hnd htd htf hrg hY
     go_upto_region 11 with (first | (refine wl_load_mid (by rfl) 88 (.tmp 37) rfl ab (off + j * 12) rfl Y _ hrg2 Tryd.underlying88 rfl hi1.out ?_) | (refine wl_store_all (by rfl) 88 (.tmp 5) (.tmp 38) rfl wr.heap.size Y.toArray rfl rfl ZC _ (by rw [← hZC];exact heap_alloc_new wr _) hXs hi2.out hx1.out ?_))
     rw [alloc_setRow]
     obtain ⟨y,hy⟩ : ∃ y,wr.heap.size = y:=⟨_,rfl⟩
     have hyb : b < y:=by rw [← hy];exact hblr
     rw [hy] at HY1 ⊢
     clear hy hba HPr HFr HRr HVr HTB0 hrg2 hgn hzl hXs hZC hi1 hi2 hx1
     generalize wr.alloc (.cells Y.toArray 88) = w1 at *
     rcases Nat.eq_zero_or_pos j with h0 | h0
     · have ng : ¬ ((0 : Int) < (j : Int)):=by omega
       have HTE:=hid (show rend (pcPls (pls.take (j + 1))) = rend (pcPls (pls.take j)) ++ ((pl.node ++ (rend (pcAt kAt pl.delay) ++ rend (pcAt kBang pl.flags)))) by rw [HTK.out,if_pos (hjn.2 h0),List.nil_append,rend_pl])
       have HM:=HN
       clear HN
       have HN:=hid (show (((l ++ ([114,111,117,116,101,32] ++ name ++ [32,61,32])) ++ rend (pcPls (pls.take j))) ++ ((pl.node ++ (rend (pcAt kAt pl.delay) ++ rend (pcAt kBang pl.flags))))).length ≤ 10000000000000 by have h1:=HM.out;have h2:=HLE.out;rw [HTE.out] at h2;simp only [List.length_append] at h1 h2 ⊢;omega)
       clear h0 hjn HTK HLE
       have y0:=HY1.out.cell 0
       simp only [Q2.cells,Q5.cells,List.cons_append,List.nil_append,List.getElem?_cons_zero] at y0
       go_wp2_with fail
       refine (write1 b ((l ++ ([114,111,117,116,101,32] ++ name ++ [32,61,32])) ++ rend (pcPls (pls.take j))) pl.node q.t w1 HND.out HP1.out (by have h:=HN.out;first | (simp at h ⊢;omega) | omega | (simp at h;omega))).mono ?_
       rintro e w2 ⟨rfl,hp2,hf2⟩
       have HP2:=hid hp2
       have HF2:=hid (HF1.out.trans hf2)
       have HY2:=hid (show PB w2 y q dq fq from hf2.keep HY1.out (by decide) (by omega))
       have HTD2:=hid (HTD1.out.keep fun g hg=>(hf2.low (Nat.le_of_lt hs1)).block g (HX.out g hg))
       have HTF2:=hid (HTF1.out.keep fun g hg=>(hf2.low (Nat.le_of_lt hs1)).block g (HX.out g hg))
       have HTB2:=hid (HTB1.out.fb hf2 (Nat.le_of_lt hs1))
       have hs2 : b < w2.heap.size:=Nat.lt_of_lt_of_le hs1 hf2.size
       clear hp2 hf2 HP1 HF1 HY1 HTD1 HTF1 HTB1
       clear y0
       have y2:=HY2.out.cell 2
       have y3:=HY2.out.cell 3
       have y4:=HY2.out.cell 4
       have y5:=HY2.out.cell 5
       have y6:=HY2.out.cell 6
       simp only [Q2.cells,Q5.cells,List.cons_append,List.nil_append,List.getElem?_cons_succ,List.getElem?_cons_zero] at y2 y3 y4 y5 y6
       go_wp2_with fail
       refine (atom_pr pl.delay kAt ⟨#[64]⟩ rfl (HWP.out.2.1.imp id And.left) b (((l ++ ([114,111,117,116,101,32] ++ name ++ [32,61,32])) ++ rend (pcPls (pls.take j))) ++ pl.node) w2 _ _ _ _ _ _ _ X HP2.out HTB2.out HTD2.out HX.out (by have h:=HN.out;first | (simp at h ⊢;omega) | omega | (simp at h;omega))).mono ?_
       rintro e w3 ⟨rfl,hp3,hf3⟩
       have HP3:=hid hp3
       have HF3:=hid (HF2.out.trans hf3)
       have HY3:=hid (show PB w3 y q dq fq from hf3.keep HY2.out (by decide) (by omega))
       have HTD3:=hid (HTD2.out.keep fun g hg=>(hf3.low (Nat.le_of_lt hs2)).block g (HX.out g hg))
       have HTF3:=hid (HTF2.out.keep fun g hg=>(hf3.low (Nat.le_of_lt hs2)).block g (HX.out g hg))
       have HTB3:=hid (HTB2.out.fb hf3 (Nat.le_of_lt hs2))
       have hs3 : b < w3.heap.size:=Nat.lt_of_lt_of_le hs2 hf3.size
       clear hp3 hf3 HP2 HF2 HY2 HTD2 HTF2 HTB2
       clear y2 y3 y4 y5 y6
       have y7:=HY3.out.cell 7
       have y8:=HY3.out.cell 8
       have y9:=HY3.out.cell 9
       have y10:=HY3.out.cell 10
       have y11:=HY3.out.cell 11
       simp only [Q2.cells,Q5.cells,List.cons_append,List.nil_append,List.getElem?_cons_succ,List.getElem?_cons_zero] at y7 y8 y9 y10 y11
       go_wp2_with fail
       refine (atom_pr pl.flags kBang ⟨#[33]⟩ rfl (HWP.out.2.2.imp id And.left) b ((((l ++ ([114,111,117,116,101,32] ++ name ++ [32,61,32])) ++ rend (pcPls (pls.take j))) ++ pl.node) ++ rend (pcAt kAt pl.delay)) w3 _ _ _ _ _ _ _ X HP3.out HTB3.out HTF3.out HX.out (by have h:=HN.out;first | (simp at h ⊢;omega) | omega | (simp at h;omega))).mono ?_
       rintro e w4 ⟨rfl,hp4,hf4⟩
       have HP4:=hid hp4
       have HF4:=hid (HF3.out.trans hf4)
       have HY4:=hid (show PB w4 y q dq fq from hf4.keep HY3.out (by decide) (by omega))
       have HTD4:=hid (HTD3.out.keep fun g hg=>(hf4.low (Nat.le_of_lt hs3)).block g (HX.out g hg))
       have HTF4:=hid (HTF3.out.keep fun g hg=>(hf4.low (Nat.le_of_lt hs3)).block g (HX.out g hg))
       have HTB4:=hid (HTB3.out.fb hf4 (Nat.le_of_lt hs3))
       have hs4 : b < w4.heap.size:=Nat.lt_of_lt_of_le hs3 hf4.size
       clear hp4 hf4 HP3 HF3 HY3 HTD3 HTF3 HTB3
       clear y7 y8 y9 y10 y11
       go_wp2_with fail
       exact ⟨⟨j + 1,by omega,by first | rfl | (congr 1;omega),cast (congrArg (Pr w4 b) (show (((((l ++ ([114,111,117,116,101,32] ++ name ++ [32,61,32])) ++ rend (pcPls (pls.take j))) ++ pl.node) ++ rend (pcAt kAt pl.delay)) ++ rend (pcAt kBang pl.flags)) = (l ++ ([114,111,117,116,101,32] ++ name ++ [32,61,32])) ++ rend (pcPls (pls.take (j + 1))) from by rw [HTE.out];simp only [List.append_assoc])) HP4.out,HF4.out⟩,by simp [intOf];omega⟩
     · have ng : (0 : Int) < (j : Int):=by omega
       have HTE:=hid (show rend (pcPls (pls.take (j + 1))) = rend (pcPls (pls.take j)) ++ ([32,62,32] ++ (pl.node ++ (rend (pcAt kAt pl.delay) ++ rend (pcAt kBang pl.flags)))) by rw [HTK.out,if_neg (fun h=>by have:=hjn.1 h;omega),rend_pl])
       have HM:=HN
       clear HN
       have HN:=hid (show (((l ++ ([114,111,117,116,101,32] ++ name ++ [32,61,32])) ++ rend (pcPls (pls.take j))) ++ ([32,62,32] ++ (pl.node ++ (rend (pcAt kAt pl.delay) ++ rend (pcAt kBang pl.flags))))).length ≤ 10000000000000 by have h1:=HM.out;have h2:=HLE.out;rw [HTE.out] at h2;simp only [List.length_append] at h1 h2 ⊢;omega)
       clear h0 hjn HTK HLE
       go_wp2_with fail
       refine (write1 b ((l ++ ([114,111,117,116,101,32] ++ name ++ [32,61,32])) ++ rend (pcPls (pls.take j))) [32,62,32] ⟨#[32,62,32]⟩ w1 rfl HP1.out (by have h:=HN.out;first | (simp at h ⊢;omega) | omega | (simp at h;omega))).mono ?_
       rintro e w2 ⟨rfl,hp2,hf2⟩
       have HP2:=hid hp2
       have HF2:=hid (HF1.out.trans hf2)
       have HY2:=hid (show PB w2 y q dq fq from hf2.keep HY1.out (by decide) (by omega))
       have HTD2:=hid (HTD1.out.keep fun g hg=>(hf2.low (Nat.le_of_lt hs1)).block g (HX.out g hg))
       have HTF2:=hid (HTF1.out.keep fun g hg=>(hf2.low (Nat.le_of_lt hs1)).block g (HX.out g hg))
       have HTB2:=hid (HTB1.out.fb hf2 (Nat.le_of_lt hs1))
       have hs2 : b < w2.heap.size:=Nat.lt_of_lt_of_le hs1 hf2.size
       clear hp2 hf2 HP1 HF1 HY1 HTD1 HTF1 HTB1
       have y0:=HY2.out.cell 0
       simp only [Q2.cells,Q5.cells,List.cons_append,List.nil_append,List.getElem?_cons_zero] at y0
       go_wp2_with fail
       refine (write1 b (((l ++ ([114,111,117,116,101,32] ++ name ++ [32,61,32])) ++ rend (pcPls (pls.take j))) ++ [32,62,32]) pl.node q.t w2 HND.out HP2.out (by have h:=HN.out;first | (simp at h ⊢;omega) | omega | (simp at h;omega))).mono ?_
       rintro e w3 ⟨rfl,hp3,hf3⟩
       have HP3:=hid hp3
       have HF3:=hid (HF2.out.trans hf3)
       have HY3:=hid (show PB w3 y q dq fq from hf3.keep HY2.out (by decide) (by omega))
       have HTD3:=hid (HTD2.out.keep fun g hg=>(hf3.low (Nat.le_of_lt hs2)).block g (HX.out g hg))
       have HTF3:=hid (HTF2.out.keep fun g hg=>(hf3.low (Nat.le_of_lt hs2)).block g (HX.out g hg))
       have HTB3:=hid (HTB2.out.fb hf3 (Nat.le_of_lt hs2))
       have hs3 : b < w3.heap.size:=Nat.lt_of_lt_of_le hs2 hf3.size
       clear hp3 hf3 HP2 HF2 HY2 HTD2 HTF2 HTB2
       clear y0
       have y2:=HY3.out.cell 2
       have y3:=HY3.out.cell 3
       have y4:=HY3.out.cell 4
       have y5:=HY3.out.cell 5
       have y6:=HY3.out.cell 6
       simp only [Q2.cells,Q5.cells,List.cons_append,List.nil_append,List.getElem?_cons_succ,List.getElem?_cons_zero] at y2 y3 y4 y5 y6
       go_wp2_with fail
       refine (atom_pr pl.delay kAt ⟨#[64]⟩ rfl (HWP.out.2.1.imp id And.left) b ((((l ++ ([114,111,117,116,101,32] ++ name ++ [32,61,32])) ++ rend (pcPls (pls.take j))) ++ [32,62,32]) ++ pl.node) w3 _ _ _ _ _ _ _ X HP3.out HTB3.out HTD3.out HX.out (by have h:=HN.out;first | (simp at h ⊢;omega) | omega | (simp at h;omega))).mono ?_
       rintro e w4 ⟨rfl,hp4,hf4⟩
       have HP4:=hid hp4
       have HF4:=hid (HF3.out.trans hf4)
       have HY4:=hid (show PB w4 y q dq fq from hf4.keep HY3.out (by decide) (by omega))
       have HTD4:=hid (HTD3.out.keep fun g hg=>(hf4.low (Nat.le_of_lt hs3)).block g (HX.out g hg))
       have HTF4:=hid (HTF3.out.keep fun g hg=>(hf4.low (Nat.le_of_lt hs3)).block g (HX.out g hg))
       have HTB4:=hid (HTB3.out.fb hf4 (Nat.le_of_lt hs3))
       have hs4 : b < w4.heap.size:=Nat.lt_of_lt_of_le hs3 hf4.size
       clear hp4 hf4 HP3 HF3 HY3 HTD3 HTF3 HTB3
       clear y2 y3 y4 y5 y6
       have y7:=HY4.out.cell 7
       have y8:=HY4.out.cell 8
       have y9:=HY4.out.cell 9
       have y10:=HY4.out.cell 10
       have y11:=HY4.out.cell 11
       simp only [Q2.cells,Q5.cells,List.cons_append,List.nil_append,List.getElem?_cons_succ,List.getElem?_cons_zero] at y7 y8 y9 y10 y11
       go_wp2_with fail
       refine (atom_pr pl.flags kBang ⟨#[33]⟩ rfl (HWP.out.2.2.imp id And.left) b (((((l ++ ([114,111,117,116,101,32] ++ name ++ [32,61,32])) ++ rend (pcPls (pls.take j))) ++ [32,62,32]) ++ pl.node) ++ rend (pcAt kAt pl.delay)) w4 _ _ _ _ _ _ _ X HP4.out HTB4.out HTF4.out HX.out (by have h:=HN.out;first | (simp at h ⊢;omega) | omega | (simp at h;omega))).mono ?_
       rintro e w5 ⟨rfl,hp5,hf5⟩
       have HP5:=hid hp5
       have HF5:=hid (HF4.out.trans hf5)
       have HY5:=hid (show PB w5 y q dq fq from hf5.keep HY4.out (by decide) (by omega))
       have HTD5:=hid (HTD4.out.keep fun g hg=>(hf5.low (Nat.le_of_lt hs4)).block g (HX.out g hg))
       have HTF5:=hid (HTF4.out.keep fun g hg=>(hf5.low (Nat.le_of_lt hs4)).block g (HX.out g hg))
       have HTB5:=hid (HTB4.out.fb hf5 (Nat.le_of_lt hs4))
       have hs5 : b < w5.heap.size:=Nat.lt_of_lt_of_le hs4 hf5.size
       clear hp5 hf5 HP4 HF4 HY4 HTD4 HTF4 HTB4
       clear y7 y8 y9 y10 y11
       go_wp2_with fail
       exact ⟨⟨j + 1,by omega,by first | rfl | (congr 1;omega),cast (congrArg (Pr w5 b) (show ((((((l ++ ([114,111,117,116,101,32] ++ name ++ [32,61,32])) ++ rend (pcPls (pls.take j))) ++ [32,62,32]) ++ pl.node) ++ rend (pcAt kAt pl.delay)) ++ rend (pcAt kBang pl.flags)) = (l ++ ([114,111,117,116,101,32] ++ name ++ [32,61,32])) ++ rend (pcPls (pls.take (j + 1))) from by rw [HTE.out];simp only [List.append_assoc])) HP5.out,HF5.out⟩,by simp [intOf];omega⟩
   · have hge : ¬ ((j : Int) < (n : Int)):=by omega
     have HE:=hid (show pls.take j = pls from List.take_of_length_le (by rw [HLN.out];omega))
     have HP0':=hid (show Pr wr b ((l ++ ([114,111,117,116,101,32] ++ name ++ [32,61,32])) ++ rend (pcPls pls)) by have:=HPr.out;rwa [HE.out] at this)
     have HF0:=HFr
     have hs0:=hblr
     clear HPr HFr HP0
     have HP0:=HP0'
     clear HP0'
     obtain ⟨w0,hw0⟩ : ∃ w0,w0 = wr:=⟨_,rfl⟩
     subst hw0
     go_wp2_with fail
     refine (write1 b ((l ++ ([114,111,117,116,101,32] ++ name ++ [32,61,32])) ++ rend (pcPls pls)) [59,10] ⟨#[59,10]⟩ w0 rfl HP0.out (by have h:=HN.out;first | (simp at h ⊢;omega) | omega | (simp at h;omega))).mono ?_
     rintro e w1 ⟨rfl,hp1,hf1⟩
     have HP1:=hid hp1
     have HF1:=hid (HF0.out.trans hf1)
     have hs1 : b < w1.heap.size:=Nat.lt_of_lt_of_le hs0 hf1.size
     clear hp1 hf1 HP0 HF0
     go_wp2_with fail
     go_end0
     exact ⟨rfl,cast (congrArg (Pr w1 b) (show (((l ++ ([114,111,117,116,101,32] ++ name ++ [32,61,32])) ++ rend (pcPls pls)) ++ [59,10]) = l ++ ([114,111,117,116,101,32] ++ name ++ [32,61,32] ++ (rend (pcPls pls) ++ [59,10])) from by simp only [List.append_assoc])) HP1.out,HF1.out⟩
theorem decl_pr {d : Dc} (h : DcW d) : DeP d:=by
 cases h with
 | dlet h1 h2=>exact pd_let _ _ _ h2.1
 | droute h1 h2 h3=>
   refine pd_route _ _ _ fun p hp=>?_
   rcases List.mem_cons.1 hp with rfl | hp
   · exact h2
   · exact h3 p hp
theorem tabx_more {B B' : Nat} {w : World} (h : TabX B w) (hB : B ≤ B') : TabX B' w:=fun w' h'=>h w' (h'.mono hB)
set_option maxRecDepth 100000 in
theorem Print_any (ds : List Dc) (sl : List St) (dq q : QS) (X : Nat → Prop) (w : World) (hT : TabX w.heap.size w) (hd : DcL X w ds dq) (hb : BdV X w sl q) (hX : ∀ g,X g → g < w.heap.size) (hwd : ∀ d ∈ ds,DcW d) (hws : ∀ t ∈ sl,StW 0 t) (hlen : (txSrc ds sl).length ≤ 10000000000000) :
   Calls Tryd.prog 10 #[.agg #[.slice dq.A dq.n dq.d,.slice q.A q.n q.d]] w fun e w'=>e = .returned (.string (sb (txSrc ds sl))) ∧ Below w.heap.size w w':=by
 obtain ⟨dcs,hdv,hdr,_⟩:=hd
 obtain ⟨bcs,hbv,hbr,_⟩:=hb
 obtain ⟨A0,n,c0⟩:=dq
 obtain ⟨A1,n1,c1⟩:=q
 dsimp only at hdr hbr ⊢
 have hln : ds.length = n:=by have h2:=hdv.len;have h3:=hdr.1;omega
 have HEQ:=hid (show txSrc ds sl = rend (pcDs ds) ++ rend (pcL 0 sl) by rw [txSrc,pcSrc,rend_app])
 rw [HEQ.out] at hlen ⊢
 have hnb : n ≤ 10000000000001:=by have h1:=rend_ds_num ds;rw [List.length_append] at hlen;omega
 have HLN:=hid hln
 have HN:=hid hlen
 have HWD:=hid hwd
 have HWS:=hid hws
 have W1:=(w.alloc (.cells #[.slice A0 n c0,.slice A1 n1 c1] 25))
 have e1 : (w.alloc (.cells #[.slice A0 n c0,.slice A1 n1 c1] 25)).heap.size = w.heap.size + 1:=Array.size_push _
 have hb1 : Below w.heap.size w ((w.alloc (.cells #[.slice A0 n c0,.slice A1 n1 c1] 25)).alloc (.cells #[.pointer none,.slice none 0 0] 81)):=((Below.refl _ w).alloc (Nat.le_refl _) _).alloc (by rw [e1];omega) _
 have hb2 : Below (w.heap.size + 1) ((w.alloc (.cells #[.slice A0 n c0,.slice A1 n1 c1] 25))) ((w.alloc (.cells #[.slice A0 n c0,.slice A1 n1 c1] 25)).alloc (.cells #[.pointer none,.slice none 0 0] 81)):=(Below.refl _ _).alloc (by rw [e1];exact Nat.le_refl _) _
 have y0 : ((w.alloc (.cells #[.slice A0 n c0,.slice A1 n1 c1] 25)).alloc (.cells #[.pointer none,.slice none 0 0] 81)).cell? ⟨w.heap.size,0,none⟩ = some (.slice A0 n c0):=by rw [hb2.cell (p:=⟨w.heap.size,0,none⟩) (Nat.lt_succ_self _)];exact blk_cell (heap_alloc_new w _)
 have HY1:=hid (show ((w.alloc (.cells #[.slice A0 n c0,.slice A1 n1 c1] 25)).alloc (.cells #[.pointer none,.slice none 0 0] 81)).heap[w.heap.size]? = some (.cells #[.slice A0 n c0,.slice A1 n1 c1] 25 (0,0)) from (hb2.block w.heap.size (Nat.lt_succ_self _)).trans (heap_alloc_new w _))
 have hpb:=heap_alloc_new (w.alloc (.cells #[.slice A0 n c0,.slice A1 n1 c1] 25)) (.cells #[.pointer none,.slice none 0 0] 81)
 rw [e1] at hpb
 have HP1:=hid (show Pr ((w.alloc (.cells #[.slice A0 n c0,.slice A1 n1 c1] 25)).alloc (.cells #[.pointer none,.slice none 0 0] 81)) (w.heap.size + 1) [] from ⟨_,_,hpb,.inl rfl,World.ownsRow_nil _ _ _ _,(by intro h;cases h),fun _=>rfl⟩)
 have HB1:=hid hb1
 have HV1:=hid (hdv.keep fun g hg=>hb1.block g (hX g hg))
 have HR1:=hid (hdr.keep fun g hg=>hb1.block g (hX g hg))
 have HS1:=hid (hbv.keep fun g hg=>hb1.block g (hX g hg))
 have HQ1:=hid (hbr.keep fun g hg=>hb1.block g (hX g hg))
 have HTB1:=hid (show TabX (w.heap.size + 1) ((w.alloc (.cells #[.slice A0 n c0,.slice A1 n1 c1] 25)).alloc (.cells #[.pointer none,.slice none 0 0] 81)) from tabx_more (hT.on hb1 (Nat.le_refl _)) (Nat.le_succ _))
 obtain ⟨z,hz⟩ : ∃ z,w.heap.size = z:=⟨_,rfl⟩
 have HZ:=hid hz
 have HX:=hid (show ∀ g,X g → g < z + 1 from fun g hg=>by have:=hX g hg;omega)
 clear hT hdv hdr hbv hbr hwd hws hlen hb1 hb2 hpb hX hln W1
 go_enter Tryd.func10,Tryd.ntmps10
 go_upto_region 2 with fail
 (try rw [e1])
 rw [hz] at y0 HY1 HP1 HB1 HTB1
 (try rw [hz])
 clear hz e1
 generalize (w.alloc (.cells #[.slice A0 n c0,.slice A1 n1 c1] 25)).alloc (.cells #[.pointer none,.slice none 0 0] 81) = w1 at *
 obtain ⟨b,hb⟩ : ∃ b,z + 1 = b:=⟨_,rfl⟩
 have hzb : z < b:=by omega
 rw [hb] at HP1 HTB1 HX
 (try rw [hb])
 clear hb
 have hbl:=HP1.out.lt
 have HE0:=hid (show Pr w1 b (rend (pcDs (ds.take 0))) by simpa [pcDs,rend] using HP1.out)
 have HRR:=hid (HR1.out.rr (B:=b) HX.out)
 go_wp2_with fail
 clear y0 HP1
 go_loopw [9] (fun i wr=>∃ j : Nat,j ≤ n ∧ i = .int .i64 (j : Int) ∧ Pr wr b (rend (pcDs (ds.take j))) ∧ Fb b w1 wr) (fun i _=>n - (intOf i).toNat)
 case atStart=>exact ⟨0,by omega,by first | rfl | simp,HE0.out,Fb.refl⟩
 case round=>
   obtain ⟨j,hj,rfl,hp,hf⟩:=hrel
   have HPr:=hid hp
   have HFr:=hid hf
   have hblr : b < wr.heap.size:=Nat.lt_of_lt_of_le hbl hf.size
   have hlow:=hf.low (Nat.le_of_lt hbl)
   have HRr:=hid (HRR.out.below hlow)
   have HVr:=hid (HV1.out.keep fun g hg=>hlow.block g (HX.out g hg))
   have HSr:=hid (HS1.out.keep fun g hg=>hlow.block g (HX.out g hg))
   have HQr:=hid (HQ1.out.keep fun g hg=>hlow.block g (HX.out g hg))
   have HYr:=hid ((hlow.block z hzb).trans HY1.out)
   have HTB0:=hid (HTB1.out.fb hf (Nat.le_of_lt hbl))
   clear hp hf HE0 hlow
   by_cases hlt : j < n
   · have hji : (j : Int) < (n : Int):=by omega
     have hwj : IntKind.i64.wrap ((j : Int) + 1) = (j : Int) + 1:=by rw [IntKind.wrap_i64];omega
     obtain ⟨ab,off,cs,hA,hbB,hcs,hcl,hrg⟩:=HRr.out.at_ hlt
     obtain ⟨d,c2,ht,rfl,htv⟩:=HVr.out.at_ hcs
     subst hA
     have HTK:=hid (show rend (pcDs (ds.take (j + 1))) = rend (pcDs (ds.take j)) ++ rend (pcD d) by rw [List.take_add_one,ht];exact rend_ds _ d)
     have HLE:=hid (rend_ds_len ds (j + 1))
     have HDE:=hid (decl_pr (HWD.out d (List.mem_of_getElem? ht)))
     have HN2:=hid (show (rend (pcDs (ds.take j)) ++ rend (pcD d)).length ≤ 10000000000000 by have h1:=HN.out;have h2:=HLE.out;rw [HTK.out] at h2;simp only [List.length_append] at h1 h2 ⊢;omega)
     have hi1:=hid (show (Tryd.prog.info? 58).map (·.size) = some c2.cells.length from infoDc c2)
     have hi2:=hid (infoDc c2)
     have hx1:=hid (DC.oneA c2)
     have hXs : c2.cells.toArray.size = DC.zero.cells.toArray.size:=rfl
     obtain ⟨Y,hY⟩ : ∃ Y : List Value,c2.cells = Y:=⟨_,rfl⟩
     have HY:=hid hY
     have hba : Below wr.heap.size wr (wr.alloc (.cells Y.toArray 58)):=(Below.refl _ wr).alloc (Nat.le_refl _) _
     have HP1:=hid (HPr.out.later hba)
     have HF1:=hid (HFr.out.trans (Fb.of hba))
     have hs1 : b < (wr.alloc (.cells Y.toArray 58)).heap.size:=Nat.lt_of_lt_of_le hblr hba.size
     have HTB2:=hid (HTB0.out.on hba (Nat.le_of_lt hblr))
     have HE1:=hid (show (wr.alloc (.cells Y.toArray 58)).heap[wr.heap.size]? = some (.cells Y.toArray 58 (0,0)) from heap_alloc_new wr _)
     have HV2:=hid (show DcV X (wr.alloc (.cells Y.toArray 58)) [d] [c2.cells] from htv.keep fun g hg=>hba.block g (Nat.lt_trans (HX.out g hg) hblr))
     rw [hY] at hrg hi1 hi2 hx1 hXs
     clear hcl hcs ht htv hY
     go_upto_region 5 with (first | (refine wl_load_mid (by rfl) 58 (.tmp 11) rfl ab (off + j * 9) rfl Y _ hrg Tryd.underlying58 rfl hi1.out ?_) | (refine wl_store_all (by rfl) 58 (.tmp 5) (.tmp 12) rfl wr.heap.size Y.toArray rfl rfl DC.zero.cells.toArray _ (heap_alloc_new wr _) hXs hi2.out hx1.out ?_))
     rw [alloc_setRow]
     obtain ⟨u,hu⟩ : ∃ u,wr.heap.size = u:=⟨_,rfl⟩
     rw [hu] at HE1 ⊢
     clear hu hba HPr HFr HRr HVr HTB0 hrg HSr HQr HYr
     generalize wr.alloc (.cells Y.toArray 58) = w2 at *
     have hrx : w2.rangeAt u 0 Y:=blk_range HE1.out
     have HSC:=hid (HDE.out b (rend (pcDs (ds.take j))) w2 c2 X HP1.out HTB2.out HV2.out HX.out HN2.out)
     rw [HY.out] at HSC
     go_wp2_with (refine wl_load_mid (by rfl) 58 (.tmp 5) rfl u 0 rfl Y _ hrx Tryd.underlying58 rfl hi1.out ?_)
     refine HSC.out.mono ?_
     rintro e w3 ⟨rfl,hp3,hf3⟩
     have HP3:=hid hp3
     have HF3:=hid (HF1.out.trans hf3)
     clear hp3 hf3 HP1 HF1 HSC hrx
     go_wp2_with fail
     exact ⟨⟨j + 1,by omega,by first | rfl | (congr 1;omega),by rw [HTK.out];exact HP3.out,HF3.out⟩,by simp [intOf];omega⟩
   · have hge : ¬ ((j : Int) < (n : Int)):=by omega
     have HE:=hid (show ds.take j = ds from List.take_of_length_le (by rw [HLN.out];omega))
     have HP2:=hid (show Pr wr b (rend (pcDs ds)) by have:=HPr.out;rwa [HE.out] at this)
     have HSC:=hid (stmts_pr sl HWS.out b (rend (pcDs ds)) wr A1 n1 c1 bcs X HP2.out HTB0.out HSr.out HQr.out HX.out HN.out)
     have y1 : wr.cell? ⟨z,1,none⟩ = some (.slice A1 n1 c1):=blk_cell HYr.out
     go_wp2_with fail
     refine HSC.out.mono ?_
     rintro e w3 ⟨rfl,hp3,hf3⟩
     have HF3:=hid (HFr.out.trans hf3)
     have HST:=hid (String_any b _ w3 hp3)
     clear hp3 hf3 HSC y1 HP2 HPr HFr
     go_wp2_with fail
     refine HST.out.mono ?_
     rintro e w4 ⟨rfl,hb4⟩
     have HB4:=hid (HB1.out.trans (((HF3.out.low (Nat.le_of_lt hbl)).trans hb4).mono (by omega)))
     clear hb4 HST
     go_wp2_with fail
     go_ret
     exact ⟨rfl,by rw [HZ.out];exact HB4.out⟩
end
end Go.Proofs.YtgmjpnnblhkbpaaDoor
namespace Go.Proofs.YtgmjpnnblhkbpaaDoor
open Go Go.RowKit Go.Sh Tx
open Go.Lib (hid)
section
variable {α : Type} {K : Rw α} {e : TypeId} {lo p q n : Nat} {w w0 w1 : World} {v : Value} {l : List α}
set_option maxRecDepth 100000 in
theorem TL.pushB {t : TypeId} {z : Value} {bytes : Nat} {x : α} {cs : List Value} (ty : TypeId) (T : STy Tryd.prog t e z K.sz bytes) (hby : bytes ≤ 1000) (h : TL K e lo w0 v n l) (hk : Kx q p w0.heap.size w0 w1) (hq : q < lo) (hp : p < lo) (hlo : lo ≤ w0.heap.size) (hn : n ≤ 100000000000) (hx : K.R (Fr w0 w1) w1 [x] [cs]) :
   ∃ A' c' w3,(Builtin.append_ #[t,t] ty #[v,.slice (some ⟨w1.heap.size,0,none⟩) 1 1]).run Tryd.prog (w1.alloc (.cells cs.toArray e)) = .ok (.slice A' (n + 1) c') w3 ∧ TL K e lo w3 (.slice A' (n + 1) c') (n + 1) (l ++ [x]) ∧ Below lo w1 w3 ∧ w1.heap.size ≤ w3.heap.size ∧ ∀ b,b < w1.heap.size → v.ownBlock ≠ some b → w3.heap[b]? = w1.heap[b]?:=by
 obtain ⟨css,h1,h2,h3⟩:=h
 have hvl : ∀ g,v.ownBlock = some g → lo ≤ g ∧ g < w0.heap.size:=fun g hg=>h1.lt g hg
 have o1 : w1.ownsRow lo e K.sz v n css.flatten:=own_mid h1 fun b hb hb2=>hk.block b hb2 (by omega) (by omega)
 have r1:=K.keep h2 (w':=w1) fun b hb=>hk.block b hb.2.1 (by have:=hb.1;omega) (by have:=hb.1;omega)
 have hcl : cs.length = K.sz:=K.size hx cs (List.mem_singleton.2 rfl)
 have hlit:=Reads.lit w1 e cs 1 K.sz (by omega) w1.heap.size rfl
 have hs2 : (w1.alloc (.cells cs.toArray e)).heap.size = w1.heap.size + 1:=Array.size_push _
 have ha2 : Below w1.heap.size w1 (w1.alloc (.cells cs.toArray e)):=(Below.refl _ w1).alloc (Nat.le_refl _) _
 have hs01:=hk.size
 have hm : (n + 1) * bytes ≤ (n + 1) * 1000:=Nat.mul_le_mul_left _ hby
 obtain ⟨A',c',w3,hrun,own3,hg,hob⟩:=run_app T (w1.alloc (.cells cs.toArray e)) ty lo v n css.flatten (o1.alloc _) (w1.heap.size + 1) _ 1 1 cs hlit (fun u hu=>K.cell hx cs (List.mem_singleton.2 rfl) u hu) (by omega) (by omega) (by omega)
 have hs3:=hg.size
 have keep3 : ∀ b,b < w1.heap.size → v.ownBlock ≠ some b → w3.heap[b]? = w1.heap[b]?:=fun b hb hv=>(hg.block b (by omega) (fun h=>hv h.symm)).trans (ha2.block b hb)
 refine ⟨A',c',w3,hrun,⟨css ++ [cs],by rw [List.flatten_append];simpa using own3,?_,by rw [List.length_append,h3];rfl⟩,?_,by omega,keep3⟩
 · have hnew : ∀ b,lo ≤ b → b < w1.heap.size → v.ownBlock ≠ some b → lo ≤ b ∧ b < w3.heap.size ∧ (Value.slice A' (n + 1) c').ownBlock ≠ some b:=fun b hb1 hb2 hb3=>⟨hb1,by omega,by
     rcases hob with h | h
     · rw [h];exact hb3
     · rw [h];intro h;have:=Option.some.inj h;omega⟩
   refine K.app (K.mono (K.keep r1 fun b hb=>keep3 b (by have:=hb.2.1;omega) hb.2.2) fun b hb=>hnew b hb.1 (by have:=hb.2.1;omega) hb.2.2) ?_
   have hne : ∀ b,Fr w0 w1 b → v.ownBlock ≠ some b:=fun b hb h=>by have:=(hvl b h).2;have:=hb.1;omega
   exact K.mono (K.keep hx fun b hb=>keep3 b hb.2 (hne b hb)) fun b hb=>hnew b (Nat.le_trans hlo hb.1) hb.2 (hne b hb)
 · have hgb:=hg.block
   exact ⟨hg.os.trans ha2.os,hg.tape.trans ha2.tape,hg.output.trans ha2.output,by omega,fun b hb=>keep3 b (by omega) (fun h=>by have:=(hvl b h).1;omega)⟩
theorem TL.lt (h : TL K e lo w v n l) {g : Nat} (hg : v.ownBlock = some g) : g < w.heap.size:=by
 obtain ⟨css,h1,_⟩:=h
 exact (h1.lt g hg).2
end
theorem jr_mem : ∀ {l : List Ex} {e : Ex},e ∈ l → (tE e).length ≤ (rend (pcR l)).length
 | x :: l,e,h=>by
   rw [pcR]
   simp only [rend,rend_app,List.length_append,List.length_cons,List.length_nil]
   rcases List.mem_cons.1 h with rfl | h
   · rw [tE];omega
   · have:=jr_mem h;omega
theorem j_mem {l : List Ex} {e : Ex} (h : e ∈ l) : (tE e).length ≤ (rend (pcJ l)).length:=by
 cases l with
 | nil=>cases h
 | cons x l=>
   rw [pcJ,rend_app,List.length_append]
   rcases List.mem_cons.1 h with rfl | h
   · rw [tE];omega
   · have:=jr_mem h;omega
theorem par_ge (p : Bool) (e : Ex) : (tE e).length ≤ (rend (parP p (pcE e))).length:=by
 rw [rend_par]
 split
 · simp only [List.length_append];omega
 · exact Nat.le_refl _
theorem kids_num {e : Ex} (h : e = .none ∨ e.wf) : (exKids e).length ≤ (tE e).length + 2:=by
 cases e with
 | join l=>have:=rend_j_num l;rw [tE_join];simp only [exKids,List.length_append];omega
 | bin o x y=>exact Nat.le_add_left _ _
 | _=>exact Nat.zero_le _
set_option maxRecDepth 100000 in
theorem kids_ok {e k : Ex} (h : e = .none ∨ e.wf) (hk : k ∈ exKids e) : k.wf ∧ (tE k).length ≤ (tE e).length ∧ SizeOf.sizeOf k < SizeOf.sizeOf e:=by
 cases e with
 | none=>cases hk
 | num _=>cases hk
 | name _=>cases hk
 | text _=>cases hk
 | join l=>
   rcases h with h | h
   · cases h
   · refine ⟨wfL_mem h.2 hk,?_,?_⟩
     · have h1:=j_mem (l:=l) hk;rw [tE_join];simp only [List.length_append];omega
     · have:=List.sizeOf_lt_of_mem (show k ∈ l from hk);simp;omega
 | bin o x y=>
   rcases h with h | h
   · cases h
   · have hk2 : k = x ∨ k = y:=by simpa [exKids] using hk
     rw [tE_bin]
     have h1:=par_ge (o == kStar && x.isSum) x
     have h2:=par_ge (y.isSum || (o == kStar && y.isProd)) y
     rcases hk2 with rfl | rfl
     · exact ⟨h.2.1,by simp only [List.length_append];omega,by simp;omega⟩
     · exact ⟨h.2.2,by simp only [List.length_append];omega,by simp;omega⟩
def BxPost (e : Ex) (w : World) (en : Ending) (w' : World) : Prop:=
 ∃ (o t : ByteArray) (m a : Int) (A : Option Addr) (n d : Nat),en = .returned (.agg #[.string o,.int .i64 m,.string t,.int .i64 a,.slice A n d]) ∧ TrV (Fr w w') w' [e] [[.string o,.int .i64 m,.string t,.int .i64 a,.slice A n d]] ∧ Below w.heap.size w w'
def BxP (e : Ex) : Prop:=∀ (w : World) (o t : ByteArray) (m a : Int) (A : Option Addr) (n d : Nat) (X : Nat → Prop),TrV X w [e] [[.string o,.int .i64 m,.string t,.int .i64 a,.slice A n d]] → (∀ g,X g → g < w.heap.size) → (e = .none ∨ e.wf) → (tE e).length ≤ 90000000000 →
 Calls Tryd.prog 27 #[.agg #[.string o,.int .i64 m,.string t,.int .i64 a,.slice A n d]] w (BxPost e w)
section
set_option maxHeartbeats 16000000
set_option maxRecDepth 100000
set_option maxRecDepth 100000 in
theorem bareRef_any (V : ByteArray) (a : Int) (w : World) : Calls Tryd.prog 26 #[.agg #[.string V,.int .i64 a]] w fun e w'=>e = .returned (.agg #[.string V,.int .i64 0]) ∧ Below w.heap.size w w':=by
 have e1 : (w.alloc (.cells #[.string V,.int .i64 a] 52)).heap.size = w.heap.size + 1:=Array.size_push _
 have hb1 : Below w.heap.size w ((w.alloc (.cells #[.string V,.int .i64 a] 52)).alloc (.cells #[.string ⟨#[]⟩,.int .i64 0] 52)):=((Below.refl _ w).alloc (Nat.le_refl _) _).alloc (by rw [e1];omega) _
 have hb2 : Below (w.heap.size + 1) (w.alloc (.cells #[.string V,.int .i64 a] 52)) ((w.alloc (.cells #[.string V,.int .i64 a] 52)).alloc (.cells #[.string ⟨#[]⟩,.int .i64 0] 52)):=(Below.refl _ _).alloc (by rw [e1];exact Nat.le_refl _) _
 have y0 : ((w.alloc (.cells #[.string V,.int .i64 a] 52)).alloc (.cells #[.string ⟨#[]⟩,.int .i64 0] 52)).cell? ⟨w.heap.size,0,none⟩ = some (.string V):=by rw [hb2.cell (p:=⟨w.heap.size,0,none⟩) (Nat.lt_succ_self _)];exact blk_cell (heap_alloc_new w _)
 have hz:=heap_alloc_new (w.alloc (.cells #[.string V,.int .i64 a] 52)) (.cells #[.string ⟨#[]⟩,.int .i64 0] 52)
 rw [e1] at hz
 have HR:=hid (show RfB _ (w.heap.size + 1) ⟨#[]⟩ 0 from hz)
 have HB:=hid hb1
 have r0:=HR.out.c0
 have r1:=HR.out.c1
 have r2:=HR.out.free 0
 have r3:=HR.out.free 1
 clear hb1 hb2 hz
 go_enter Tryd.func26,Tryd.ntmps26
 go_upto_region 1 with fail
 (try rw [e1])
 obtain ⟨z,hz⟩ : ∃ z,w.heap.size = z:=⟨_,rfl⟩
 have HZ:=hid hz
 rw [hz] at y0 HR HB r0 r1 r2 r3
 (try rw [hz])
 clear hz e1
 generalize (w.alloc (.cells #[.string V,.int .i64 a] 52)).alloc (.cells #[.string ⟨#[]⟩,.int .i64 0] 52) = w1 at *
 obtain ⟨u,hu⟩ : ∃ u,z + 1 = u:=⟨_,rfl⟩
 have hzu : z ≤ u:=by omega
 rw [hu] at HR r0 r1 r2 r3
 (try rw [hu])
 clear hu
 go_wp2_with fail
 refine bodyPost_ret (v:=.agg #[.string V,.int .i64 0]) (results_c1 rfl _ _ _ ⟨u,0,none⟩ _ rfl (HR.out.put V 0).load) rfl ?_
 exact ⟨rfl,by rw [HZ.out];exact (HB.out.setCell (p:=⟨u,0,none⟩) hzu _).setCell (p:=⟨u,1,none⟩) hzu _⟩
set_option maxRecDepth 100000 in
theorem bx_step {e : Ex} (ih : ∀ k : Ex,SizeOf.sizeOf k < SizeOf.sizeOf e → BxP k) : BxP e:=by
 intro w o t m a A n d X ht hX hw hlen
 obtain ⟨ho,hm,htt,ks,hk,hr,hnd⟩:=ht.inv
 have hln : (exKids e).length = n:=by have h2:=hk.len;have h3:=hr.1;omega
 have hnb : n ≤ 90000000002:=by have:=kids_num hw;omega
 have HLN:=hid hln
 have HIH:=hid (fun k (hk : k ∈ exKids e)=>(show BxP k ∧ k.wf ∧ (tE k).length ≤ 90000000000 from ⟨ih k (kids_ok hw hk).2.2,(kids_ok hw hk).1,Nat.le_trans (kids_ok hw hk).2.1 hlen⟩))
 have HK:=hid (show TrV X w (exKids e) ks from hk)
 have HRR:=hid (hr.rr (B:=w.heap.size) hX)
 have HX:=hid hX
 have HO:=hid ho
 have HM:=hid hm
 have HT:=hid htt
 have e1 : (w.alloc (.cells #[.string o,.int .i64 m,.string t,.int .i64 a,.slice A n d] 55)).heap.size = w.heap.size + 1:=Array.size_push _
 have e2 : ((w.alloc (.cells #[.string o,.int .i64 m,.string t,.int .i64 a,.slice A n d] 55)).alloc (.cells #[.string ⟨#[]⟩,.int .i64 0,.string ⟨#[]⟩,.int .i64 0,.slice none 0 0] 55)).heap.size = (w.alloc (.cells #[.string o,.int .i64 m,.string t,.int .i64 a,.slice A n d] 55)).heap.size + 1:=Array.size_push _
 have HB1:=hid (show Below w.heap.size w ((w.alloc (.cells #[.string o,.int .i64 m,.string t,.int .i64 a,.slice A n d] 55)).alloc (.cells #[.string ⟨#[]⟩,.int .i64 0,.string ⟨#[]⟩,.int .i64 0,.slice none 0 0] 55)) from ((Below.refl _ w).alloc (Nat.le_refl _) _).alloc (by rw [e1];omega) _)
 have hb2 : Below (w.heap.size + 1) (w.alloc (.cells #[.string o,.int .i64 m,.string t,.int .i64 a,.slice A n d] 55)) ((w.alloc (.cells #[.string o,.int .i64 m,.string t,.int .i64 a,.slice A n d] 55)).alloc (.cells #[.string ⟨#[]⟩,.int .i64 0,.string ⟨#[]⟩,.int .i64 0,.slice none 0 0] 55)):=(Below.refl _ _).alloc (by rw [e1];exact Nat.le_refl _) _
 have HC1:=hid (show EB ((w.alloc (.cells #[.string o,.int .i64 m,.string t,.int .i64 a,.slice A n d] 55)).alloc (.cells #[.string ⟨#[]⟩,.int .i64 0,.string ⟨#[]⟩,.int .i64 0,.slice none 0 0] 55)) w.heap.size (.string o) (.int .i64 m) (.string t) (.int .i64 a) (.slice A n d) from EB.far (show EB (w.alloc (.cells #[.string o,.int .i64 m,.string t,.int .i64 a,.slice A n d] 55)) w.heap.size _ _ _ _ _ from heap_alloc_new w _) (hb2.block w.heap.size (Nat.lt_succ_self _)))
 have hz1:=heap_alloc_new (w.alloc (.cells #[.string o,.int .i64 m,.string t,.int .i64 a,.slice A n d] 55)) (.cells #[.string ⟨#[]⟩,.int .i64 0,.string ⟨#[]⟩,.int .i64 0,.slice none 0 0] 55)
 rw [e1] at hz1
 have HE1:=hid (show EB ((w.alloc (.cells #[.string o,.int .i64 m,.string t,.int .i64 a,.slice A n d] 55)).alloc (.cells #[.string ⟨#[]⟩,.int .i64 0,.string ⟨#[]⟩,.int .i64 0,.slice none 0 0] 55)) (w.heap.size + 1) (.string ⟨#[]⟩) (.int .i64 0) (.string ⟨#[]⟩) (.int .i64 0) (.slice none 0 0) from hz1)
 have hs1 : w.heap.size + 2 ≤ ((w.alloc (.cells #[.string o,.int .i64 m,.string t,.int .i64 a,.slice A n d] 55)).alloc (.cells #[.string ⟨#[]⟩,.int .i64 0,.string ⟨#[]⟩,.int .i64 0,.slice none 0 0] 55)).heap.size:=by rw [e2,e1];exact Nat.le_refl _
 clear ht hX hw hlen ho hm htt hk hr hnd hln ih hb2 hz1 e2
 go_enter Tryd.func27,Tryd.ntmps27
 go_upto_region 1 with fail
 (try rw [e1])
 obtain ⟨z0,hz0⟩ : ∃ z0,w.heap.size = z0:=⟨_,rfl⟩
 have HZ:=hid hz0
 rw [hz0] at HB1 HC1 HE1 hs1 HRR HX
 (try rw [hz0])
 clear hz0 e1
 generalize ((w.alloc (.cells #[.string o,.int .i64 m,.string t,.int .i64 a,.slice A n d] 55)).alloc (.cells #[.string ⟨#[]⟩,.int .i64 0,.string ⟨#[]⟩,.int .i64 0,.slice none 0 0] 55)) = w1 at *
 obtain ⟨z,hz⟩ : ∃ z,z0 + 1 = z:=⟨_,rfl⟩
 have hzz : z0 < z:=by omega
 have hs2 : z + 1 ≤ w1.heap.size:=by omega
 rw [hz] at HE1
 (try rw [hz])
 clear hz hs1
 have y0:=HC1.out.c0
 have y1:=HC1.out.c1
 have y2:=HC1.out.c2
 have y3:=HC1.out.c3
 have y4:=HC1.out.c4
 have hba : Below w1.heap.size w1 (w1.alloc (.cells #[.string o,.int .i64 m,.string t,.int .i64 0,.slice none 0 0] 55)):=(Below.refl _ w1).alloc (Nat.le_refl _) _
 have HC2:=hid (HC1.out.far (hba.block z0 (by omega)))
 have HE2:=hid (HE1.out.far (hba.block z (by omega)))
 have HY2:=hid (show EB (w1.alloc (.cells #[.string o,.int .i64 m,.string t,.int .i64 0,.slice none 0 0] 55)) w1.heap.size (.string o) (.int .i64 m) (.string t) (.int .i64 0) (.slice none 0 0) from heap_alloc_new w1 _)
 have HB2:=hid (HB1.out.trans (hba.mono (by omega)))
 have hs3 : w1.heap.size + 1 ≤ (w1.alloc (.cells #[.string o,.int .i64 m,.string t,.int .i64 0,.slice none 0 0] 55)).heap.size:=Nat.le_of_eq (Array.size_push _).symm
 go_upto_region 2 with fail
 clear hba y0 y1 y2 y3 y4 HC1 HE1 HB1
 obtain ⟨y,hy⟩ : ∃ y,w1.heap.size = y:=⟨_,rfl⟩
 rw [hy] at HY2 hs2 hs3 ⊢
 clear hy
 generalize (w1.alloc (.cells #[.string o,.int .i64 m,.string t,.int .i64 0,.slice none 0 0] 55)) = w2 at *
 have k4:=HC2.out.c4
 go_wp2_with fail
 clear k4 HC2
 go_loopw [16] (fun i wr=>∃ (j : Nat) (A' : Option Addr) (c' : Nat),j ≤ n ∧ i = .int .i64 (j : Int) ∧ TL exR 55 (y + 1) wr (.slice A' j c') j ((exKids e).take j) ∧ EB wr y (.string o) (.int .i64 m) (.string t) (.int .i64 0) (.slice A' j c') ∧ EB wr z (.string ⟨#[]⟩) (.int .i64 0) (.string ⟨#[]⟩) (.int .i64 0) (.slice none 0 0) ∧ Below z0 w wr ∧ y + 1 ≤ wr.heap.size) (fun i _=>n - (intOf i).toNat)
 case atStart=>exact ⟨0,none,0,by omega,by first | rfl | simp,TL.nil,HY2.out,HE2.out,HB2.out,hs3⟩
 case round=>
   obtain ⟨j,A1,c1,hj,rfl,htl,hy,he,hb,hs⟩:=hrel
   clear HY2 HE2 HB2 hs3
   have HTL:=hid htl
   have HY:=hid hy
   have HE:=hid he
   have HB:=hid hb
   have HRr:=hid (HRR.out.below hb)
   have HVr:=hid (HK.out.keep fun g hg=>hb.block g (HX.out g hg))
   clear htl hy he hb
   by_cases hlt : j < n
   · have hji : (j : Int) < (n : Int):=by omega
     have hwj : IntKind.i64.wrap ((j : Int) + 1) = (j : Int) + 1:=by rw [IntKind.wrap_i64];omega
     obtain ⟨ab,off,cs,hA,hbB,hcs,hcl,hrg⟩:=HRr.out.at_ hlt
     obtain ⟨ex,hx,htx⟩:=HVr.out.at_ hcs
     obtain ⟨a2,A2,n2,d2,hcs2⟩:=htx.one
     rw [exc] at hcs2
     subst hcs2
     obtain ⟨i1,i2,i3⟩:=HIH.out ex (List.mem_of_getElem? hx)
     have HTK:=hid (show (exKids e).take (j + 1) = (exKids e).take j ++ [ex] by rw [List.take_add_one,hx];rfl)
     have HI:=hid i1
     have HW2:=hid i2
     have HL2:=hid i3
     generalize sb (exOp ex) = o2 at *
     generalize exNm ex = m2 at *
     generalize sb (exTx ex) = t2 at *
     subst hA
     have s0 : wr.cell? ⟨ab,off + j * 5,none⟩ = some (.string o2):=hrg 0 _ rfl
     have s1 : wr.cell? ⟨ab,off + j * 5 + 1,none⟩ = some (.int .i64 m2):=hrg 1 _ rfl
     have s2 : wr.cell? ⟨ab,off + j * 5 + 2,none⟩ = some (.string t2):=hrg 2 _ rfl
     have s3 : wr.cell? ⟨ab,off + j * 5 + 3,none⟩ = some (.int .i64 a2):=hrg 3 _ rfl
     have s4 : wr.cell? ⟨ab,off + j * 5 + 4,none⟩ = some (.slice A2 n2 d2):=hrg 4 _ rfl
     have hba : Below wr.heap.size wr (wr.alloc (.cells #[.string o2,.int .i64 m2,.string t2,.int .i64 a2,.slice A2 n2 d2] 55)):=(Below.refl _ wr).alloc (Nat.le_refl _) _
     have hX2 : ∀ g,X g → g < wr.heap.size:=fun g hg=>by have:=HX.out g hg;omega
     have HU1:=hid (show EB (wr.alloc (.cells #[.string o2,.int .i64 m2,.string t2,.int .i64 a2,.slice A2 n2 d2] 55)) wr.heap.size (.string o2) (.int .i64 m2) (.string t2) (.int .i64 a2) (.slice A2 n2 d2) from heap_alloc_new wr _)
     have HTL1:=hid (HTL.out.keep hba.size fun g _ hg=>hba.block g hg)
     have HY1:=hid (HY.out.far (hba.block y (by omega)))
     have HE1:=hid (HE.out.far (hba.block z (by omega)))
     have HB1:=hid (HB.out.trans (hba.mono (by omega)))
     have HTX1:=hid (htx.keep fun g hg=>hba.block g (hX2 g hg))
     have hs1 : wr.heap.size + 1 ≤ (wr.alloc (.cells #[.string o2,.int .i64 m2,.string t2,.int .i64 a2,.slice A2 n2 d2] 55)).heap.size:=Nat.le_of_eq (Array.size_push _).symm
     clear hcl hrg hcs hx htx i1 i2 i3 hX2
     go_upto_region 5 with fail
     obtain ⟨u,hu⟩ : ∃ u,wr.heap.size = u:=⟨_,rfl⟩
     rw [hu] at HU1 hs1 hs ⊢
     have hul : wr.heap.size ≤ u:=Nat.le_of_eq hu
     have HOU:=hid (show (Value.slice A1 j c1).ownBlock ≠ some u from fun h=>by have:=HTL.out.lt h;omega)
     have HXU:=hid (show ∀ g,X g → g < u from fun g hg=>by have:=HX.out g hg;omega)
     clear hul hu s0 s1 s2 s3 s4 hba HTL HY HE HB HRr HVr
     generalize (wr.alloc (.cells #[.string o2,.int .i64 m2,.string t2,.int .i64 a2,.slice A2 n2 d2] 55)) = w1 at *
     have HUd:=hid (show EB w1.drew u (.string o2) (.int .i64 m2) (.string t2) (.int .i64 a2) (.slice A2 n2 d2) from HU1.out)
     have HTLd:=hid (show TL exR 55 (y + 1) w1.drew (.slice A1 j c1) j ((exKids e).take j) from HTL1.out.keep (Nat.le_refl _) fun _ _ _=>rfl)
     have HYd:=hid (show EB w1.drew y (.string o) (.int .i64 m) (.string t) (.int .i64 0) (.slice A1 j c1) from HY1.out)
     have HEd:=hid (show EB w1.drew z (.string ⟨#[]⟩) (.int .i64 0) (.string ⟨#[]⟩) (.int .i64 0) (.slice none 0 0) from HE1.out)
     have HBd:=hid (show Below z0 w w1.drew from HB1.out.drew)
     have HTXd:=hid (show TrV X w1.drew [ex] [_] from HTX1.out.keep fun _ _=>rfl)
     have hlw : y + 1 ≤ w1.drew.heap.size:=show y + 1 ≤ w1.heap.size by omega
     have hsd : u + 1 ≤ w1.drew.heap.size:=hs1
     clear HU1 HTL1 HY1 HE1 HB1 HTX1 hs1
     refine wp_region_noPanic ?_
     refine wp_region_until (S:=fun W=>W.cell? ⟨y,4,none⟩ = some (.slice A1 j c1) ∧ W.cell? ⟨u,0,none⟩ = some (.string o2) ∧ W.cell? ⟨u,1,none⟩ = some (.int .i64 m2) ∧ W.cell? ⟨u,2,none⟩ = some (.string t2) ∧ W.cell? ⟨u,3,none⟩ = some (.int .i64 a2) ∧ W.cell? ⟨u,4,none⟩ = some (.slice A2 n2 d2)) 7 (by kernel_rfl) ?_ (fun hHeld=>?_)
     · (try dsimp only)
       exact ⟨HYd.out.c4,HUd.out.c0,HUd.out.c1,HUd.out.c2,HUd.out.c3,HUd.out.c4⟩
     generalize w1.drew = wd at *
     apply tkY 0
     apply tkW 1
     apply tkW 2
     refine wpAnyU_one (i:=3) rfl (by decide) (by kernel_rfl) (by rfl) (fun K' hK'=>?_)
     have HKP:=hid hK'
     clear hK'
     go_simp
     refine (HI.out wd o2 t2 m2 a2 A2 n2 d2 X HTXd.out (fun g hg=>by have:=HXU.out g hg;omega) (.inr HW2.out) HL2.out).mono ?_
     rintro en w8 ⟨o3,t3,m3,a3,A3,n3,d3,rfl,htr,hb8⟩
     have HU8:=hid (HUd.out.far (hb8.block u (by omega)))
     have HY8:=hid (HYd.out.far (hb8.block y (by omega)))
     have HE8:=hid (HEd.out.far (hb8.block z (by omega)))
     have HB8:=hid (HBd.out.trans (hb8.mono (by omega)))
     have hs8:=hb8.size
     obtain ⟨A4,c4,w9,hrun,htl9,hbl9,hs9,hk9⟩:=TL.pushB (K:=exR) (p:=0) (q:=0) 53 TTx (by decide) HTLd.out (Kx.of hb8 (Nat.le_refl _)) (Nat.succ_pos _) (Nat.succ_pos _) hlw (by omega) htr
     have HRUN:=hid (show (Builtin.append_ #[53,53] 53 #[.slice A1 j c1,.slice (some ⟨w8.heap.size,0,none⟩) 1 1]).run Tryd.prog (w8.alloc (.cells #[.string o3,.int .i64 m3,.string t3,.int .i64 a3,.slice A3 n3 d3] 55)) = .ok (.slice A4 (j + 1) c4) w9 from hrun)
     have HTL9:=hid htl9
     have HY9:=hid (HY8.out.far (hbl9.block y (Nat.lt_succ_self y)))
     have HU9:=hid (HU8.out.far (hk9 u (by omega) HOU.out))
     have HE9:=hid (HE8.out.far (hbl9.block z (by omega)))
     have HB9:=hid (HB8.out.trans (hbl9.mono (by omega)))
     have hau:=(Below.refl _ w8).alloc (Nat.le_refl _) (.cells #[.string o3,.int .i64 m3,.string t3,.int .i64 a3,.slice A3 n3 d3] 55)
     have HYa:=hid (HY8.out.far (hau.block y (by omega)))
     have HUa:=hid (HU8.out.far (hau.block u (by omega)))
     clear hb8 htr hrun htl9 HTLd HYd HEd HBd HTXd hau hk9
     (try dsimp only)
     refine HKP.out _ _ ⟨HY8.out.c4,HU8.out.c0,HU8.out.c1,HU8.out.c2,HU8.out.c3,HU8.out.c4⟩ ?_
     clear HKP K'
     (try simp only [List.getElem_toArray,List.getElem_cons_zero,List.getElem_cons_succ,Act.put,List.setIfInBounds_toArray,List.set_cons_zero,List.set_cons_succ])
     refine wpAnyU_one (i:=4) rfl (by decide) (by kernel_rfl) (by rfl) (fun K' hK'=>?_)
     have HKP:=hid hK'
     clear hK'
     go_simp
     refine HKP.out _ _ ⟨HYa.out.c4,HUa.out.c0,HUa.out.c1,HUa.out.c2,HUa.out.c3,HUa.out.c4⟩ ?_
     clear HKP K'
     (try simp only [List.getElem_toArray,List.getElem_cons_zero,List.getElem_cons_succ,Act.put,List.setIfInBounds_toArray,List.set_cons_zero,List.set_cons_succ])
     refine wpAnyU_one (i:=5) rfl (by decide) (by kernel_rfl) (by rfl) (fun K' hK'=>?_)
     have HKP:=hid hK'
     clear hK'
     refine Lib.wp_append_run _ (.tmp 21) (.tmp 24) 53 53 rfl _ _ rfl rfl _ _ HRUN.out ?_
     refine HKP.out _ _ ⟨HY9.out.c4,HU9.out.c0,HU9.out.c1,HU9.out.c2,HU9.out.c3,HU9.out.c4⟩ ?_
     clear HKP K'
     (try simp only [List.getElem_toArray,List.getElem_cons_zero,List.getElem_cons_succ,Act.put,List.setIfInBounds_toArray,List.set_cons_zero,List.set_cons_succ])
     clear hHeld HRUN HYa HUa
     have hHeld : _ ∧ _ ∧ _ ∧ _ ∧ _ ∧ _:=⟨HY9.out.c4,HU9.out.c0,HU9.out.c1,HU9.out.c2,HU9.out.c3,HU9.out.c4⟩
     apply tkY 6
     refine wpAnyU_at (c:=7) rfl (by kernel_rfl) (by rfl) (fun K hK=>?_)
     have HK:=hid hK
     clear hK
     have k4:=HY9.out.c4
     have l4:=HY9.out.free 4
     go_simp
     refine HK.out _ _ ?_
     clear HK K
     (try simp only [List.getElem_toArray,List.getElem_cons_zero,List.getElem_cons_succ,Act.put,List.setIfInBounds_toArray,List.set_cons_zero,List.set_cons_succ])
     refine wpAny_done (by kernel_rfl) ?_ _
     refine NoPanic.normal ?_
     have hbn : Below y w9 (w9.setCell ⟨y,4,none⟩ (.slice A4 (j + 1) c4)):=(Below.refl y w9).setCell (p:=⟨y,4,none⟩) (Nat.le_refl _) _
     have hfn : ∀ g,g ≠ y → (w9.setCell ⟨y,4,none⟩ (.slice A4 (j + 1) c4)).heap[g]? = w9.heap[g]?:=fun g hg=>Below.heap_setCell w9 ⟨y,4,none⟩ _ g hg
     have HYn:=hid (HY9.out.put4 (.slice A4 (j + 1) c4))
     have HEn:=hid (HE9.out.far (hfn z (by omega)))
     have HBn:=hid (HB9.out.trans (hbn.mono (by omega)))
     have HTLn:=hid (HTL9.out.keep hbn.size fun g hg _=>hfn g (by omega))
     have hsn : y + 1 ≤ (w9.setCell ⟨y,4,none⟩ (.slice A4 (j + 1) c4)).heap.size:=Nat.le_trans (show y + 1 ≤ w9.heap.size by omega) hbn.size
     clear hbn hfn HY8 HE8 HB8 HU8 HY9 HE9 HB9 HTL9 HU9 hs8 hs9 hHeld hlw hsd k4 l4
     generalize (w9.setCell ⟨y,4,none⟩ (.slice A4 (j + 1) c4)) = wn at *
     go_wp2_with fail
     exact ⟨⟨j + 1,A4,c4,by omega,by first | rfl | (congr 1;omega),by rw [HTK.out];exact HTLn.out,HYn.out,HEn.out,HBn.out,hsn⟩,by simp [intOf];omega⟩
   · have hge : ¬ ((j : Int) < (n : Int)):=by omega
     obtain rfl : j = n:=by omega
     have hEK : (exKids e).take j = exKids e:=List.take_of_length_le (by rw [HLN.out];exact Nat.le_refl _)
     have HTF:=hid (show TL exR 55 (y + 1) wr (.slice A1 j c1) j (exKids e) by have:=HTL.out;rwa [hEK] at this)
     clear hEK HTL
     have k0:=HY.out.c0
     have g0:=HE.out.c0
     have f0:=HE.out.free 0
     have k1:=HY.out.c1
     have g1:=HE.out.c1
     have f1:=HE.out.free 1
     have k2:=HY.out.c2
     have g2:=HE.out.c2
     have f2:=HE.out.free 2
     have k3:=HY.out.c3
     have g3:=HE.out.c3
     have f3:=HE.out.free 3
     have k4:=HY.out.c4
     have g4:=HE.out.c4
     have f4:=HE.out.free 4
     go_wp2_with fail
     refine bodyPost_ret (v:=.agg #[.string o,.int .i64 m,.string t,.int .i64 0,.slice A1 j c1]) (results_c1 rfl _ _ _ ⟨z,0,none⟩ _ rfl (HE.out.put _ _ _ _ _).load) rfl ?_
     have hb5:=below5 (Below.refl z wr) (.string o) (.int .i64 m) (.string t) (.int .i64 0) (.slice A1 j c1)
     obtain ⟨css,q1,q2,q3⟩:=HTF.out.fin (z:=z) (y:=y) (by omega) (by omega)
     refine ⟨o,t,m,0,A1,j,c1,rfl,?_,by rw [HZ.out];exact HB.out.trans (hb5.mono (by omega))⟩
     have hfar : ∀ g,g ≠ z → (((((wr.setCell ⟨z,0,none⟩ (.string o)).setCell ⟨z,1,none⟩ (.int .i64 m)).setCell ⟨z,2,none⟩ (.string t)).setCell ⟨z,3,none⟩ (.int .i64 0)).setCell ⟨z,4,none⟩ (.slice A1 j c1)).heap[g]? = wr.heap[g]?:=fun g hg=>far5 hg _ _ _ _ _
     have hsz:=hb5.size
     generalize ((((wr.setCell ⟨z,0,none⟩ (.string o)).setCell ⟨z,1,none⟩ (.int .i64 m)).setCell ⟨z,2,none⟩ (.string t)).setCell ⟨z,3,none⟩ (.int .i64 0)).setCell ⟨z,4,none⟩ (.slice A1 j c1) = wE at *
     have hmo : ∀ g,Fx z y wr g → Fr w wE g:=fun g hg=>⟨by rw [HZ.out];have:=hg.1;omega,Nat.lt_of_lt_of_le hg.2.1 hsz⟩
     have hcons:=TrV.cons (e:=e) (a:=0) ((TrV.keep (w':=wE) q2 fun g hg=>hfar g (by have:=hg.1;omega)).mono hmo) ((RP.keep (w':=wE) q1 fun g hg=>hfar g (by have:=hg.1;omega)).mono hmo) q3 .nil
     rw [exc,← HO.out,← HM.out,← HT.out] at hcons
     exact hcons
theorem bareExpr_any (e : Ex) : BxP e:=by
 suffices H : ∀ n (e : Ex),SizeOf.sizeOf e ≤ n → BxP e from H (SizeOf.sizeOf e) e (Nat.le_refl _)
 intro n
 induction n with
 | zero=>intro e he;cases e <;> simp at he
 | succ n ih=>intro e he;exact bx_step fun k hk=>ih k (by omega)
end
end Go.Proofs.YtgmjpnnblhkbpaaDoor
