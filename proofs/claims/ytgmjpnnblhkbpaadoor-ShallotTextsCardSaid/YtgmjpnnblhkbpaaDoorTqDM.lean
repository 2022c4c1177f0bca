/-
  Contract of tree.bareStmts. Conditions: statements whose expressions are in form, with at most 9 * 10^10 parts each.
-/
import Derived.Test.YtgmjpnnblhkbpaaDoorTqCM
import Derived.Test.YtgmjpnnblhkbpaaDoorTqBM
import Derived.Test.YtgmjpnnblhkbpaaDoorSqM
namespace Go.Proofs.YtgmjpnnblhkbpaaDoor
open Go Go.RowKit Go.Sh Tx
open Go.Lib (hid)
def ExB (e : Ex) : Prop:=(e = .none ∨ e.wf) ∧ (tE e).length ≤ 90000000000
inductive StB : St → Prop where
 | mk {kind name : Bs} {a b c : Ex} {routes : List Bs} {block tag : Bs} {body els : List St} : ExB a → ExB b → ExB c → routes.length ≤ 90000000000 → body.length ≤ 90000000000 → els.length ≤ 90000000000 → (∀ t ∈ body,StB t) → (∀ t ∈ els,StB t) → StB (.mk kind name a b c routes block tag body els)
def BsPost (ts : List St) (w : World) (en : Ending) (w' : World) : Prop:=
 ∃ (A : Option Addr) (n d : Nat),en = .returned (.slice A n d) ∧ BdV (Fr w w') w' ts ⟨A,n,d⟩ ∧ Below w.heap.size w w'
def BsP (ts : List St) : Prop:=∀ (w : World) (A : Option Addr) (n c : Nat) (css : List (List Value)) (X : Nat → Prop),StV X w ts css → RP X w 26 A n css → (∀ g,X g → g < w.heap.size) → ts.length ≤ 90000000000 → (∀ t ∈ ts,StB t) →
 Calls Tryd.prog 28 #[.slice A n c] w (BsPost ts w)
theorem lt_cell {w : World} {b i : Nat} {v : Value} (h : w.cell? ⟨b,i,none⟩ = some v) : b < w.heap.size:=by
 unfold World.cell? at h
 rcases Nat.lt_or_ge b w.heap.size with h' | h'
 · exact h'
 · simp [Array.getElem?_eq_none h'] at h
section
set_option maxHeartbeats 32000000
set_option maxRecDepth 100000
theorem stb_inv {kind name : Bs} {a b c : Ex} {routes : List Bs} {block tag : Bs} {body els : List St} (h : StB (.mk kind name a b c routes block tag body els)) : ExB a ∧ ExB b ∧ ExB c ∧ routes.length ≤ 90000000000 ∧ body.length ≤ 90000000000 ∧ els.length ≤ 90000000000 ∧ (∀ t ∈ body,StB t) ∧ ∀ t ∈ els,StB t:=by
 cases h with
 | mk h1 h2 h3 h4 h5 h6 h7 h8=>exact ⟨h1,h2,h3,h4,h5,h6,h7,h8⟩
theorem RfV.one' (V : ByteArray) (x : Bs) (a : Int) (h : sb x = V) : RfV [x] [[.string V,.int .i64 a]]:=RfV.cons (q:=Q2.mk V a) h.symm .nil
set_option maxRecDepth 100000 in
theorem yieldsIf_litT {P : Program} {ops : Array Oper} {S : World → Prop} {o : Oper} {a : Act} (hw : Region.wanted o (yielded ops a.tmps) = true) (t : TypeId) (parts : List (Nat × Operand)) (ho : o.op = .build t parts.toArray)
   (vals : List (Nat × Value)) (hv : (parts.map fun (i,x)=>(i,a.eval x)) = vals) (cells : Array Value) (hc : P.built t vals = some cells) : YieldsIf P ops S o (.agg cells) a:=by
 subst hv
 have hc' : P.built t (parts.toArray.map fun (i,x)=>(i,a.eval x)).toList = some cells:=by simpa using hc
 refine .inl ⟨hw,fun w _=>?_⟩
 unfold execOp
 simp only [ho,Sem.run_bind,run_build w t _ cells hc',Result.andThen_ok,Sem.run_pure]
set_option maxRecDepth 100000 in
theorem wp_litT {P : Program} {o : Oper} {a : Act} {w : World} {K : Act → World → Prop} {Q : Exit → Act → World → Prop} (t : TypeId) (parts : List (Nat × Operand)) (ho : o.op = .build t parts.toArray)
   (vals : List (Nat × Value)) (hv : (parts.map fun (i,x)=>(i,a.eval x)) = vals) (cells : Array Value) (hc : P.built t vals = some cells) (h : K (a.put o.dst (.agg cells)) w) : o.wp P a w K Q:=by
 subst hv
 have hc' : P.built t (parts.toArray.map fun (i,x)=>(i,a.eval x)).toList = some cells:=by simpa using hc
 refine wp_build t parts.toArray ho (by rw [hc'];rfl) ?_
 rw [hc']
 exact h
theorem wp_store_allT {P : Program} {op : Oper} {a : Act} {w : World} {K : Act → World → Prop} {Q : Exit → Act → World → Prop} (ty : TypeId) (x y : Operand) (ho : op.op = .store ty x y)
   (b : Nat) (cells : Array Value) (hx : a.eval x = .pointer (some ⟨b,0,none⟩)) (hy : a.eval y = .agg cells) (cs : Array Value) (t : TypeId) (hg : w.heap[b]? = some (.cells cs t (0,0))) (hs : cells.size = cs.size)
   (hi : (P.info? ty).map (·.size) = some cells.size) (h1 : ∀ v ∈ cells.toList,v.oneCell' = true) (h : K (a.put op.dst undef) (w.setRow b cells)) : op.wp P a w K Q:=by
 have hrun:=run_store_whole (P:=P) w b ty cells cs t hg hs hi h1
 unfold Oper.wp execOp
 simp only [ho,hx,hy,Sem.run_bind,Sem.run_pure,Result.andThen_ok,hrun]
 exact h
set_option maxRecDepth 100000 in
theorem bs_step {ts : List St} (ih : ∀ t ∈ ts,match t with | .mk _ _ _ _ _ _ _ _ body els=>BsP body ∧ BsP els) : BsP ts:=by
 intro w A n c0 css X hv hr hX hlen hok
 have hln : ts.length = n:=by have h2:=hv.len;have h3:=hr.1;omega
 have HLN:=hid hln
 have HOK:=hid hok
 have HIH:=hid ih
 have HV:=hid hv
 have HRRw:=hid (hr.rr (B:=w.heap.size) hX)
 have hnb : n ≤ 90000000000:=by omega
 obtain ⟨z0,hz0⟩ : ∃ z0,w.heap.size = z0:=⟨_,rfl⟩
 have HZ:=hid hz0
 rw [hz0] at hX HRRw
 have HX:=hid hX
 clear hv hr hX hlen hok hln ih hz0
 go_enter Tryd.func28,Tryd.ntmps28
 go_wp2_with fail
 go_loopw [3,11] (fun v i wr=>∃ (j : Nat) (A' : Option Addr) (c' : Nat),j ≤ n ∧ i = .int .i64 (j : Int) ∧ v = .slice A' j c' ∧ TL stR 64 (z0 + 1) wr (.slice A' j c') j (ts.take j) ∧ Below z0 w wr) (fun _ i _=>n - (intOf i).toNat)
 case atStart=>exact ⟨0,none,0,by omega,by first | rfl | simp,rfl,TL.nil,Below.refl _ _⟩
 case round=>
   obtain ⟨j,A1,c1,hj,rfl,rfl,htl,hb⟩:=hrel
   have HTL:=hid htl
   have HBW:=hid hb
   have HRr:=hid (HRRw.out.below hb)
   have HVr:=hid (HV.out.keep fun g hg=>hb.block g (HX.out g hg))
   have hzs : z0 ≤ wr.heap.size:=by have:=hb.size;have:=HZ.out;omega
   clear htl hb
   by_cases hlt : j < n
   · have hji : (j : Int) < (n : Int):=by omega
     have hwj : IntKind.i64.wrap ((j : Int) + 1) = (j : Int) + 1:=by rw [IntKind.wrap_i64];omega
     obtain ⟨ab,off,cs,hA,hbB,hcs,hcl,hrg⟩:=HRr.out.at_ hlt
     obtain ⟨t,c,ht,rfl,htv⟩:=HVr.out.at_ hcs
     subst hA
     have HTK:=hid (show ts.take (j + 1) = ts.take j ++ [t] by rw [List.take_add_one,ht];rfl)
     have hsb:=HOK.out t (List.mem_of_getElem? ht)
     obtain ⟨kind,name,ea,eb,ec,routes,block,tag,body,els⟩:=t
     obtain ⟨i1,i2⟩:=HIH.out _ (List.mem_of_getElem? ht)
     obtain ⟨qa,qb,qc,qr,qy,qe,qs,qt⟩:=stb_inv hsb
     obtain ⟨hki,hna,hta,htb,htc,⟨rs,hrf,hrr⟩,hbk,htg,⟨bs,hbv,hbr⟩,⟨es,hev,her⟩⟩:=htv.inv
     have HKI:=hid hki
     have HNA:=hid hna
     have HBK:=hid hbk
     have HTG:=hid htg
     have HRF:=hid hrf
     have HQA:=hid qa
     have HQB:=hid qb
     have HQC:=hid qc
     have HI1:=hid i1
     have HI2:=hid i2
     have HQY:=hid qy
     have HQE:=hid qe
     have HQS:=hid qs
     have HQT:=hid qt
     have hX2 : ∀ g,X g → g < wr.heap.size:=fun g hg=>by have:=HX.out g hg;omega
     have hrn : c.routes.n = routes.length:=by have h1:=hrr.1;have h2:=hrf.len;omega
     have HRN:=hid hrn
     have hrb : c.routes.n ≤ 90000000000:=by omega
     have hi1:=hid (show (Tryd.prog.info? 64).map (·.size) = some c.cells.length from infoSt c)
     have hi2:=hid (infoSt c)
     have hx1:=hid (SC.oneA c)
     have hXs : c.cells.toArray.size = SC.zero.cells.toArray.size:=rfl
     obtain ⟨Y,hY⟩ : ∃ Y : List Value,c.cells = Y:=⟨_,rfl⟩
     have hba : Below wr.heap.size wr (wr.alloc (.cells Y.toArray 64)):=(Below.refl _ wr).alloc (Nat.le_refl _) _
     have HU1:=hid (show SB (wr.alloc (.cells Y.toArray 64)) wr.heap.size c by rw [← hY];exact heap_alloc_new wr _)
     have HTA1:=hid (hta.keep fun g hg=>hba.block g (hX2 g hg))
     have HTB1:=hid (htb.keep fun g hg=>hba.block g (hX2 g hg))
     have HTC1:=hid (htc.keep fun g hg=>hba.block g (hX2 g hg))
     have HRR1:=hid (hrr.keep fun g hg=>hba.block g (hX2 g hg))
     have HBV1:=hid (hbv.keep fun g hg=>hba.block g (hX2 g hg))
     have HBR1:=hid (hbr.keep fun g hg=>hba.block g (hX2 g hg))
     have HEV1:=hid (hev.keep fun g hg=>hba.block g (hX2 g hg))
     have HER1:=hid (her.keep fun g hg=>hba.block g (hX2 g hg))
     have HTL1:=hid (HTL.out.keep hba.size fun g _ hg=>hba.block g hg)
     have HBA:=hid (HBW.out.trans (hba.mono hzs))
     have hs1 : wr.heap.size + 1 ≤ (wr.alloc (.cells Y.toArray 64)).heap.size:=Nat.le_of_eq (Array.size_push _).symm
     rw [hY] at hrg hi1 hi2 hx1 hXs
     clear hcl hcs ht htv hki hna hta htb htc hrf hrr hbk htg hbv hbr hev her hsb i1 i2 qa qb qc qr qy qe qs qt hY hrn HRr HVr
     go_upto_region 5 with (first | (refine wl_load_mid (by rfl) 64 (.tmp 13) rfl ab (off + j * 26) rfl Y _ hrg Tryd.underlying64 rfl hi1.out ?_) | (refine wl_store_all (by rfl) 64 (.tmp 5) (.tmp 14) rfl wr.heap.size Y.toArray rfl rfl SC.zero.cells.toArray _ (heap_alloc_new wr _) hXs hi2.out hx1.out ?_))
     rw [alloc_setRow]
     obtain ⟨u,hu⟩ : ∃ u,wr.heap.size = u:=⟨_,rfl⟩
     have HUU:=hid hu
     have HXU:=hid (show ∀ g,X g → g < u from fun g hg=>by rw [← hu];exact hX2 g hg)
     have hsb1 : (wr.alloc (.cells Y.toArray 64)).heap.size = wr.heap.size + 1:=Array.size_push _
     rw [hu] at HU1 hs1 hzs hsb1
     (try rw [hu])
     clear hu hba hrg hX2 hi1 hi2 hx1 hXs hbB HTL HBW
     generalize (wr.alloc (.cells Y.toArray 64)) = wb at *
     have HSB:=hid hsb1
     have HB1:=hid (show Below (u + 1) wb wb from Below.refl _ _)
     clear hsb1
     have HTAd:=hid (show TrV X wb.drew [ea] [c.a.cells] from HTA1.out.keep fun _ _=>rfl)
     have HTBd:=hid (show TrV X wb.drew [eb] [c.b.cells] from HTB1.out.keep fun _ _=>rfl)
     have HTCd:=hid (show TrV X wb.drew [ec] [c.c.cells] from HTC1.out.keep fun _ _=>rfl)
     have HRRd:=hid (show RP X wb.drew 2 c.routes.A c.routes.n rs from HRR1.out.keep fun _ _=>rfl)
     have HBVd:=hid (show StV X wb.drew body bs from HBV1.out.keep fun _ _=>rfl)
     have HBRd:=hid (show RP X wb.drew 26 c.body.A c.body.n bs from HBR1.out.keep fun _ _=>rfl)
     have HEVd:=hid (show StV X wb.drew els es from HEV1.out.keep fun _ _=>rfl)
     have HERd:=hid (show RP X wb.drew 26 c.els.A c.els.n es from HER1.out.keep fun _ _=>rfl)
     have HUd:=hid (show SB wb.drew u c from HU1.out)
     have HBd:=hid (HB1.out.drew)
     have hsd : u + 1 ≤ wb.drew.heap.size:=hs1
     clear HTA1 HTB1 HTC1 HRR1 HBV1 HBR1 HEV1 HER1 HU1 HB1 hs1
     refine wp_region_noPanic ?_
     refine wp_region_held_drew (S:=fun W=>W.cell? ⟨u,0,none⟩ = some (.string c.kind) ∧ W.cell? ⟨u,2,none⟩ = some (.string c.name.t) ∧ W.cell? ⟨u,3,none⟩ = some (.int .i64 c.name.a) ∧ W.cell? ⟨u,20,none⟩ = some (.string c.block.t) ∧ W.cell? ⟨u,21,none⟩ = some (.int .i64 c.block.a) ∧ W.cell? ⟨u,22,none⟩ = some (.string c.tag.t) ∧ W.cell? ⟨u,23,none⟩ = some (.int .i64 c.tag.a)) (by kernel_rfl) ?_ (fun hHeld=>?_)
     · (try dsimp only)
       exact ⟨HUd.out.cell 0,HUd.out.cell 2,HUd.out.cell 3,HUd.out.cell 20,HUd.out.cell 21,HUd.out.cell 22,HUd.out.cell 23⟩
     generalize wb.drew = wd at *
     apply tkH 0
     apply tkH 1
     apply tkH 2
     apply tkH 3
     apply tkH 5
     apply tkH 6
     apply tkH 8
     apply tkH 9
     obtain ⟨Y2,hY2⟩ : ∃ Y2 : Array Value,(SC.mk c.kind 0 (Q2.mk c.name.t 0) Q5.zero Q5.zero Q5.zero QS.zero (Q2.mk c.block.t 0) (Q2.mk c.tag.t 0) QS.zero QS.zero).cells.toArray = Y2:=⟨_,rfl⟩
     have HBT:=hid (show Tryd.prog.built 64 [(0,.string c.kind),(2,.agg #[.string c.name.t,.int .i64 0]),(7,.agg #[.string c.block.t,.int .i64 0]),(8,.agg #[.string c.tag.t,.int .i64 0])] = some Y2 by rw [← hY2];kernel_rfl)
     have HXS:=hid (show Y2.size = SC.zero.cells.toArray.size by rw [← hY2];rfl)
     have HXI:=hid (show (Tryd.prog.info? 64).map (·.size) = some Y2.size by rw [← hY2];exact infoSt _)
     have HX1:=hid (show ∀ v ∈ Y2.toList,v.oneCell' = true by rw [← hY2];exact SC.oneA _)
     have HY2:=hid hY2
     clear hY2
     refine wpAnyH_many [4,7,10,11,12] [19,22,25,26,6] #[true,true,true,true,true,true,true,true,true,true,true,true,true,false] (fuel:=1) (fun k v W=>match k with
       | 0=>v = .agg #[.string c.name.t,.int .i64 0]
       | 1=>v = .agg #[.string c.block.t,.int .i64 0]
       | 2=>v = .agg #[.string c.tag.t,.int .i64 0]
       | 3=>v = .agg Y2
       | 4=>∃ y,v = .pointer (some ⟨y,0,none⟩) ∧ u < y ∧ SB W y SC.zero
       | _=>True) (by rfl) rfl (by decide) (by decide) (by show ∀ d ∈ [19,22,25,26,6],d < 68;decide) (by kernel_rfl) (by kernel_rfl) (by kernel_rfl) ?_ ?_ hHeld ?_ ?_
     · rintro w' w'' ⟨h0,h1,h2,h3,h4,h5,h6⟩ hb
       exact ⟨(hb.cell (p:=⟨u,0,none⟩) (lt_cell h0)).trans h0,(hb.cell (p:=⟨u,2,none⟩) (lt_cell h1)).trans h1,(hb.cell (p:=⟨u,3,none⟩) (lt_cell h2)).trans h2,(hb.cell (p:=⟨u,20,none⟩) (lt_cell h3)).trans h3,(hb.cell (p:=⟨u,21,none⟩) (lt_cell h4)).trans h4,(hb.cell (p:=⟨u,22,none⟩) (lt_cell h5)).trans h5,(hb.cell (p:=⟨u,23,none⟩) (lt_cell h6)).trans h6⟩
     · intro k v w' w'' h hb
       match k,h with
       | 0,h=>exact h
       | 1,h=>exact h
       | 2,h=>exact h
       | 3,h=>exact h
       | 4,h=>
         obtain ⟨y,e1,e2,e3⟩:=h
         exact ⟨y,e1,e2,e3.far (hb.block y (Array.getElem?_eq_some_iff.1 e3).1)⟩
       | k + 5,h=>trivial
     · intro k i o hk ho a w' ha hD hS hb
       match k,i,hk,ho with
       | 0,i,hk,ho=>
         obtain rfl:=Option.some.inj hk
         obtain rfl:=Option.some.inj ho
         have et : a.eval (.tmp 18) = .agg #[.string c.name.t,.int .i64 c.name.a]:=ha 18 (by decide)
         go_simp
         rw [ev_get et]
         refine (bareRef_any c.name.t c.name.a w').mono ?_
         rintro e w2 ⟨rfl,hb2⟩
         exact ⟨rfl,hb2⟩
       | 1,i,hk,ho=>
         obtain rfl:=Option.some.inj hk
         obtain rfl:=Option.some.inj ho
         have et : a.eval (.tmp 21) = .agg #[.string c.block.t,.int .i64 c.block.a]:=ha 21 (by decide)
         go_simp
         rw [ev_get et]
         refine (bareRef_any c.block.t c.block.a w').mono ?_
         rintro e w2 ⟨rfl,hb2⟩
         exact ⟨rfl,hb2⟩
       | 2,i,hk,ho=>
         obtain rfl:=Option.some.inj hk
         obtain rfl:=Option.some.inj ho
         have et : a.eval (.tmp 24) = .agg #[.string c.tag.t,.int .i64 c.tag.a]:=ha 24 (by decide)
         go_simp
         rw [ev_get et]
         refine (bareRef_any c.tag.t c.tag.a w').mono ?_
         rintro e w2 ⟨rfl,hb2⟩
         exact ⟨rfl,hb2⟩
       | 3,i,hk,ho=>
         obtain rfl:=Option.some.inj hk
         obtain rfl:=Option.some.inj ho
         have e16 : a.eval (.tmp 16) = .string c.kind:=ha 16 (by decide)
         have e19 : a.eval (.tmp 19) = .agg #[.string c.name.t,.int .i64 0]:=hD ⟨4,.data⟩ (by simp) rfl 0 19 rfl rfl
         have e22 : a.eval (.tmp 22) = .agg #[.string c.block.t,.int .i64 0]:=hD ⟨7,.data⟩ (by simp) rfl 1 22 rfl rfl
         have e25 : a.eval (.tmp 25) = .agg #[.string c.tag.t,.int .i64 0]:=hD ⟨10,.data⟩ (by simp) rfl 2 25 rfl rfl
         refine wp_litT 64 [(0,.tmp 16),(2,.tmp 19),(7,.tmp 22),(8,.tmp 25)] rfl [(0,.string c.kind),(2,.agg #[.string c.name.t,.int .i64 0]),(7,.agg #[.string c.block.t,.int .i64 0]),(8,.agg #[.string c.tag.t,.int .i64 0])] (by simp only [List.map_cons,List.map_nil,e16,e19,e22,e25]) Y2 HBT.out ⟨_,rfl,Below.refl _ _,rfl⟩
       | 4,i,hk,ho=>
         obtain rfl:=Option.some.inj hk
         obtain rfl:=Option.some.inj ho
         go_simp
         exact ⟨_,rfl,(Below.refl _ w').alloc (Nat.le_refl _) _,w'.heap.size,rfl,by have:=hb.size;have:=hsd;omega,heap_alloc_new w' _⟩
       | k + 5,i,hk,ho=>simp at hk
     intro x we hx hbg hHeld2
     have x0 : x 0 = .agg #[.string c.name.t,.int .i64 0]:=hx 0 (by decide)
     have x1 : x 1 = .agg #[.string c.block.t,.int .i64 0]:=hx 1 (by decide)
     have x2 : x 2 = .agg #[.string c.tag.t,.int .i64 0]:=hx 2 (by decide)
     have x3 : x 3 = .agg Y2:=hx 3 (by decide)
     obtain ⟨y,x4,huy,hye⟩:=hx 4 (by decide)
     simp only [setAll,x0,x1,x2,x3,x4,Nat.zero_add,Nat.reduceAdd,List.setIfInBounds_toArray,List.set_cons_zero,List.set_cons_succ]
     have HYE:=hid hye
     clear hHeld hx x0 x1 x2 x3 x4 hye
     have hHeld:=hHeld2
     clear hHeld2
     have HTAe:=hid (HTAd.out.keep fun g hg=>hbg.block g (by have:=HXU.out g hg;have:=hsd;omega))
     have HTBe:=hid (HTBd.out.keep fun g hg=>hbg.block g (by have:=HXU.out g hg;have:=hsd;omega))
     have HTCe:=hid (HTCd.out.keep fun g hg=>hbg.block g (by have:=HXU.out g hg;have:=hsd;omega))
     have HRRe:=hid (HRRd.out.keep fun g hg=>hbg.block g (by have:=HXU.out g hg;have:=hsd;omega))
     have HBVe:=hid (HBVd.out.keep fun g hg=>hbg.block g (by have:=HXU.out g hg;have:=hsd;omega))
     have HBRe:=hid (HBRd.out.keep fun g hg=>hbg.block g (by have:=HXU.out g hg;have:=hsd;omega))
     have HEVe:=hid (HEVd.out.keep fun g hg=>hbg.block g (by have:=HXU.out g hg;have:=hsd;omega))
     have HERe:=hid (HERd.out.keep fun g hg=>hbg.block g (by have:=HXU.out g hg;have:=hsd;omega))
     have HUe:=hid (HUd.out.far (hbg.block u (by have:=hsd;omega)))
     have HBe:=hid (HBd.out.trans (hbg.mono (by have:=hsd;omega)))
     have hse:=Nat.le_trans hsd hbg.size
     clear hbg HTAd HTBd HTCd HRRd HBVd HBRd HEVd HERd HUd HBd hsd
     refine wpAnyH_ready (rs:=[13]) (by kernel_rfl) (by simp) ?_
     refine AllReadyH.cons rfl (fun K hK=>?_) AllReadyH.nil
     refine wp_store_allT 64 (.tmp 6) (.tmp 26) rfl y Y2 rfl rfl SC.zero.cells.toArray _ HYE.out HXS.out HXI.out HX1.out ?_
     have hfs : ∀ g,g ≠ y → (we.setRow y Y2).heap[g]? = we.heap[g]?:=fun g hg=>setRow_other we y g _ hg
     have hbs:=below_setRow (Below.refl y we) (Nat.le_refl y) Y2
     have HTAf:=hid (HTAe.out.keep fun g hg=>hfs g (by have:=HXU.out g hg;omega))
     have HTBf:=hid (HTBe.out.keep fun g hg=>hfs g (by have:=HXU.out g hg;omega))
     have HTCf:=hid (HTCe.out.keep fun g hg=>hfs g (by have:=HXU.out g hg;omega))
     have HRRf:=hid (HRRe.out.keep fun g hg=>hfs g (by have:=HXU.out g hg;omega))
     have HBVf:=hid (HBVe.out.keep fun g hg=>hfs g (by have:=HXU.out g hg;omega))
     have HBRf:=hid (HBRe.out.keep fun g hg=>hfs g (by have:=HXU.out g hg;omega))
     have HEVf:=hid (HEVe.out.keep fun g hg=>hfs g (by have:=HXU.out g hg;omega))
     have HERf:=hid (HERe.out.keep fun g hg=>hfs g (by have:=HXU.out g hg;omega))
     have HUf:=hid (HUe.out.far (hfs u (by omega)))
     have HBf:=hid (HBe.out.trans (hbs.mono (by omega)))
     have hsf : y + 1 ≤ (we.setRow y Y2).heap.size:=Nat.le_trans (Array.getElem?_eq_some_iff.1 HYE.out).1 hbs.size
     have HYf:=hid (show SB (we.setRow y Y2) y (SC.mk c.kind 0 (Q2.mk c.name.t 0) Q5.zero Q5.zero Q5.zero QS.zero (Q2.mk c.block.t 0) (Q2.mk c.tag.t 0) QS.zero QS.zero) by unfold SB;rw [HY2.out];exact setRow_heap we y _ _ _ _ HYE.out)
     clear hfs hbs HYE HY2 HBT HXS HXI HX1 HTAe HTBe HTCe HRRe HBVe HBRe HEVe HERe HUe HBe hse
     refine hK.out _ _ ?_ (fun hHeld=>?_)
     · (try dsimp only)
       exact ⟨HUf.out.cell 0,HUf.out.cell 2,HUf.out.cell 3,HUf.out.cell 20,HUf.out.cell 21,HUf.out.cell 22,HUf.out.cell 23⟩
     clear hK K
     generalize we.setRow y Y2 = wf at *
     (try simp only [List.getElem_toArray,List.getElem_cons_zero,List.getElem_cons_succ,Act.put,List.setIfInBounds_toArray,List.set_cons_zero,List.set_cons_succ])
     refine wpAnyH_done (by kernel_rfl) ?_ _
     refine NoPanic.normal ?_
     (try clear hHeld)
     go_upto_region 6 with fail
     have HTAg:=hid (show TrV X wf.drew [ea] [c.a.cells] from HTAf.out.keep fun _ _=>rfl)
     have HTBg:=hid (show TrV X wf.drew [eb] [c.b.cells] from HTBf.out.keep fun _ _=>rfl)
     have HTCg:=hid (show TrV X wf.drew [ec] [c.c.cells] from HTCf.out.keep fun _ _=>rfl)
     have HRRg:=hid (show RP X wf.drew 2 c.routes.A c.routes.n rs from HRRf.out.keep fun _ _=>rfl)
     have HBVg:=hid (show StV X wf.drew body bs from HBVf.out.keep fun _ _=>rfl)
     have HBRg:=hid (show RP X wf.drew 26 c.body.A c.body.n bs from HBRf.out.keep fun _ _=>rfl)
     have HEVg:=hid (show StV X wf.drew els es from HEVf.out.keep fun _ _=>rfl)
     have HERg:=hid (show RP X wf.drew 26 c.els.A c.els.n es from HERf.out.keep fun _ _=>rfl)
     have HYg:=hid (show SB wf.drew y (SC.mk c.kind 0 (Q2.mk c.name.t 0) Q5.zero Q5.zero Q5.zero QS.zero (Q2.mk c.block.t 0) (Q2.mk c.tag.t 0) QS.zero QS.zero) from HYf.out)
     have HUg:=hid (show SB wf.drew u c from HUf.out)
     have HBg:=hid (HBf.out.drew)
     have hsg : y + 1 ≤ wf.drew.heap.size:=hsf
     clear HTAf HTBf HTCf HRRf HBVf HBRf HEVf HERf HYf HUf HBf hsf
     refine wp_region_noPanic ?_
     refine wp_region_held_drew (S:=fun W=>W.cell? ⟨u,4,none⟩ = some (.string c.a.o) ∧ W.cell? ⟨u,5,none⟩ = some (.int .i64 c.a.m) ∧ W.cell? ⟨u,6,none⟩ = some (.string c.a.t) ∧ W.cell? ⟨u,7,none⟩ = some (.int .i64 c.a.a) ∧ W.cell? ⟨u,8,none⟩ = some (.slice c.a.A c.a.n c.a.d) ∧ W.cell? ⟨u,9,none⟩ = some (.string c.b.o) ∧ W.cell? ⟨u,10,none⟩ = some (.int .i64 c.b.m) ∧ W.cell? ⟨u,11,none⟩ = some (.string c.b.t) ∧ W.cell? ⟨u,12,none⟩ = some (.int .i64 c.b.a) ∧ W.cell? ⟨u,13,none⟩ = some (.slice c.b.A c.b.n c.b.d) ∧ W.cell? ⟨u,14,none⟩ = some (.string c.c.o) ∧ W.cell? ⟨u,15,none⟩ = some (.int .i64 c.c.m) ∧ W.cell? ⟨u,16,none⟩ = some (.string c.c.t) ∧ W.cell? ⟨u,17,none⟩ = some (.int .i64 c.c.a) ∧ W.cell? ⟨u,18,none⟩ = some (.slice c.c.A c.c.n c.c.d)) (by kernel_rfl) ?_ (fun hHeld=>?_)
     · (try dsimp only)
       exact ⟨HUg.out.cell 4,HUg.out.cell 5,HUg.out.cell 6,HUg.out.cell 7,HUg.out.cell 8,HUg.out.cell 9,HUg.out.cell 10,HUg.out.cell 11,HUg.out.cell 12,HUg.out.cell 13,HUg.out.cell 14,HUg.out.cell 15,HUg.out.cell 16,HUg.out.cell 17,HUg.out.cell 18⟩
     generalize wf.drew = wg at *
     apply tkH 0
     apply tkH 1
     apply tkH 3
     apply tkH 4
     apply tkH 6
     apply tkH 7
     refine wpAnyH_ready (rs:=[2]) (by kernel_rfl) (by simp) ?_
     refine AllReadyH.cons rfl (fun K hK=>?_) AllReadyH.nil
     go_simp
     refine (bareExpr_any ea wg _ _ _ _ _ _ _ X HTAg.out (fun g hg=>by have:=HXU.out g hg;have:=hsg;omega) HQA.out.1 HQA.out.2).mono ?_
     rintro e wh ⟨oa,ta,ma,aa,Aa,na,da,rfl,htr,hbg⟩
     have HNah:=hid (htr.mono fun g hg=>Fr.fx (z:=u) (y:=y) hg (by have:=hsg;omega) (.inl (by have:=hsg;omega)) (Nat.le_refl _))
     clear htr
     have HTAh:=hid (HTAg.out.keep fun g hg=>hbg.block g (by have:=HXU.out g hg;have:=hsg;omega))
     have HTBh:=hid (HTBg.out.keep fun g hg=>hbg.block g (by have:=HXU.out g hg;have:=hsg;omega))
     have HTCh:=hid (HTCg.out.keep fun g hg=>hbg.block g (by have:=HXU.out g hg;have:=hsg;omega))
     have HRRh:=hid (HRRg.out.keep fun g hg=>hbg.block g (by have:=HXU.out g hg;have:=hsg;omega))
     have HBVh:=hid (HBVg.out.keep fun g hg=>hbg.block g (by have:=HXU.out g hg;have:=hsg;omega))
     have HBRh:=hid (HBRg.out.keep fun g hg=>hbg.block g (by have:=HXU.out g hg;have:=hsg;omega))
     have HEVh:=hid (HEVg.out.keep fun g hg=>hbg.block g (by have:=HXU.out g hg;have:=hsg;omega))
     have HERh:=hid (HERg.out.keep fun g hg=>hbg.block g (by have:=HXU.out g hg;have:=hsg;omega))
     have HYh:=hid (HYg.out.far (hbg.block y (by have:=hsg;omega)))
     have HUh:=hid (HUg.out.far (hbg.block u (by have:=hsg;omega)))
     have HBh:=hid (HBg.out.trans (hbg.mono (by have:=hsg;omega)))
     have hsh:=Nat.le_trans hsg hbg.size
     clear hbg HTAg HTBg HTCg HRRg HBVg HBRg HEVg HERg HYg HUg HBg hsg
     (try dsimp only)
     first | (refine hK.out _ _ ?_ (fun hHeld=>?_)) | (go_wp2_with fail;refine hK.out _ _ ?_ (fun hHeld=>?_))
     · (try dsimp only)
       exact ⟨HUh.out.cell 4,HUh.out.cell 5,HUh.out.cell 6,HUh.out.cell 7,HUh.out.cell 8,HUh.out.cell 9,HUh.out.cell 10,HUh.out.cell 11,HUh.out.cell 12,HUh.out.cell 13,HUh.out.cell 14,HUh.out.cell 15,HUh.out.cell 16,HUh.out.cell 17,HUh.out.cell 18⟩
     clear hK K
     (try simp only [List.getElem_toArray,List.getElem_cons_zero,List.getElem_cons_succ,Act.put,List.setIfInBounds_toArray,List.set_cons_zero,List.set_cons_succ])
     apply tkH 9
     refine wpAnyH_ready (rs:=[5]) (by kernel_rfl) (by simp) ?_
     refine AllReadyH.cons rfl (fun K hK=>?_) AllReadyH.nil
     go_simp
     refine (bareExpr_any eb wh _ _ _ _ _ _ _ X HTBh.out (fun g hg=>by have:=HXU.out g hg;have:=hsh;omega) HQB.out.1 HQB.out.2).mono ?_
     rintro e wi ⟨ob,tb,mb,ab',Ab,nb,db,rfl,htr,hbg⟩
     have HNbi:=hid (htr.mono fun g hg=>Fr.fx (z:=u) (y:=y) hg (by have:=hsh;omega) (.inl (by have:=hsh;omega)) (Nat.le_refl _))
     clear htr
     have HTAi:=hid (HTAh.out.keep fun g hg=>hbg.block g (by have:=HXU.out g hg;have:=hsh;omega))
     have HTBi:=hid (HTBh.out.keep fun g hg=>hbg.block g (by have:=HXU.out g hg;have:=hsh;omega))
     have HTCi:=hid (HTCh.out.keep fun g hg=>hbg.block g (by have:=HXU.out g hg;have:=hsh;omega))
     have HRRi:=hid (HRRh.out.keep fun g hg=>hbg.block g (by have:=HXU.out g hg;have:=hsh;omega))
     have HBVi:=hid (HBVh.out.keep fun g hg=>hbg.block g (by have:=HXU.out g hg;have:=hsh;omega))
     have HBRi:=hid (HBRh.out.keep fun g hg=>hbg.block g (by have:=HXU.out g hg;have:=hsh;omega))
     have HEVi:=hid (HEVh.out.keep fun g hg=>hbg.block g (by have:=HXU.out g hg;have:=hsh;omega))
     have HERi:=hid (HERh.out.keep fun g hg=>hbg.block g (by have:=HXU.out g hg;have:=hsh;omega))
     have HNai:=hid ((HNah.out.keep fun g hg=>hbg.block g hg.2.1).mono fun g hg=>hg.more hbg.size)
     have HYi:=hid (HYh.out.far (hbg.block y (by have:=hsh;omega)))
     have HUi:=hid (HUh.out.far (hbg.block u (by have:=hsh;omega)))
     have HBi:=hid (HBh.out.trans (hbg.mono (by have:=hsh;omega)))
     have hsi:=Nat.le_trans hsh hbg.size
     clear hbg HTAh HTBh HTCh HRRh HBVh HBRh HEVh HERh HNah HYh HUh HBh hsh
     (try dsimp only)
     first | (refine hK.out _ _ ?_ (fun hHeld=>?_)) | (go_wp2_with fail;refine hK.out _ _ ?_ (fun hHeld=>?_))
     · (try dsimp only)
       exact ⟨HUi.out.cell 4,HUi.out.cell 5,HUi.out.cell 6,HUi.out.cell 7,HUi.out.cell 8,HUi.out.cell 9,HUi.out.cell 10,HUi.out.cell 11,HUi.out.cell 12,HUi.out.cell 13,HUi.out.cell 14,HUi.out.cell 15,HUi.out.cell 16,HUi.out.cell 17,HUi.out.cell 18⟩
     clear hK K
     (try simp only [List.getElem_toArray,List.getElem_cons_zero,List.getElem_cons_succ,Act.put,List.setIfInBounds_toArray,List.set_cons_zero,List.set_cons_succ])
     refine wpAnyH_ready (rs:=[8]) (by kernel_rfl) (by simp) ?_
     refine AllReadyH.cons rfl (fun K hK=>?_) AllReadyH.nil
     go_simp
     refine (bareExpr_any ec wi _ _ _ _ _ _ _ X HTCi.out (fun g hg=>by have:=HXU.out g hg;have:=hsi;omega) HQC.out.1 HQC.out.2).mono ?_
     rintro e wj ⟨oc,tc,mc,ac,Ac,nc,dc,rfl,htr,hbg⟩
     have HNcj:=hid (htr.mono fun g hg=>Fr.fx (z:=u) (y:=y) hg (by have:=hsi;omega) (.inl (by have:=hsi;omega)) (Nat.le_refl _))
     clear htr
     have HTAj:=hid (HTAi.out.keep fun g hg=>hbg.block g (by have:=HXU.out g hg;have:=hsi;omega))
     have HTBj:=hid (HTBi.out.keep fun g hg=>hbg.block g (by have:=HXU.out g hg;have:=hsi;omega))
     have HTCj:=hid (HTCi.out.keep fun g hg=>hbg.block g (by have:=HXU.out g hg;have:=hsi;omega))
     have HRRj:=hid (HRRi.out.keep fun g hg=>hbg.block g (by have:=HXU.out g hg;have:=hsi;omega))
     have HBVj:=hid (HBVi.out.keep fun g hg=>hbg.block g (by have:=HXU.out g hg;have:=hsi;omega))
     have HBRj:=hid (HBRi.out.keep fun g hg=>hbg.block g (by have:=HXU.out g hg;have:=hsi;omega))
     have HEVj:=hid (HEVi.out.keep fun g hg=>hbg.block g (by have:=HXU.out g hg;have:=hsi;omega))
     have HERj:=hid (HERi.out.keep fun g hg=>hbg.block g (by have:=HXU.out g hg;have:=hsi;omega))
     have HNaj:=hid ((HNai.out.keep fun g hg=>hbg.block g hg.2.1).mono fun g hg=>hg.more hbg.size)
     have HNbj:=hid ((HNbi.out.keep fun g hg=>hbg.block g hg.2.1).mono fun g hg=>hg.more hbg.size)
     have HYj:=hid (HYi.out.far (hbg.block y (by have:=hsi;omega)))
     have HUj:=hid (HUi.out.far (hbg.block u (by have:=hsi;omega)))
     have HBj:=hid (HBi.out.trans (hbg.mono (by have:=hsi;omega)))
     have hsj:=Nat.le_trans hsi hbg.size
     clear hbg HTAi HTBi HTCi HRRi HBVi HBRi HEVi HERi HNai HNbi HYi HUi HBi hsi
     (try dsimp only)
     first | (refine hK.out _ _ ?_ (fun hHeld=>?_)) | (go_wp2_with fail;refine hK.out _ _ ?_ (fun hHeld=>?_))
     · (try dsimp only)
       exact ⟨HUj.out.cell 4,HUj.out.cell 5,HUj.out.cell 6,HUj.out.cell 7,HUj.out.cell 8,HUj.out.cell 9,HUj.out.cell 10,HUj.out.cell 11,HUj.out.cell 12,HUj.out.cell 13,HUj.out.cell 14,HUj.out.cell 15,HUj.out.cell 16,HUj.out.cell 17,HUj.out.cell 18⟩
     clear hK K
     (try simp only [List.getElem_toArray,List.getElem_cons_zero,List.getElem_cons_succ,Act.put,List.setIfInBounds_toArray,List.set_cons_zero,List.set_cons_succ])
     refine wpAnyH_ready (rs:=[10]) (by kernel_rfl) (by simp) ?_
     refine AllReadyH.cons rfl (fun K hK=>?_) AllReadyH.nil
     obtain ⟨v0,g0⟩ : ∃ v,wj.cell? ⟨y,4,none⟩ = some v:=⟨_,HYj.out.cell 4⟩
     have l0:=HYj.out.free 4
     obtain ⟨v1,g1⟩ : ∃ v,wj.cell? ⟨y,5,none⟩ = some v:=⟨_,HYj.out.cell 5⟩
     have l1:=HYj.out.free 5
     obtain ⟨v2,g2⟩ : ∃ v,wj.cell? ⟨y,6,none⟩ = some v:=⟨_,HYj.out.cell 6⟩
     have l2:=HYj.out.free 6
     obtain ⟨v3,g3⟩ : ∃ v,wj.cell? ⟨y,7,none⟩ = some v:=⟨_,HYj.out.cell 7⟩
     have l3:=HYj.out.free 7
     obtain ⟨v4,g4⟩ : ∃ v,wj.cell? ⟨y,8,none⟩ = some v:=⟨_,HYj.out.cell 8⟩
     have l4:=HYj.out.free 8
     go_simp
     clear g0 l0 g1 l1 g2 l2 g3 l3 g4 l4
     have hbs : Below y wj (((((wj.setCell ⟨y,4,none⟩ (.string oa)).setCell ⟨y,5,none⟩ (.int .i64 ma)).setCell ⟨y,6,none⟩ (.string ta)).setCell ⟨y,7,none⟩ (.int .i64 aa)).setCell ⟨y,8,none⟩ (.slice Aa na da)):=((((((Below.refl y wj).setCell (p:=⟨y,4,none⟩) (Nat.le_refl _) _).setCell (p:=⟨y,5,none⟩) (Nat.le_refl _) _).setCell (p:=⟨y,6,none⟩) (Nat.le_refl _) _).setCell (p:=⟨y,7,none⟩) (Nat.le_refl _) _).setCell (p:=⟨y,8,none⟩) (Nat.le_refl _) _)
     have hfs : ∀ g,g ≠ y → (((((wj.setCell ⟨y,4,none⟩ (.string oa)).setCell ⟨y,5,none⟩ (.int .i64 ma)).setCell ⟨y,6,none⟩ (.string ta)).setCell ⟨y,7,none⟩ (.int .i64 aa)).setCell ⟨y,8,none⟩ (.slice Aa na da)).heap[g]? = wj.heap[g]?:=fun g hg=>(Below.heap_setCell _ ⟨y,8,none⟩ _ g hg).trans ((Below.heap_setCell _ ⟨y,7,none⟩ _ g hg).trans ((Below.heap_setCell _ ⟨y,6,none⟩ _ g hg).trans ((Below.heap_setCell _ ⟨y,5,none⟩ _ g hg).trans (Below.heap_setCell _ ⟨y,4,none⟩ _ g hg))))
     have HTAk:=hid (HTAj.out.keep fun g hg=>hfs g (by have:=HXU.out g hg;omega))
     have HTBk:=hid (HTBj.out.keep fun g hg=>hfs g (by have:=HXU.out g hg;omega))
     have HTCk:=hid (HTCj.out.keep fun g hg=>hfs g (by have:=HXU.out g hg;omega))
     have HRRk:=hid (HRRj.out.keep fun g hg=>hfs g (by have:=HXU.out g hg;omega))
     have HBVk:=hid (HBVj.out.keep fun g hg=>hfs g (by have:=HXU.out g hg;omega))
     have HBRk:=hid (HBRj.out.keep fun g hg=>hfs g (by have:=HXU.out g hg;omega))
     have HEVk:=hid (HEVj.out.keep fun g hg=>hfs g (by have:=HXU.out g hg;omega))
     have HERk:=hid (HERj.out.keep fun g hg=>hfs g (by have:=HXU.out g hg;omega))
     have HNak:=hid ((HNaj.out.keep fun g hg=>hfs g hg.2.2).mono fun g hg=>hg.more hbs.size)
     have HNbk:=hid ((HNbj.out.keep fun g hg=>hfs g hg.2.2).mono fun g hg=>hg.more hbs.size)
     have HNck:=hid ((HNcj.out.keep fun g hg=>hfs g hg.2.2).mono fun g hg=>hg.more hbs.size)
     have HYk:=hid (HYj.out.putA (Q5.mk oa ma ta aa Aa na da))
     have HUk:=hid (HUj.out.far (hfs u (by omega)))
     have HBk:=hid (HBj.out.trans (hbs.mono (by omega)))
     have hsk:=Nat.le_trans hsj hbs.size
     clear hbs hfs HTAj HTBj HTCj HRRj HBVj HBRj HEVj HERj HNaj HNbj HNcj HYj HUj HBj hsj
     generalize (((((wj.setCell ⟨y,4,none⟩ (.string oa)).setCell ⟨y,5,none⟩ (.int .i64 ma)).setCell ⟨y,6,none⟩ (.string ta)).setCell ⟨y,7,none⟩ (.int .i64 aa)).setCell ⟨y,8,none⟩ (.slice Aa na da)) = wk at *
     first | (refine hK.out _ _ ?_ (fun hHeld=>?_)) | (go_wp2_with fail;refine hK.out _ _ ?_ (fun hHeld=>?_))
     · (try dsimp only)
       exact ⟨HUk.out.cell 4,HUk.out.cell 5,HUk.out.cell 6,HUk.out.cell 7,HUk.out.cell 8,HUk.out.cell 9,HUk.out.cell 10,HUk.out.cell 11,HUk.out.cell 12,HUk.out.cell 13,HUk.out.cell 14,HUk.out.cell 15,HUk.out.cell 16,HUk.out.cell 17,HUk.out.cell 18⟩
     clear hK K
     (try simp only [List.getElem_toArray,List.getElem_cons_zero,List.getElem_cons_succ,Act.put,List.setIfInBounds_toArray,List.set_cons_zero,List.set_cons_succ])
     apply tkH 11
     refine wpAnyH_ready (rs:=[12]) (by kernel_rfl) (by simp) ?_
     refine AllReadyH.cons rfl (fun K hK=>?_) AllReadyH.nil
     obtain ⟨v0,g0⟩ : ∃ v,wk.cell? ⟨y,9,none⟩ = some v:=⟨_,HYk.out.cell 9⟩
     have l0:=HYk.out.free 9
     obtain ⟨v1,g1⟩ : ∃ v,wk.cell? ⟨y,10,none⟩ = some v:=⟨_,HYk.out.cell 10⟩
     have l1:=HYk.out.free 10
     obtain ⟨v2,g2⟩ : ∃ v,wk.cell? ⟨y,11,none⟩ = some v:=⟨_,HYk.out.cell 11⟩
     have l2:=HYk.out.free 11
     obtain ⟨v3,g3⟩ : ∃ v,wk.cell? ⟨y,12,none⟩ = some v:=⟨_,HYk.out.cell 12⟩
     have l3:=HYk.out.free 12
     obtain ⟨v4,g4⟩ : ∃ v,wk.cell? ⟨y,13,none⟩ = some v:=⟨_,HYk.out.cell 13⟩
     have l4:=HYk.out.free 13
     go_simp
     clear g0 l0 g1 l1 g2 l2 g3 l3 g4 l4
     have hbs : Below y wk (((((wk.setCell ⟨y,9,none⟩ (.string ob)).setCell ⟨y,10,none⟩ (.int .i64 mb)).setCell ⟨y,11,none⟩ (.string tb)).setCell ⟨y,12,none⟩ (.int .i64 ab')).setCell ⟨y,13,none⟩ (.slice Ab nb db)):=((((((Below.refl y wk).setCell (p:=⟨y,9,none⟩) (Nat.le_refl _) _).setCell (p:=⟨y,10,none⟩) (Nat.le_refl _) _).setCell (p:=⟨y,11,none⟩) (Nat.le_refl _) _).setCell (p:=⟨y,12,none⟩) (Nat.le_refl _) _).setCell (p:=⟨y,13,none⟩) (Nat.le_refl _) _)
     have hfs : ∀ g,g ≠ y → (((((wk.setCell ⟨y,9,none⟩ (.string ob)).setCell ⟨y,10,none⟩ (.int .i64 mb)).setCell ⟨y,11,none⟩ (.string tb)).setCell ⟨y,12,none⟩ (.int .i64 ab')).setCell ⟨y,13,none⟩ (.slice Ab nb db)).heap[g]? = wk.heap[g]?:=fun g hg=>(Below.heap_setCell _ ⟨y,13,none⟩ _ g hg).trans ((Below.heap_setCell _ ⟨y,12,none⟩ _ g hg).trans ((Below.heap_setCell _ ⟨y,11,none⟩ _ g hg).trans ((Below.heap_setCell _ ⟨y,10,none⟩ _ g hg).trans (Below.heap_setCell _ ⟨y,9,none⟩ _ g hg))))
     have HTAl:=hid (HTAk.out.keep fun g hg=>hfs g (by have:=HXU.out g hg;omega))
     have HTBl:=hid (HTBk.out.keep fun g hg=>hfs g (by have:=HXU.out g hg;omega))
     have HTCl:=hid (HTCk.out.keep fun g hg=>hfs g (by have:=HXU.out g hg;omega))
     have HRRl:=hid (HRRk.out.keep fun g hg=>hfs g (by have:=HXU.out g hg;omega))
     have HBVl:=hid (HBVk.out.keep fun g hg=>hfs g (by have:=HXU.out g hg;omega))
     have HBRl:=hid (HBRk.out.keep fun g hg=>hfs g (by have:=HXU.out g hg;omega))
     have HEVl:=hid (HEVk.out.keep fun g hg=>hfs g (by have:=HXU.out g hg;omega))
     have HERl:=hid (HERk.out.keep fun g hg=>hfs g (by have:=HXU.out g hg;omega))
     have HNal:=hid ((HNak.out.keep fun g hg=>hfs g hg.2.2).mono fun g hg=>hg.more hbs.size)
     have HNbl:=hid ((HNbk.out.keep fun g hg=>hfs g hg.2.2).mono fun g hg=>hg.more hbs.size)
     have HNcl:=hid ((HNck.out.keep fun g hg=>hfs g hg.2.2).mono fun g hg=>hg.more hbs.size)
     have HYl:=hid (HYk.out.putB (Q5.mk ob mb tb ab' Ab nb db))
     have HUl:=hid (HUk.out.far (hfs u (by omega)))
     have HBl:=hid (HBk.out.trans (hbs.mono (by omega)))
     have hsl:=Nat.le_trans hsk hbs.size
     clear hbs hfs HTAk HTBk HTCk HRRk HBVk HBRk HEVk HERk HNak HNbk HNck HYk HUk HBk hsk
     generalize (((((wk.setCell ⟨y,9,none⟩ (.string ob)).setCell ⟨y,10,none⟩ (.int .i64 mb)).setCell ⟨y,11,none⟩ (.string tb)).setCell ⟨y,12,none⟩ (.int .i64 ab')).setCell ⟨y,13,none⟩ (.slice Ab nb db)) = wl at *
     first | (refine hK.out _ _ ?_ (fun hHeld=>?_)) | (go_wp2_with fail;refine hK.out _ _ ?_ (fun hHeld=>?_))
     · (try dsimp only)
       exact ⟨HUl.out.cell 4,HUl.out.cell 5,HUl.out.cell 6,HUl.out.cell 7,HUl.out.cell 8,HUl.out.cell 9,HUl.out.cell 10,HUl.out.cell 11,HUl.out.cell 12,HUl.out.cell 13,HUl.out.cell 14,HUl.out.cell 15,HUl.out.cell 16,HUl.out.cell 17,HUl.out.cell 18⟩
     clear hK K
     (try simp only [List.getElem_toArray,List.getElem_cons_zero,List.getElem_cons_succ,Act.put,List.setIfInBounds_toArray,List.set_cons_zero,List.set_cons_succ])
     apply tkH 13
     refine wpAnyH_ready (rs:=[14]) (by kernel_rfl) (by simp) ?_
     refine AllReadyH.cons rfl (fun K hK=>?_) AllReadyH.nil
     obtain ⟨v0,g0⟩ : ∃ v,wl.cell? ⟨y,14,none⟩ = some v:=⟨_,HYl.out.cell 14⟩
     have l0:=HYl.out.free 14
     obtain ⟨v1,g1⟩ : ∃ v,wl.cell? ⟨y,15,none⟩ = some v:=⟨_,HYl.out.cell 15⟩
     have l1:=HYl.out.free 15
     obtain ⟨v2,g2⟩ : ∃ v,wl.cell? ⟨y,16,none⟩ = some v:=⟨_,HYl.out.cell 16⟩
     have l2:=HYl.out.free 16
     obtain ⟨v3,g3⟩ : ∃ v,wl.cell? ⟨y,17,none⟩ = some v:=⟨_,HYl.out.cell 17⟩
     have l3:=HYl.out.free 17
     obtain ⟨v4,g4⟩ : ∃ v,wl.cell? ⟨y,18,none⟩ = some v:=⟨_,HYl.out.cell 18⟩
     have l4:=HYl.out.free 18
     go_simp
     clear g0 l0 g1 l1 g2 l2 g3 l3 g4 l4
     have hbs : Below y wl (((((wl.setCell ⟨y,14,none⟩ (.string oc)).setCell ⟨y,15,none⟩ (.int .i64 mc)).setCell ⟨y,16,none⟩ (.string tc)).setCell ⟨y,17,none⟩ (.int .i64 ac)).setCell ⟨y,18,none⟩ (.slice Ac nc dc)):=((((((Below.refl y wl).setCell (p:=⟨y,14,none⟩) (Nat.le_refl _) _).setCell (p:=⟨y,15,none⟩) (Nat.le_refl _) _).setCell (p:=⟨y,16,none⟩) (Nat.le_refl _) _).setCell (p:=⟨y,17,none⟩) (Nat.le_refl _) _).setCell (p:=⟨y,18,none⟩) (Nat.le_refl _) _)
     have hfs : ∀ g,g ≠ y → (((((wl.setCell ⟨y,14,none⟩ (.string oc)).setCell ⟨y,15,none⟩ (.int .i64 mc)).setCell ⟨y,16,none⟩ (.string tc)).setCell ⟨y,17,none⟩ (.int .i64 ac)).setCell ⟨y,18,none⟩ (.slice Ac nc dc)).heap[g]? = wl.heap[g]?:=fun g hg=>(Below.heap_setCell _ ⟨y,18,none⟩ _ g hg).trans ((Below.heap_setCell _ ⟨y,17,none⟩ _ g hg).trans ((Below.heap_setCell _ ⟨y,16,none⟩ _ g hg).trans ((Below.heap_setCell _ ⟨y,15,none⟩ _ g hg).trans (Below.heap_setCell _ ⟨y,14,none⟩ _ g hg))))
     have HTAm:=hid (HTAl.out.keep fun g hg=>hfs g (by have:=HXU.out g hg;omega))
     have HTBm:=hid (HTBl.out.keep fun g hg=>hfs g (by have:=HXU.out g hg;omega))
     have HTCm:=hid (HTCl.out.keep fun g hg=>hfs g (by have:=HXU.out g hg;omega))
     have HRRm:=hid (HRRl.out.keep fun g hg=>hfs g (by have:=HXU.out g hg;omega))
     have HBVm:=hid (HBVl.out.keep fun g hg=>hfs g (by have:=HXU.out g hg;omega))
     have HBRm:=hid (HBRl.out.keep fun g hg=>hfs g (by have:=HXU.out g hg;omega))
     have HEVm:=hid (HEVl.out.keep fun g hg=>hfs g (by have:=HXU.out g hg;omega))
     have HERm:=hid (HERl.out.keep fun g hg=>hfs g (by have:=HXU.out g hg;omega))
     have HNam:=hid ((HNal.out.keep fun g hg=>hfs g hg.2.2).mono fun g hg=>hg.more hbs.size)
     have HNbm:=hid ((HNbl.out.keep fun g hg=>hfs g hg.2.2).mono fun g hg=>hg.more hbs.size)
     have HNcm:=hid ((HNcl.out.keep fun g hg=>hfs g hg.2.2).mono fun g hg=>hg.more hbs.size)
     have HYm:=hid (HYl.out.putC (Q5.mk oc mc tc ac Ac nc dc))
     have HUm:=hid (HUl.out.far (hfs u (by omega)))
     have HBm:=hid (HBl.out.trans (hbs.mono (by omega)))
     have hsm:=Nat.le_trans hsl hbs.size
     clear hbs hfs HTAl HTBl HTCl HRRl HBVl HBRl HEVl HERl HNal HNbl HNcl HYl HUl HBl hsl
     generalize (((((wl.setCell ⟨y,14,none⟩ (.string oc)).setCell ⟨y,15,none⟩ (.int .i64 mc)).setCell ⟨y,16,none⟩ (.string tc)).setCell ⟨y,17,none⟩ (.int .i64 ac)).setCell ⟨y,18,none⟩ (.slice Ac nc dc)) = wm at *
     first | (refine hK.out _ _ ?_ (fun hHeld=>?_)) | (go_wp2_with fail;refine hK.out _ _ ?_ (fun hHeld=>?_))
     · (try dsimp only)
       exact ⟨HUm.out.cell 4,HUm.out.cell 5,HUm.out.cell 6,HUm.out.cell 7,HUm.out.cell 8,HUm.out.cell 9,HUm.out.cell 10,HUm.out.cell 11,HUm.out.cell 12,HUm.out.cell 13,HUm.out.cell 14,HUm.out.cell 15,HUm.out.cell 16,HUm.out.cell 17,HUm.out.cell 18⟩
     clear hK K
     (try simp only [List.getElem_toArray,List.getElem_cons_zero,List.getElem_cons_succ,Act.put,List.setIfInBounds_toArray,List.set_cons_zero,List.set_cons_succ])
     refine wpAnyH_done (by kernel_rfl) ?_ _
     refine NoPanic.normal ?_
     (try clear hHeld)
     have y19:=HUm.out.cell 19
     simp only [SC.cells,List.getElem?_cons_succ,List.getElem?_cons_zero] at y19
     obtain ⟨rA,hrA⟩ : ∃ rA,c.routes.A = rA:=⟨_,rfl⟩
     obtain ⟨rn,hrn⟩ : ∃ rn,c.routes.n = rn:=⟨_,rfl⟩
     have HRA:=hid hrA
     have HRn:=hid hrn
     rw [hrA,hrn] at y19
     rw [hrn] at hrb HRN
     clear hrA hrn
     go_wp2_with fail
     clear y19
     obtain ⟨wz,hwz⟩ : ∃ wz,wz = wr:=⟨_,rfl⟩
     subst hwz
     obtain ⟨lo,hlo⟩ : ∃ lo,wm.heap.size = lo:=⟨_,rfl⟩
     have hyl : y + 1 ≤ lo:=by omega
     obtain ⟨wL,hwL⟩ : ∃ wL,wL = wm:=⟨_,rfl⟩
     have HNam:=hid (show TrV (Fx u y wL) wm [ea] [[.string oa,.int .i64 ma,.string ta,.int .i64 aa,.slice Aa na da]] by rw [hwL];exact HNam.out)
     have HNbm:=hid (show TrV (Fx u y wL) wm [eb] [[.string ob,.int .i64 mb,.string tb,.int .i64 ab',.slice Ab nb db]] by rw [hwL];exact HNbm.out)
     have HNcm:=hid (show TrV (Fx u y wL) wm [ec] [[.string oc,.int .i64 mc,.string tc,.int .i64 ac,.slice Ac nc dc]] by rw [hwL];exact HNcm.out)
     have hsL : wL.heap.size = lo:=by rw [hwL];exact hlo
     have hsl : wL.heap.size ≤ lo:=Nat.le_of_eq hsL
     have hlm : lo ≤ wm.heap.size:=Nat.le_of_eq hlo.symm
     have HSL:=hid hsL
     clear hwL hlo hsL
     go_loopw [42] (fun i wx=>∃ (q : Nat) (A2 : Option Addr) (c2 : Nat),q ≤ rn ∧ i = .int .i64 (q : Int) ∧ TrV X wx [ea] [c.a.cells] ∧ TrV X wx [eb] [c.b.cells] ∧ TrV X wx [ec] [c.c.cells] ∧ RP X wx 2 c.routes.A c.routes.n rs ∧ StV X wx body bs ∧ RP X wx 26 c.body.A c.body.n bs ∧ StV X wx els es ∧ RP X wx 26 c.els.A c.els.n es ∧ TrV (Fx u y wL) wx [ea] [[.string oa,.int .i64 ma,.string ta,.int .i64 aa,.slice Aa na da]] ∧ TrV (Fx u y wL) wx [eb] [[.string ob,.int .i64 mb,.string tb,.int .i64 ab',.slice Ab nb db]] ∧ TrV (Fx u y wL) wx [ec] [[.string oc,.int .i64 mc,.string tc,.int .i64 ac,.slice Ac nc dc]] ∧ SB wx y (SC.mk c.kind 0 (Q2.mk c.name.t 0) (Q5.mk oa ma ta aa Aa na da) (Q5.mk ob mb tb ab' Ab nb db) (Q5.mk oc mc tc ac Ac nc dc) (QS.mk A2 q c2) (Q2.mk c.block.t 0) (Q2.mk c.tag.t 0) QS.zero QS.zero) ∧ TL rfR 52 lo wx (.slice A2 q c2) q (routes.take q) ∧ SB wx u c ∧ Below (u + 1) wb wx ∧ y + 1 ≤ wx.heap.size ∧ lo ≤ wx.heap.size) (fun i _=>rn - (intOf i).toNat)
     case atStart=>exact ⟨0,none,0,by omega,by first | rfl | simp,HTAm.out,HTBm.out,HTCm.out,HRRm.out,HBVm.out,HBRm.out,HEVm.out,HERm.out,HNam.out,HNbm.out,HNcm.out,HYm.out,TL.nil,HUm.out,HBm.out,hsm,hlm⟩
     case round=>
       obtain ⟨wx,hwx⟩ : ∃ wx,wx = wr:=⟨_,rfl⟩
       subst hwx
       obtain ⟨q,A2,c2,hq,rfl,kHTA,kHTB,kHTC,kHRR,kHBV,kHBR,kHEV,kHER,kHNa,kHNb,kHNc,kHY,kHR,kHU,kHB,hs0,hl0⟩:=hrel
       clear HTAm HTBm HTCm HRRm HBVm HBRm HEVm HERm HNam HNbm HNcm HYm HUm HBm hsm hlm
       have HTA0:=hid kHTA
       have HTB0:=hid kHTB
       have HTC0:=hid kHTC
       have HRR0:=hid kHRR
       have HBV0:=hid kHBV
       have HBR0:=hid kHBR
       have HEV0:=hid kHEV
       have HER0:=hid kHER
       have HNa0:=hid kHNa
       have HNb0:=hid kHNb
       have HNc0:=hid kHNc
       have HY0:=hid kHY
       have HRL0:=hid kHR
       have HU0:=hid kHU
       have HB0:=hid kHB
       clear kHTA kHTB kHTC kHRR kHBV kHBR kHEV kHER kHNa kHNb kHNc kHY kHR kHU kHB
       obtain ⟨w0,hw0⟩ : ∃ w0,w0 = wx:=⟨_,rfl⟩
       skip
       by_cases hlq : q < rn
       · have hqi : (q : Int) < (rn : Int):=by omega
         have hwq : IntKind.i64.wrap ((q : Int) + 1) = (q : Int) + 1:=by rw [IntKind.wrap_i64];omega
         have hrrx:=HRR0.out.rr (B:=u) HXU.out
         rw [HRA.out,HRn.out] at hrrx
         obtain ⟨rb,ro,cs,hA,hrbB,hcs,hcl,hrg⟩:=hrrx.at_ hlq
         obtain ⟨nm,ra0,hnm,rfl⟩:=HRF.out.at_ hcs
         subst hA
         have s0:=hrg 0 _ rfl
         have s1:=hrg 1 _ rfl
         rw [Nat.add_zero] at s0
         have HTQ:=hid (show routes.take (q + 1) = routes.take q ++ [nm] by rw [List.take_add_one,hnm];rfl)
         obtain ⟨NV,hNV⟩ : ∃ NV,sb nm = NV:=⟨_,rfl⟩
         have HNV:=hid hNV
         rw [hNV] at s0
         clear hrrx hcl hrg hcs hnm hNV
         have hbg : Below wx.heap.size wx (wx.alloc (.cells #[.string NV,.int .i64 ra0] 52)):=(Below.refl _ wx).alloc (Nat.le_refl _) _
         have HV1:=hid (show RfB (wx.alloc (.cells #[.string NV,.int .i64 ra0] 52)) wx.heap.size NV ra0 from heap_alloc_new wx _)
         have hv1 : wx.heap.size + 1 ≤ (wx.alloc (.cells #[.string NV,.int .i64 ra0] 52)).heap.size:=Nat.le_of_eq (Array.size_push _).symm
         have HOV:=hid (show ∀ v,v = wx.heap.size → (Value.slice A2 q c2).ownBlock ≠ some v from fun v hv h=>by have:=HRL0.out.lt h;omega)
         go_upto_region 10 with fail
         clear s0 s1
         have HTA1:=hid (HTA0.out.keep fun g hg=>hbg.block g (by have:=HXU.out g hg;have:=hs0;omega))
         have HTB1:=hid (HTB0.out.keep fun g hg=>hbg.block g (by have:=HXU.out g hg;have:=hs0;omega))
         have HTC1:=hid (HTC0.out.keep fun g hg=>hbg.block g (by have:=HXU.out g hg;have:=hs0;omega))
         have HRR1:=hid (HRR0.out.keep fun g hg=>hbg.block g (by have:=HXU.out g hg;have:=hs0;omega))
         have HBV1:=hid (HBV0.out.keep fun g hg=>hbg.block g (by have:=HXU.out g hg;have:=hs0;omega))
         have HBR1:=hid (HBR0.out.keep fun g hg=>hbg.block g (by have:=HXU.out g hg;have:=hs0;omega))
         have HEV1:=hid (HEV0.out.keep fun g hg=>hbg.block g (by have:=HXU.out g hg;have:=hs0;omega))
         have HER1:=hid (HER0.out.keep fun g hg=>hbg.block g (by have:=HXU.out g hg;have:=hs0;omega))
         have HNa1:=hid (HNa0.out.keep fun g hg=>hbg.block g (by have:=hg.2.1;omega))
         have HNb1:=hid (HNb0.out.keep fun g hg=>hbg.block g (by have:=hg.2.1;omega))
         have HNc1:=hid (HNc0.out.keep fun g hg=>hbg.block g (by have:=hg.2.1;omega))
         have HY1:=hid (HY0.out.far (hbg.block y (by have:=hs0;omega)))
         have HRL1:=hid (HRL0.out.keep hbg.size fun g _ hg=>hbg.block g hg)
         have HU1:=hid (HU0.out.far (hbg.block u (by have:=hs0;omega)))
         have HB1:=hid (HB0.out.trans (hbg.mono (by have:=hs0;omega)))
         have hs1:=Nat.le_trans hs0 hbg.size
         clear hbg HTA0 HTB0 HTC0 HRR0 HBV0 HBR0 HEV0 HER0 HNa0 HNb0 HNc0 HY0 HRL0 HU0 HB0 hs0
         obtain ⟨v,hv⟩ : ∃ v,wx.heap.size = v:=⟨_,rfl⟩
         have hlv : lo ≤ v:=by omega
         have HOU:=hid (HOV.out v hv.symm)
         rw [hv] at HV1 hv1 ⊢
         clear hv HOV hl0
         generalize (wx.alloc (.cells #[.string NV,.int .i64 ra0] 52)) = w1 at *
         have HTA2:=hid (show TrV X w1.drew [ea] [c.a.cells] from HTA1.out.keep fun _ _=>rfl)
         have HTB2:=hid (show TrV X w1.drew [eb] [c.b.cells] from HTB1.out.keep fun _ _=>rfl)
         have HTC2:=hid (show TrV X w1.drew [ec] [c.c.cells] from HTC1.out.keep fun _ _=>rfl)
         have HRR2:=hid (show RP X w1.drew 2 c.routes.A c.routes.n rs from HRR1.out.keep fun _ _=>rfl)
         have HBV2:=hid (show StV X w1.drew body bs from HBV1.out.keep fun _ _=>rfl)
         have HBR2:=hid (show RP X w1.drew 26 c.body.A c.body.n bs from HBR1.out.keep fun _ _=>rfl)
         have HEV2:=hid (show StV X w1.drew els es from HEV1.out.keep fun _ _=>rfl)
         have HER2:=hid (show RP X w1.drew 26 c.els.A c.els.n es from HER1.out.keep fun _ _=>rfl)
         have HNa2:=hid (show TrV (Fx u y wL) w1.drew [ea] [[.string oa,.int .i64 ma,.string ta,.int .i64 aa,.slice Aa na da]] from HNa1.out.keep fun _ _=>rfl)
         have HNb2:=hid (show TrV (Fx u y wL) w1.drew [eb] [[.string ob,.int .i64 mb,.string tb,.int .i64 ab',.slice Ab nb db]] from HNb1.out.keep fun _ _=>rfl)
         have HNc2:=hid (show TrV (Fx u y wL) w1.drew [ec] [[.string oc,.int .i64 mc,.string tc,.int .i64 ac,.slice Ac nc dc]] from HNc1.out.keep fun _ _=>rfl)
         have HY2:=hid (show SB w1.drew y (SC.mk c.kind 0 (Q2.mk c.name.t 0) (Q5.mk oa ma ta aa Aa na da) (Q5.mk ob mb tb ab' Ab nb db) (Q5.mk oc mc tc ac Ac nc dc) (QS.mk A2 q c2) (Q2.mk c.block.t 0) (Q2.mk c.tag.t 0) QS.zero QS.zero) from HY1.out)
         have HRL2:=hid (show TL rfR 52 lo w1.drew (.slice A2 q c2) q (routes.take q) from HRL1.out.keep (Nat.le_refl _) fun _ _ _=>rfl)
         have HU2:=hid (show SB w1.drew u c from HU1.out)
         have HB2:=hid (HB1.out.drew)
         have hs2 : y + 1 ≤ w1.drew.heap.size:=hs1
         clear HTA1 HTB1 HTC1 HRR1 HBV1 HBR1 HEV1 HER1 HNa1 HNb1 HNc1 HY1 HRL1 HU1 HB1 hs1
         have HV2:=hid (show RfB w1.drew v NV ra0 from HV1.out)
         have hv2 : v + 1 ≤ w1.drew.heap.size:=hv1
         clear HV1 hv1
         refine wp_region_noPanic ?_
         refine wp_region_until (S:=fun W=>W.cell? ⟨y,19,none⟩ = some (.slice A2 q c2) ∧ W.cell? ⟨v,0,none⟩ = some (.string NV) ∧ W.cell? ⟨v,1,none⟩ = some (.int .i64 ra0)) 7 (by kernel_rfl) ?_ (fun hHeld=>?_)
         · (try dsimp only)
           exact ⟨HY2.out.cell 19,HV2.out.c0,HV2.out.c1⟩
         generalize w1.drew = w2 at *
         apply tkY 0
         apply tkW 1
         apply tkW 2
         refine wpAnyU_one (i:=3) rfl (by decide) (by kernel_rfl) (by rfl) (fun K' hK'=>?_)
         have HKP:=hid hK'
         clear hK'
         go_simp
         refine (bareRef_any NV ra0 w2).mono ?_
         rintro en w3 ⟨rfl,hbg⟩
         have HV3:=hid (HV2.out.far (hbg.block v (by omega)))
         obtain ⟨A4,c4,w4,hrun,htl4,hbl4,hs4',hk4⟩:=TL.pushB (K:=rfR) (p:=0) (q:=0) 62 TTr (by decide) HRL2.out (Kx.of hbg (Nat.le_refl _)) (by omega) (by omega) (by omega) (by omega) (RfV.one' NV nm 0 HNV.out)
         have HRUN:=hid (show (Builtin.append_ #[62,62] 62 #[.slice A2 q c2,.slice (some ⟨w3.heap.size,0,none⟩) 1 1]).run Tryd.prog (w3.alloc (.cells #[.string NV,.int .i64 0] 52)) = .ok (.slice A4 (q + 1) c4) w4 from hrun)
         have HRL4:=hid htl4
         have hv3 : v + 1 ≤ w3.heap.size:=Nat.le_trans hv2 hbg.size
         clear hrun htl4
         have HTA3:=hid (HTA2.out.keep fun g hg=>hbg.block g (by have:=HXU.out g hg;have:=hs2;omega))
         have HTB3:=hid (HTB2.out.keep fun g hg=>hbg.block g (by have:=HXU.out g hg;have:=hs2;omega))
         have HTC3:=hid (HTC2.out.keep fun g hg=>hbg.block g (by have:=HXU.out g hg;have:=hs2;omega))
         have HRR3:=hid (HRR2.out.keep fun g hg=>hbg.block g (by have:=HXU.out g hg;have:=hs2;omega))
         have HBV3:=hid (HBV2.out.keep fun g hg=>hbg.block g (by have:=HXU.out g hg;have:=hs2;omega))
         have HBR3:=hid (HBR2.out.keep fun g hg=>hbg.block g (by have:=HXU.out g hg;have:=hs2;omega))
         have HEV3:=hid (HEV2.out.keep fun g hg=>hbg.block g (by have:=HXU.out g hg;have:=hs2;omega))
         have HER3:=hid (HER2.out.keep fun g hg=>hbg.block g (by have:=HXU.out g hg;have:=hs2;omega))
         have HNa3:=hid (HNa2.out.keep fun g hg=>hbg.block g (by have:=hg.2.1;omega))
         have HNb3:=hid (HNb2.out.keep fun g hg=>hbg.block g (by have:=hg.2.1;omega))
         have HNc3:=hid (HNc2.out.keep fun g hg=>hbg.block g (by have:=hg.2.1;omega))
         have HY3:=hid (HY2.out.far (hbg.block y (by have:=hs2;omega)))
         have HRL3:=hid (HRL2.out.keep hbg.size fun g _ hg=>hbg.block g hg)
         have HU3:=hid (HU2.out.far (hbg.block u (by have:=hs2;omega)))
         have HB3:=hid (HB2.out.trans (hbg.mono (by have:=hs2;omega)))
         have hs3:=Nat.le_trans hs2 hbg.size
         clear hbg HTA2 HTB2 HTC2 HRR2 HBV2 HBR2 HEV2 HER2 HNa2 HNb2 HNc2 HY2 HRL2 HU2 HB2 hs2
         clear HRL3
         have hau:=(Below.refl _ w3).alloc (Nat.le_refl _) (.cells #[.string NV,.int .i64 0] 52)
         have HYa:=hid (HY3.out.far (hau.block y (by omega)))
         have HVa:=hid (HV3.out.far (hau.block v (by omega)))
         have HV4:=hid (HV3.out.far (hk4 v (by omega) HOU.out))
         clear hau
         have HTA4:=hid (HTA3.out.keep fun g hg=>hbl4.block g (by have:=HXU.out g hg;omega))
         have HTB4:=hid (HTB3.out.keep fun g hg=>hbl4.block g (by have:=HXU.out g hg;omega))
         have HTC4:=hid (HTC3.out.keep fun g hg=>hbl4.block g (by have:=HXU.out g hg;omega))
         have HRR4:=hid (HRR3.out.keep fun g hg=>hbl4.block g (by have:=HXU.out g hg;omega))
         have HBV4:=hid (HBV3.out.keep fun g hg=>hbl4.block g (by have:=HXU.out g hg;omega))
         have HBR4:=hid (HBR3.out.keep fun g hg=>hbl4.block g (by have:=HXU.out g hg;omega))
         have HEV4:=hid (HEV3.out.keep fun g hg=>hbl4.block g (by have:=HXU.out g hg;omega))
         have HER4:=hid (HER3.out.keep fun g hg=>hbl4.block g (by have:=HXU.out g hg;omega))
         have HNa4:=hid (HNa3.out.keep fun g hg=>hbl4.block g (by have:=hg.2.1;omega))
         have HNb4:=hid (HNb3.out.keep fun g hg=>hbl4.block g (by have:=hg.2.1;omega))
         have HNc4:=hid (HNc3.out.keep fun g hg=>hbl4.block g (by have:=hg.2.1;omega))
         have HY4:=hid (HY3.out.far (hbl4.block y (by omega)))
         have HU4:=hid (HU3.out.far (hbl4.block u (by omega)))
         have HB4:=hid (HB3.out.trans (hbl4.mono (by omega)))
         have hs4:=Nat.le_trans hs3 hbl4.size
         have hlo4 : lo ≤ w4.heap.size:=by omega
         clear hbl4 hk4 hs4' HTA3 HTB3 HTC3 HRR3 HBV3 HBR3 HEV3 HER3 HNa3 HNb3 HNc3 HU3 HB3
         (try dsimp only)
         refine HKP.out _ _ ⟨HY3.out.cell 19,HV3.out.c0,HV3.out.c1⟩ ?_
         clear HKP K'
         (try simp only [List.getElem_toArray,List.getElem_cons_zero,List.getElem_cons_succ,Act.put,List.setIfInBounds_toArray,List.set_cons_zero,List.set_cons_succ])
         refine wpAnyU_one (i:=4) rfl (by decide) (by kernel_rfl) (by rfl) (fun K' hK'=>?_)
         have HKP:=hid hK'
         clear hK'
         go_simp
         refine HKP.out _ _ ⟨HYa.out.cell 19,HVa.out.c0,HVa.out.c1⟩ ?_
         clear HKP K'
         (try simp only [List.getElem_toArray,List.getElem_cons_zero,List.getElem_cons_succ,Act.put,List.setIfInBounds_toArray,List.set_cons_zero,List.set_cons_succ])
         refine wpAnyU_one (i:=5) rfl (by decide) (by kernel_rfl) (by rfl) (fun K' hK'=>?_)
         have HKP:=hid hK'
         clear hK'
         refine Lib.wp_append_run _ (.tmp 47) (.tmp 50) 62 62 rfl _ _ rfl rfl _ _ HRUN.out ?_
         refine HKP.out _ _ ⟨HY4.out.cell 19,HV4.out.c0,HV4.out.c1⟩ ?_
         clear HKP K'
         (try simp only [List.getElem_toArray,List.getElem_cons_zero,List.getElem_cons_succ,Act.put,List.setIfInBounds_toArray,List.set_cons_zero,List.set_cons_succ])
         clear hHeld HRUN HYa HVa HY3 HV3 hs3
         have hHeld : _ ∧ _ ∧ _:=⟨HY4.out.cell 19,HV4.out.c0,HV4.out.c1⟩
         apply tkY 6
         refine wpAnyU_at (c:=7) rfl (by kernel_rfl) (by rfl) (fun K hK=>?_)
         have HK:=hid hK
         clear hK
         have k4:=HY4.out.cell 19
         have l4:=HY4.out.free 19
         simp only [SC.cells,List.getElem?_cons_succ,List.getElem?_cons_zero] at k4
         go_simp
         refine HK.out _ _ ?_
         clear HK K
         (try simp only [Act.put])
         refine wpAny_done (by kernel_rfl) ?_ _
         refine NoPanic.normal ?_
         clear hHeld HV4 HOU
         have hv5 : lo ≤ (w4.setCell ⟨y,19,none⟩ (.slice A4 (q + 1) c4)).heap.size:=by rw [World.size_setCell];exact hlo4
         have hbs : Below y w4 (w4.setCell ⟨y,19,none⟩ (.slice A4 (q + 1) c4)):=((Below.refl y w4).setCell (p:=⟨y,19,none⟩) (Nat.le_refl _) _)
         have hfs : ∀ g,g ≠ y → (w4.setCell ⟨y,19,none⟩ (.slice A4 (q + 1) c4)).heap[g]? = w4.heap[g]?:=fun g hg=>Below.heap_setCell _ ⟨y,19,none⟩ _ g hg
         have HTA5:=hid (HTA4.out.keep fun g hg=>hfs g (by have:=HXU.out g hg;omega))
         have HTB5:=hid (HTB4.out.keep fun g hg=>hfs g (by have:=HXU.out g hg;omega))
         have HTC5:=hid (HTC4.out.keep fun g hg=>hfs g (by have:=HXU.out g hg;omega))
         have HRR5:=hid (HRR4.out.keep fun g hg=>hfs g (by have:=HXU.out g hg;omega))
         have HBV5:=hid (HBV4.out.keep fun g hg=>hfs g (by have:=HXU.out g hg;omega))
         have HBR5:=hid (HBR4.out.keep fun g hg=>hfs g (by have:=HXU.out g hg;omega))
         have HEV5:=hid (HEV4.out.keep fun g hg=>hfs g (by have:=HXU.out g hg;omega))
         have HER5:=hid (HER4.out.keep fun g hg=>hfs g (by have:=HXU.out g hg;omega))
         have HNa5:=hid (HNa4.out.keep fun g hg=>hfs g hg.2.2)
         have HNb5:=hid (HNb4.out.keep fun g hg=>hfs g hg.2.2)
         have HNc5:=hid (HNc4.out.keep fun g hg=>hfs g hg.2.2)
         have HY5:=hid (HY4.out.putR ⟨A4,q + 1,c4⟩)
         have HRL5:=hid (HRL4.out.keep hbs.size fun g hg _=>hfs g (by omega))
         have HU5:=hid (HU4.out.far (hfs u (by omega)))
         have HB5:=hid (HB4.out.trans (hbs.mono (by omega)))
         have hs5:=Nat.le_trans hs4 hbs.size
         clear hbs hfs HTA4 HTB4 HTC4 HRR4 HBV4 HBR4 HEV4 HER4 HNa4 HNb4 HNc4 HY4 HRL4 HU4 HB4 hs4
         generalize (w4.setCell ⟨y,19,none⟩ (.slice A4 (q + 1) c4)) = w5 at *
         go_wp2_with fail
         exact ⟨⟨q + 1,A4,c4,by omega,by first | rfl | (congr 1;omega),HTA5.out,HTB5.out,HTC5.out,HRR5.out,HBV5.out,HBR5.out,HEV5.out,HER5.out,HNa5.out,HNb5.out,HNc5.out,HY5.out,by rw [HTQ.out];exact HRL5.out,HU5.out,HB5.out,hs5,hv5⟩,by simp [intOf];omega⟩
       · have hge : ¬ ((q : Int) < (rn : Int)):=by omega
         obtain rfl : q = rn:=by omega
         have hEK : routes.take q = routes:=List.take_of_length_le (by rw [← HRN.out];exact Nat.le_refl _)
         have HRT0:=hid (show ∃ css,RP (Fx u y wx) wx 2 A2 q css ∧ RfV routes css ∧ q ≤ c2 by have h:=HRL0.out;rw [hEK] at h;obtain ⟨css,q1,q2,q3⟩:=h.fin (z:=u) (y:=y) (by omega) (by omega);exact ⟨css,q1,q2,q3⟩)
         clear hEK HRL0
         have HNa':=hid (HNa0.out.mono fun g hg=>(⟨hg.1,by have:=hg.2.1;omega,hg.2.2⟩ : Fx u y wx g))
         clear HNa0
         have HNa0:=HNa'
         clear HNa'
         have HNb':=hid (HNb0.out.mono fun g hg=>(⟨hg.1,by have:=hg.2.1;omega,hg.2.2⟩ : Fx u y wx g))
         clear HNb0
         have HNb0:=HNb'
         clear HNb'
         have HNc':=hid (HNc0.out.mono fun g hg=>(⟨hg.1,by have:=hg.2.1;omega,hg.2.2⟩ : Fx u y wx g))
         clear HNc0
         have HNc0:=HNc'
         clear HNc'
         obtain ⟨rcs,hr1,hr2,hr3⟩:=HRT0.out
         have HRP0:=hid hr1
         have HRV:=hid hr2
         have HRC:=hid hr3
         clear HRT0 hr1 hr2 hr3
         go_upto_region 12 with fail
         have HTA6:=hid (show TrV X wx.drew [ea] [c.a.cells] from HTA0.out.keep fun _ _=>rfl)
         have HTB6:=hid (show TrV X wx.drew [eb] [c.b.cells] from HTB0.out.keep fun _ _=>rfl)
         have HTC6:=hid (show TrV X wx.drew [ec] [c.c.cells] from HTC0.out.keep fun _ _=>rfl)
         have HRR6:=hid (show RP X wx.drew 2 c.routes.A c.routes.n rs from HRR0.out.keep fun _ _=>rfl)
         have HBV6:=hid (show StV X wx.drew body bs from HBV0.out.keep fun _ _=>rfl)
         have HBR6:=hid (show RP X wx.drew 26 c.body.A c.body.n bs from HBR0.out.keep fun _ _=>rfl)
         have HEV6:=hid (show StV X wx.drew els es from HEV0.out.keep fun _ _=>rfl)
         have HER6:=hid (show RP X wx.drew 26 c.els.A c.els.n es from HER0.out.keep fun _ _=>rfl)
         have HNa6:=hid (show TrV (Fx u y wx.drew) wx.drew [ea] [[.string oa,.int .i64 ma,.string ta,.int .i64 aa,.slice Aa na da]] from HNa0.out.keep fun _ _=>rfl)
         have HNb6:=hid (show TrV (Fx u y wx.drew) wx.drew [eb] [[.string ob,.int .i64 mb,.string tb,.int .i64 ab',.slice Ab nb db]] from HNb0.out.keep fun _ _=>rfl)
         have HNc6:=hid (show TrV (Fx u y wx.drew) wx.drew [ec] [[.string oc,.int .i64 mc,.string tc,.int .i64 ac,.slice Ac nc dc]] from HNc0.out.keep fun _ _=>rfl)
         have HRP6:=hid (show RP (Fx u y wx.drew) wx.drew 2 A2 q rcs from HRP0.out.keep fun _ _=>rfl)
         have HY6:=hid (show SB wx.drew y (SC.mk c.kind 0 (Q2.mk c.name.t 0) (Q5.mk oa ma ta aa Aa na da) (Q5.mk ob mb tb ab' Ab nb db) (Q5.mk oc mc tc ac Ac nc dc) (QS.mk A2 q c2) (Q2.mk c.block.t 0) (Q2.mk c.tag.t 0) QS.zero QS.zero) from HY0.out)
         have HU6:=hid (show SB wx.drew u c from HU0.out)
         have HB6:=hid (HB0.out.drew)
         have hs6 : y + 1 ≤ wx.drew.heap.size:=hs0
         clear HTA0 HTB0 HTC0 HRR0 HBV0 HBR0 HEV0 HER0 HNa0 HNb0 HNc0 HRP0 HY0 HU0 HB0 hs0
         refine wp_region_noPanic ?_
         refine wp_region_held_drew (S:=fun W=>W.cell? ⟨u,24,none⟩ = some (.slice c.body.A c.body.n c.body.d) ∧ W.cell? ⟨u,25,none⟩ = some (.slice c.els.A c.els.n c.els.d)) (by kernel_rfl) ?_ (fun hHeld=>?_)
         · (try dsimp only)
           exact ⟨HU6.out.cell 24,HU6.out.cell 25⟩
         generalize wx.drew = w6 at *
         apply tkH 0
         apply tkH 1
         apply tkH 3
         apply tkH 4
         refine wpAnyH_ready (rs:=[2]) (by kernel_rfl) (by simp) ?_
         refine AllReadyH.cons rfl (fun K hK=>?_) AllReadyH.nil
         go_simp
         refine (HI1.out w6 _ _ _ bs X HBV6.out HBR6.out (fun g hg=>by have:=HXU.out g hg;have:=hs6;omega) HQY.out HQS.out).mono ?_
         rintro e w7 ⟨pA,pn,pd,rfl,hbd,hbg⟩
         have HNbody7:=hid (hbd.mono fun g hg=>Fr.fx (z:=u) (y:=y) hg (by have:=hs6;omega) (.inl (by have:=hs6;omega)) (Nat.le_refl _))
         clear hbd
         have HTA7:=hid (HTA6.out.keep fun g hg=>hbg.block g (by have:=HXU.out g hg;have:=hs6;omega))
         have HTB7:=hid (HTB6.out.keep fun g hg=>hbg.block g (by have:=HXU.out g hg;have:=hs6;omega))
         have HTC7:=hid (HTC6.out.keep fun g hg=>hbg.block g (by have:=HXU.out g hg;have:=hs6;omega))
         have HRR7:=hid (HRR6.out.keep fun g hg=>hbg.block g (by have:=HXU.out g hg;have:=hs6;omega))
         have HBV7:=hid (HBV6.out.keep fun g hg=>hbg.block g (by have:=HXU.out g hg;have:=hs6;omega))
         have HBR7:=hid (HBR6.out.keep fun g hg=>hbg.block g (by have:=HXU.out g hg;have:=hs6;omega))
         have HEV7:=hid (HEV6.out.keep fun g hg=>hbg.block g (by have:=HXU.out g hg;have:=hs6;omega))
         have HER7:=hid (HER6.out.keep fun g hg=>hbg.block g (by have:=HXU.out g hg;have:=hs6;omega))
         have HNa7:=hid ((HNa6.out.keep fun g hg=>hbg.block g hg.2.1).mono fun g hg=>hg.more hbg.size)
         have HNb7:=hid ((HNb6.out.keep fun g hg=>hbg.block g hg.2.1).mono fun g hg=>hg.more hbg.size)
         have HNc7:=hid ((HNc6.out.keep fun g hg=>hbg.block g hg.2.1).mono fun g hg=>hg.more hbg.size)
         have HRP7:=hid ((HRP6.out.keep fun g hg=>hbg.block g hg.2.1).mono fun g hg=>hg.more hbg.size)
         have HY7:=hid (HY6.out.far (hbg.block y (by have:=hs6;omega)))
         have HU7:=hid (HU6.out.far (hbg.block u (by have:=hs6;omega)))
         have HB7:=hid (HB6.out.trans (hbg.mono (by have:=hs6;omega)))
         have hs7:=Nat.le_trans hs6 hbg.size
         clear hbg HTA6 HTB6 HTC6 HRR6 HBV6 HBR6 HEV6 HER6 HNa6 HNb6 HNc6 HRP6 HY6 HU6 HB6 hs6
         (try dsimp only)
         first | (refine hK.out _ _ ?_ (fun hHeld=>?_)) | (go_wp2_with fail;refine hK.out _ _ ?_ (fun hHeld=>?_))
         · (try dsimp only)
           exact ⟨HU7.out.cell 24,HU7.out.cell 25⟩
         clear hK K
         (try simp only [List.getElem_toArray,List.getElem_cons_zero,List.getElem_cons_succ,Act.put,List.setIfInBounds_toArray,List.set_cons_zero,List.set_cons_succ])
         apply tkH 6
         refine wpAnyH_ready (rs:=[5]) (by kernel_rfl) (by simp) ?_
         refine AllReadyH.cons rfl (fun K hK=>?_) AllReadyH.nil
         go_simp
         refine (HI2.out w7 _ _ _ es X HEV7.out HER7.out (fun g hg=>by have:=HXU.out g hg;have:=hs7;omega) HQE.out HQT.out).mono ?_
         rintro e w8 ⟨rA',rn',rd',rfl,hbd,hbg⟩
         have HNels8:=hid (hbd.mono fun g hg=>Fr.fx (z:=u) (y:=y) hg (by have:=hs7;omega) (.inl (by have:=hs7;omega)) (Nat.le_refl _))
         clear hbd
         have HTA8:=hid (HTA7.out.keep fun g hg=>hbg.block g (by have:=HXU.out g hg;have:=hs7;omega))
         have HTB8:=hid (HTB7.out.keep fun g hg=>hbg.block g (by have:=HXU.out g hg;have:=hs7;omega))
         have HTC8:=hid (HTC7.out.keep fun g hg=>hbg.block g (by have:=HXU.out g hg;have:=hs7;omega))
         have HRR8:=hid (HRR7.out.keep fun g hg=>hbg.block g (by have:=HXU.out g hg;have:=hs7;omega))
         have HBV8:=hid (HBV7.out.keep fun g hg=>hbg.block g (by have:=HXU.out g hg;have:=hs7;omega))
         have HBR8:=hid (HBR7.out.keep fun g hg=>hbg.block g (by have:=HXU.out g hg;have:=hs7;omega))
         have HEV8:=hid (HEV7.out.keep fun g hg=>hbg.block g (by have:=HXU.out g hg;have:=hs7;omega))
         have HER8:=hid (HER7.out.keep fun g hg=>hbg.block g (by have:=HXU.out g hg;have:=hs7;omega))
         have HNa8:=hid ((HNa7.out.keep fun g hg=>hbg.block g hg.2.1).mono fun g hg=>hg.more hbg.size)
         have HNb8:=hid ((HNb7.out.keep fun g hg=>hbg.block g hg.2.1).mono fun g hg=>hg.more hbg.size)
         have HNc8:=hid ((HNc7.out.keep fun g hg=>hbg.block g hg.2.1).mono fun g hg=>hg.more hbg.size)
         have HRP8:=hid ((HRP7.out.keep fun g hg=>hbg.block g hg.2.1).mono fun g hg=>hg.more hbg.size)
         have HNbody8:=hid ((HNbody7.out.keep fun g hg=>hbg.block g hg.2.1).mono fun g hg=>hg.more hbg.size)
         have HY8:=hid (HY7.out.far (hbg.block y (by have:=hs7;omega)))
         have HU8:=hid (HU7.out.far (hbg.block u (by have:=hs7;omega)))
         have HB8:=hid (HB7.out.trans (hbg.mono (by have:=hs7;omega)))
         have hs8:=Nat.le_trans hs7 hbg.size
         clear hbg HTA7 HTB7 HTC7 HRR7 HBV7 HBR7 HEV7 HER7 HNa7 HNb7 HNc7 HRP7 HNbody7 HY7 HU7 HB7 hs7
         (try dsimp only)
         first | (refine hK.out _ _ ?_ (fun hHeld=>?_)) | (go_wp2_with fail;refine hK.out _ _ ?_ (fun hHeld=>?_))
         · (try dsimp only)
           exact ⟨HU8.out.cell 24,HU8.out.cell 25⟩
         clear hK K
         (try simp only [List.getElem_toArray,List.getElem_cons_zero,List.getElem_cons_succ,Act.put,List.setIfInBounds_toArray,List.set_cons_zero,List.set_cons_succ])
         refine wpAnyH_ready (rs:=[7]) (by kernel_rfl) (by simp) ?_
         refine AllReadyH.cons rfl (fun K hK=>?_) AllReadyH.nil
         obtain ⟨v0,g0⟩ : ∃ v,w8.cell? ⟨y,24,none⟩ = some v:=⟨_,HY8.out.cell 24⟩
         have l0:=HY8.out.free 24
         go_simp
         clear g0 l0
         have hbs : Below y w8 (w8.setCell ⟨y,24,none⟩ (.slice pA pn pd)):=((Below.refl y w8).setCell (p:=⟨y,24,none⟩) (Nat.le_refl _) _)
         have hfs : ∀ g,g ≠ y → (w8.setCell ⟨y,24,none⟩ (.slice pA pn pd)).heap[g]? = w8.heap[g]?:=fun g hg=>Below.heap_setCell _ ⟨y,24,none⟩ _ g hg
         have HTA9:=hid (HTA8.out.keep fun g hg=>hfs g (by have:=HXU.out g hg;omega))
         have HTB9:=hid (HTB8.out.keep fun g hg=>hfs g (by have:=HXU.out g hg;omega))
         have HTC9:=hid (HTC8.out.keep fun g hg=>hfs g (by have:=HXU.out g hg;omega))
         have HRR9:=hid (HRR8.out.keep fun g hg=>hfs g (by have:=HXU.out g hg;omega))
         have HBV9:=hid (HBV8.out.keep fun g hg=>hfs g (by have:=HXU.out g hg;omega))
         have HBR9:=hid (HBR8.out.keep fun g hg=>hfs g (by have:=HXU.out g hg;omega))
         have HEV9:=hid (HEV8.out.keep fun g hg=>hfs g (by have:=HXU.out g hg;omega))
         have HER9:=hid (HER8.out.keep fun g hg=>hfs g (by have:=HXU.out g hg;omega))
         have HNa9:=hid ((HNa8.out.keep fun g hg=>hfs g hg.2.2).mono fun g hg=>hg.more hbs.size)
         have HNb9:=hid ((HNb8.out.keep fun g hg=>hfs g hg.2.2).mono fun g hg=>hg.more hbs.size)
         have HNc9:=hid ((HNc8.out.keep fun g hg=>hfs g hg.2.2).mono fun g hg=>hg.more hbs.size)
         have HRP9:=hid ((HRP8.out.keep fun g hg=>hfs g hg.2.2).mono fun g hg=>hg.more hbs.size)
         have HNbody9:=hid ((HNbody8.out.keep fun g hg=>hfs g hg.2.2).mono fun g hg=>hg.more hbs.size)
         have HNels9:=hid ((HNels8.out.keep fun g hg=>hfs g hg.2.2).mono fun g hg=>hg.more hbs.size)
         have HY9:=hid (HY8.out.putBody (QS.mk pA pn pd))
         have HU9:=hid (HU8.out.far (hfs u (by omega)))
         have HB9:=hid (HB8.out.trans (hbs.mono (by omega)))
         have hs9:=Nat.le_trans hs8 hbs.size
         clear hbs hfs HTA8 HTB8 HTC8 HRR8 HBV8 HBR8 HEV8 HER8 HNa8 HNb8 HNc8 HRP8 HNbody8 HNels8 HY8 HU8 HB8 hs8
         generalize (w8.setCell ⟨y,24,none⟩ (.slice pA pn pd)) = w9 at *
         first | (refine hK.out _ _ ?_ (fun hHeld=>?_)) | (go_wp2_with fail;refine hK.out _ _ ?_ (fun hHeld=>?_))
         · (try dsimp only)
           exact ⟨HU9.out.cell 24,HU9.out.cell 25⟩
         clear hK K
         (try simp only [List.getElem_toArray,List.getElem_cons_zero,List.getElem_cons_succ,Act.put,List.setIfInBounds_toArray,List.set_cons_zero,List.set_cons_succ])
         apply tkH 8
         refine wpAnyH_ready (rs:=[9]) (by kernel_rfl) (by simp) ?_
         refine AllReadyH.cons rfl (fun K hK=>?_) AllReadyH.nil
         obtain ⟨v0,g0⟩ : ∃ v,w9.cell? ⟨y,25,none⟩ = some v:=⟨_,HY9.out.cell 25⟩
         have l0:=HY9.out.free 25
         go_simp
         clear g0 l0
         have hbs : Below y w9 (w9.setCell ⟨y,25,none⟩ (.slice rA' rn' rd')):=((Below.refl y w9).setCell (p:=⟨y,25,none⟩) (Nat.le_refl _) _)
         have hfs : ∀ g,g ≠ y → (w9.setCell ⟨y,25,none⟩ (.slice rA' rn' rd')).heap[g]? = w9.heap[g]?:=fun g hg=>Below.heap_setCell _ ⟨y,25,none⟩ _ g hg
         have HTA10:=hid (HTA9.out.keep fun g hg=>hfs g (by have:=HXU.out g hg;omega))
         have HTB10:=hid (HTB9.out.keep fun g hg=>hfs g (by have:=HXU.out g hg;omega))
         have HTC10:=hid (HTC9.out.keep fun g hg=>hfs g (by have:=HXU.out g hg;omega))
         have HRR10:=hid (HRR9.out.keep fun g hg=>hfs g (by have:=HXU.out g hg;omega))
         have HBV10:=hid (HBV9.out.keep fun g hg=>hfs g (by have:=HXU.out g hg;omega))
         have HBR10:=hid (HBR9.out.keep fun g hg=>hfs g (by have:=HXU.out g hg;omega))
         have HEV10:=hid (HEV9.out.keep fun g hg=>hfs g (by have:=HXU.out g hg;omega))
         have HER10:=hid (HER9.out.keep fun g hg=>hfs g (by have:=HXU.out g hg;omega))
         have HNa10:=hid ((HNa9.out.keep fun g hg=>hfs g hg.2.2).mono fun g hg=>hg.more hbs.size)
         have HNb10:=hid ((HNb9.out.keep fun g hg=>hfs g hg.2.2).mono fun g hg=>hg.more hbs.size)
         have HNc10:=hid ((HNc9.out.keep fun g hg=>hfs g hg.2.2).mono fun g hg=>hg.more hbs.size)
         have HRP10:=hid ((HRP9.out.keep fun g hg=>hfs g hg.2.2).mono fun g hg=>hg.more hbs.size)
         have HNbody10:=hid ((HNbody9.out.keep fun g hg=>hfs g hg.2.2).mono fun g hg=>hg.more hbs.size)
         have HNels10:=hid ((HNels9.out.keep fun g hg=>hfs g hg.2.2).mono fun g hg=>hg.more hbs.size)
         have HY10:=hid (HY9.out.putEls (QS.mk rA' rn' rd'))
         have HU10:=hid (HU9.out.far (hfs u (by omega)))
         have HB10:=hid (HB9.out.trans (hbs.mono (by omega)))
         have hs10:=Nat.le_trans hs9 hbs.size
         clear hbs hfs HTA9 HTB9 HTC9 HRR9 HBV9 HBR9 HEV9 HER9 HNa9 HNb9 HNc9 HRP9 HNbody9 HNels9 HY9 HU9 HB9 hs9
         generalize (w9.setCell ⟨y,25,none⟩ (.slice rA' rn' rd')) = w10 at *
         first | (refine hK.out _ _ ?_ (fun hHeld=>?_)) | (go_wp2_with fail;refine hK.out _ _ ?_ (fun hHeld=>?_))
         · (try dsimp only)
           exact ⟨HU10.out.cell 24,HU10.out.cell 25⟩
         clear hK K
         (try simp only [List.getElem_toArray,List.getElem_cons_zero,List.getElem_cons_succ,Act.put,List.setIfInBounds_toArray,List.set_cons_zero,List.set_cons_succ])
         refine wpAnyH_done (by kernel_rfl) ?_ _
         refine NoPanic.normal ?_
         (try clear hHeld)
         obtain ⟨bcs,b1,b2,b3⟩:=HNbody10.out
         obtain ⟨ecs,e1,e2,e3⟩:=HNels10.out
         have hsv : StV (Fr wb w10) w10 [.mk kind name ea eb ec routes block tag body els] [(SC.mk c.kind 0 (Q2.mk c.name.t 0) (Q5.mk oa ma ta aa Aa na da) (Q5.mk ob mb tb ab' Ab nb db) (Q5.mk oc mc tc ac Ac nc dc) (QS.mk A2 q c2) (Q2.mk c.block.t 0) (Q2.mk c.tag.t 0) (QS.mk pA pn pd) (QS.mk rA' rn' rd')).cells]:=(StV.cons (k:=(SC.mk c.kind 0 (Q2.mk c.name.t 0) (Q5.mk oa ma ta aa Aa na da) (Q5.mk ob mb tb ab' Ab nb db) (Q5.mk oc mc tc ac Ac nc dc) (QS.mk A2 q c2) (Q2.mk c.block.t 0) (Q2.mk c.tag.t 0) (QS.mk pA pn pd) (QS.mk rA' rn' rd'))) HKI.out HNA.out.symm HNa10.out HNb10.out HNc10.out ⟨HRV.out,HRP10.out,HRC.out⟩ HBK.out.symm HTG.out.symm b1 ⟨b2,b3⟩ e1 ⟨e2,e3⟩ .nil).mono fun g hg=>⟨by have:=hg.1;have:=HSB.out;omega,hg.2.1⟩
         have hkx : Kx 0 0 wb.heap.size wb w10:=Kx.of (by rw [HSB.out];exact HB10.out) (Nat.le_refl _)
         obtain ⟨A5,c5,w11,hrun,htl5,hbl5,hs5,_⟩:=TL.pushB (K:=stR) (p:=0) (q:=0) 23 TTs (by decide) HTL1.out hkx (Nat.succ_pos _) (Nat.succ_pos _) (by have:=HSB.out;omega) (by omega) hsv
         have HRUN:=hid hrun
         have HTL5:=hid htl5
         have HB5:=hid (HBA.out.trans ((HB10.out.mono (by omega)).trans (hbl5.mono (Nat.le_succ _))))
         have hcl : (SC.mk c.kind 0 (Q2.mk c.name.t 0) (Q5.mk oa ma ta aa Aa na da) (Q5.mk ob mb tb ab' Ab nb db) (Q5.mk oc mc tc ac Ac nc dc) (QS.mk A2 q c2) (Q2.mk c.block.t 0) (Q2.mk c.tag.t 0) (QS.mk pA pn pd) (QS.mk rA' rn' rd')).cells.length = 26:=rfl
         have hrx : w10.rangeAt y 0 (SC.mk c.kind 0 (Q2.mk c.name.t 0) (Q5.mk oa ma ta aa Aa na da) (Q5.mk ob mb tb ab' Ab nb db) (Q5.mk oc mc tc ac Ac nc dc) (QS.mk A2 q c2) (Q2.mk c.block.t 0) (Q2.mk c.tag.t 0) (QS.mk pA pn pd) (QS.mk rA' rn' rd')).cells:=blk_range HY10.out
         have hi1:=hid (show (Tryd.prog.info? 64).map (·.size) = some (SC.mk c.kind 0 (Q2.mk c.name.t 0) (Q5.mk oa ma ta aa Aa na da) (Q5.mk ob mb tb ab' Ab nb db) (Q5.mk oc mc tc ac Ac nc dc) (QS.mk A2 q c2) (Q2.mk c.block.t 0) (Q2.mk c.tag.t 0) (QS.mk pA pn pd) (QS.mk rA' rn' rd')).cells.length from infoSt _)
         obtain ⟨Y3,hY3⟩ : ∃ Y3 : List Value,(SC.mk c.kind 0 (Q2.mk c.name.t 0) (Q5.mk oa ma ta aa Aa na da) (Q5.mk ob mb tb ab' Ab nb db) (Q5.mk oc mc tc ac Ac nc dc) (QS.mk A2 q c2) (Q2.mk c.block.t 0) (Q2.mk c.tag.t 0) (QS.mk pA pn pd) (QS.mk rA' rn' rd')).cells = Y3:=⟨_,rfl⟩
         rw [hY3] at HRUN hcl hrx hi1
         clear hsv hkx hrun htl5 hbl5 hs5 b1 b2 b3 e1 e2 e3 hY3 HTA10 HTB10 HTC10 HRR10 HBV10 HBR10 HEV10 HER10 HNa10 HNb10 HNc10 HRP10 HNbody10 HNels10 HY10 HU10 HB10 hs10
         go_wp2_with (first | (refine wl_load_mid (by rfl) 64 (.tmp 6) rfl y 0 rfl Y3 _ hrx Tryd.underlying64 rfl hi1.out ?_) | (refine wl_bs1 TTs rfl (.tmp 63) rfl Y3.toArray rfl (by rw [List.size_toArray,hcl]) (by decide) ?_) | (refine wl_step (by rfl) fun _ hK=>Lib.wp_append_run _ (.tmp 62) (.tmp 64) 23 23 rfl _ _ rfl rfl _ _ HRUN.out (hK _ _ ?_)))
         exact ⟨⟨j + 1,A5,c5,by omega,by first | rfl | (congr 1;omega),rfl,by rw [HTK.out];exact HTL5.out,HB5.out⟩,by simp [intOf];omega⟩
   · have hge : ¬ ((j : Int) < (n : Int)):=by omega
     obtain rfl : j = n:=by omega
     have hEK : ts.take j = ts:=List.take_of_length_le (by rw [HLN.out];exact Nat.le_refl _)
     have HTF:=hid (show TL stR 64 (z0 + 1) wr (.slice A1 j c1) j ts by have:=HTL.out;rwa [hEK] at this)
     clear hEK HTL
     go_wp2_with fail
     go_ret
     obtain ⟨rcs,q1,q2,q3⟩:=HTF.out.done (w0:=w) (by rw [HZ.out];exact Nat.le_succ _)
     exact ⟨A1,j,c1,rfl,⟨rcs,q2,q1,q3⟩,by rw [HZ.out];exact HBW.out⟩
theorem bareStmts_any (ts : List St) : BsP ts:=by
 suffices H : ∀ n (ts : List St),cntL ts ≤ n → BsP ts from H (cntL ts) ts (Nat.le_refl _)
 intro n
 induction n with
 | zero=>
   intro ts h
   refine bs_step fun t ht=>?_
   have:=cntS_mem ht
   omega
 | succ n ih=>
   intro ts h
   refine bs_step fun t ht=>?_
   have h1:=cntS_mem ht
   obtain ⟨kind,name,a,b,c,routes,block,tag,body,els⟩:=t
   rw [cntS] at h1
   exact ⟨ih body (by omega),ih els (by omega)⟩
end
end Go.Proofs.YtgmjpnnblhkbpaaDoor
