/-
  Contract of tree.Count. Conditions: at most 10^13 statements.
-/
import Derived.Test.YtgmjpnnblhkbpaaDoorWordsM
import Derived.StillTail
import Derived.Below
import Derived.Deep.RegionHeld
import Derived.Test.YtgmjpnnblhkbpaaDoorTpHM
import Derived.Test.YtgmjpnnblhkbpaaDoorSqM
namespace Go.Sh
open Go Go.RowKit
section
variable {P : Program} {ops : Array Oper} {md : Region.Mode} {Q' : Exit → Act → World → Prop}
theorem tmps_put {a : Act} {d s : Nat} (v : Value) (hd : d < a.tmps.size) : (a.put (some d) v).tmps.getD s undef = if s = d then v else a.tmps.getD s undef:=by
 by_cases h : s = d
 · subst h;simp [Act.put,hd]
 · have : d ≠ s:=fun e=>h e.symm
   simp [Act.put,h,this]
set_option maxRecDepth 100000 in
theorem ev_get {a : Act} {t : Nat} {v : Value} (h : a.eval (.tmp t) = v) : a.tmps[t]?.getD undef = v:=by simpa [Act.eval] using h
def setAll : Array Value → List Nat → Nat → (Nat → Value) → Array Value
 | T,[],_,_=>T
 | T,d :: ds,i,x=>setAll (T.setIfInBounds d (x i)) ds (i + 1) x
theorem setAll_size : ∀ (ds : List Nat) (T : Array Value) (i : Nat) (x : Nat → Value),(setAll T ds i x).size = T.size
 | [],_,_,_=>rfl
 | d :: ds,T,i,x=>by rw [setAll,setAll_size ds];simp
theorem setAll_out : ∀ (ds : List Nat) (T : Array Value) (i : Nat) (x : Nat → Value) (s : Nat),s ∉ ds → (setAll T ds i x).getD s undef = T.getD s undef
 | [],_,_,_,_,_=>rfl
 | d :: ds,T,i,x,s,h=>by
   rw [setAll,setAll_out ds _ _ _ _ (fun hm=>h (List.mem_cons_of_mem _ hm))]
   have : d ≠ s:=fun e=>h (e ▸ List.mem_cons_self ..)
   simp [this]
set_option maxRecDepth 100000 in
theorem setAll_in : ∀ (ds : List Nat) (T : Array Value) (i : Nat) (x : Nat → Value) (k d : Nat),ds.Nodup → ds[k]? = some d → d < T.size → (setAll T ds i x).getD d undef = x (i + k)
 | [],_,_,_,_,_,_,h,_=>by simp at h
 | e :: ds,T,i,x,0,d,hn,h,hs=>by
   obtain rfl : e = d:=by simpa using h
   rw [setAll,setAll_out ds _ _ _ _ (List.nodup_cons.1 hn).1]
   simp [hs]
 | e :: ds,T,i,x,k + 1,d,hn,h,hs=>by
   rw [setAll,setAll_in ds _ _ _ k d (List.nodup_cons.1 hn).2 (by simpa using h) (by simpa using hs)]
   congr 1;omega
theorem setAll_eq {T T0 : Array Value} {ds : List Nat} (hn : ds.Nodup) (hs : T.size = T0.size) (hz : ∀ d ∈ ds,d < T0.size) (ho : ∀ s,s ∉ ds → T.getD s undef = T0.getD s undef) (x : Nat → Value) (hx : ∀ i d,ds[i]? = some d → T.getD d undef = x i) : T = setAll T0 ds 0 x:=by
 apply Array.ext
 · rw [setAll_size,hs]
 · intro s h1 h2
   have e1 : T.getD s undef = T[s]:=by simp [h1]
   have e2 : (setAll T0 ds 0 x).getD s undef = (setAll T0 ds 0 x)[s]:=by simp [h2]
   rw [← e1,← e2]
   by_cases hm : s ∈ ds
   · obtain ⟨k,hk,he⟩:=List.mem_iff_getElem.1 hm
     have hk' : ds[k]? = some s:=by rw [List.getElem?_eq_getElem hk,he]
     rw [hx k s hk',setAll_in ds T0 0 x k s hn hk' (hz s hm),Nat.zero_add]
   · rw [ho s hm,setAll_out ds T0 0 x s hm]
end
end Go.Sh
namespace Go.Sh
open Go Go.RowKit
def Region.manyB (md : Region.Mode) (ops : Array Oper) (Lf : Array Bool) : Nat → List Nat → Array Bool → Bool
 | 0,_,L=>L.toList == Lf.toList
 | n + 1,rem,L=>!(Region.ready md ops L).isEmpty && (Region.ready md ops L).all fun i=>rem.contains i && Region.manyB md ops Lf n (rem.erase i) (L.setIfInBounds i true)
def Region.dstB (ops : Array Oper) (H ds : List Nat) : Bool:=
 (H.zip ds).all fun p=>match ops[p.1]? with
   | some o=>(o.dst == some p.2) && o.guard.isNone
   | none=>false
section
variable {P : Program} {ops : Array Oper} {md : Region.Mode} {Q : Exit → Act → World → Prop} {S : World → Prop}
set_option maxRecDepth 100000 in
theorem wpAnyH_some {H ds : List Nat} {Lf : Array Bool} {fuel : Nat} {A : Act} {w0 : World} (V : Nat → Value → World → Prop) (hl : H.length = ds.length) (hnd : ds.Nodup) (hnh : H.Nodup) (hsz : ∀ d ∈ ds,d < A.tmps.size) (hds : Region.dstB ops H ds = true)
   (hS : ∀ w w',S w → Below w.heap.size w w' → S w') (hV : ∀ k v w w',V k v w → Below w.heap.size w w' → V k v w')
   (hop : ∀ (k i : Nat) (o : Oper),H[k]? = some i → ops[i]? = some o → ∀ (a : Act) (w : World),(∀ s,s ∉ ds → a.eval (.tmp s) = A.eval (.tmp s)) → (∀ e ∈ o.after,Region.binds md e = true → ∀ (k' d' : Nat),H[k']? = some e.on → ds[k']? = some d' → V k' (a.eval (.tmp d')) w) → S w → Below w0.heap.size w0 w →
     o.wp P a w (fun a' w'=>∃ v,a' = a.put o.dst v ∧ Below w.heap.size w w' ∧ V k v w') Q)
   (hend : ∀ (x : Nat → Value) (w' : World),(∀ k,k < H.length → V k (x k) w') → Below w0.heap.size w0 w' → S w' → wpAnyH P md ops Q S fuel Lf ⟨setAll A.tmps ds 0 x,A.defers⟩ w') :
   ∀ (n : Nat) (rem : List Nat) (L : Array Bool) (a : Act) (w : World),Region.manyB md ops Lf n rem L = true → rem.length = n → rem.Nodup → (∀ i ∈ rem,L.getD i false = false) → (∀ i ∈ rem,i ∈ H) → a.defers = A.defers → a.tmps.size = A.tmps.size → (∀ s,s ∉ ds → a.tmps.getD s undef = A.tmps.getD s undef) →
     (∀ k i d,H[k]? = some i → ds[k]? = some d → i ∉ rem → V k (a.tmps.getD d undef) w) → S w → Below w0.heap.size w0 w → wpAnyH P md ops Q S (n + fuel) L a w:=by
 intro n
 induction n with
 | zero=>
   intro rem L a w hB hr _ _ _ hdf hts hold hval hSw hbw
   obtain rfl:=List.eq_nil_of_length_eq_zero hr
   have hL : L = Lf:=Array.toList_inj.1 (by simpa [Region.manyB] using hB)
   subst hL
   rw [Nat.zero_add]
   have ha : a = ⟨setAll A.tmps ds 0 (fun k=>a.tmps.getD (ds.getD k 0) undef),A.defers⟩:=by
     have:=setAll_eq (T:=a.tmps) (T0:=A.tmps) hnd hts hsz hold (fun k=>a.tmps.getD (ds.getD k 0) undef) (fun k d hd=>by simp [List.getD_eq_getElem?_getD,hd])
     rw [← this,← hdf]
   rw [ha]
   refine hend _ w (fun k hk=>?_) hbw hSw
   have h1 : H[k]? = some (H.getD k 0):=by rw [List.getD_eq_getElem?_getD,List.getElem?_eq_getElem hk,Option.getD_some]
   have h2 : ds[k]? = some (ds.getD k 0):=by rw [List.getD_eq_getElem?_getD,List.getElem?_eq_getElem (by omega),Option.getD_some]
   exact hval k _ _ h1 h2 (by simp)
 | succ n ih=>
   intro rem L a w hB hr hrn hrl hsub hdf hts hold hval hSw hbw
   rw [Region.manyB,Bool.and_eq_true,List.all_eq_true] at hB
   obtain ⟨hne,hall⟩:=hB
   rw [show n + 1 + fuel = (n + fuel) + 1 by omega]
   refine ⟨fun h0=>(by rw [h0] at hne;simp at hne),fun i hi=>?_⟩
   have h1:=hall i hi
   rw [Bool.and_eq_true,List.contains_iff_mem] at h1
   obtain ⟨hir,hB2⟩:=h1
   obtain ⟨k,hk,hki⟩:=List.mem_iff_getElem.1 (hsub i hir)
   have hk' : H[k]? = some i:=by rw [List.getElem?_eq_getElem hk,hki]
   obtain ⟨d,hd⟩ : ∃ d,ds[k]? = some d:=⟨_,List.getElem?_eq_getElem (by omega)⟩
   have hz:=List.all_eq_true.1 hds (i,d) (List.mem_of_getElem? (i:=k) (by rw [List.getElem?_zip_eq_some];exact ⟨hk',hd⟩))
   simp only at hz
   cases ho : ops[i]? with
   | none=>rw [ho] at hz;cases hz
   | some o=>
     rw [ho] at hz
     simp only [Bool.and_eq_true,beq_iff_eq,Option.isNone_iff_eq_none] at hz
     obtain ⟨hod,hgu⟩:=hz
     have hwant : Region.wanted o (yielded ops a.tmps) = true:=by unfold Region.wanted;rw [hgu]
     have hdz : d < a.tmps.size:=by rw [hts];exact hsz d (List.mem_of_getElem? hd)
     obtain ⟨_,o2,ho2,hall2⟩:=mem_ready.1 hi
     rw [ho] at ho2
     obtain rfl:=Option.some.inj ho2
     have hstep:=hop k i o hk' ho a w (fun s hs=>by simpa [Act.eval] using hold s hs) (fun e he hb k2 d2 h2 hd2=>by
       have h3:=hval k2 e.on d2 h2 hd2 fun hm=>by
         have h4:=hrl e.on hm
         rw [hall2 e he hb] at h4
         cases h4
       simpa [Act.eval] using h3) hSw hbw
     unfold wpOp
     simp only [ho,hwant,if_true]
     refine Or.inl (Oper.wp_mono ?_ hstep)
     rintro a' w' ⟨v,rfl,hbw',hVi⟩
     rw [hod]
     refine ⟨hS w w' hSw hbw',ih (rem.erase i) _ _ w' hB2 (by rw [List.length_erase_of_mem hir];omega) (hrn.erase i) (fun j hj=>by
       have hji : i ≠ j:=fun h=>(List.Nodup.not_mem_erase hrn (h ▸ hj))
       rw [getD_set_ne false hji]
       exact hrl j (List.mem_of_mem_erase hj)) (fun j hj=>hsub j (List.mem_of_mem_erase hj)) (by simp [Act.put,hdf]) (by simp [Act.put,hts]) (fun s hs=>?_) (fun k2 j e hj he hnr=>?_) (hS w w' hSw hbw') (hbw.trans (hbw'.mono hbw.size))⟩
     · rw [tmps_put v hdz,if_neg (show ¬ s = d from fun e=>hs (e ▸ List.mem_of_getElem? hd))]
       exact hold s hs
     · rw [tmps_put v hdz]
       by_cases hkk : k2 = k
       · subst hkk
         rw [hd] at he
         obtain rfl:=Option.some.inj he
         rw [if_pos rfl];exact hVi
       · have hed : e ≠ d:=fun h=>by
           subst h
           exact hkk ((List.getElem?_inj (List.getElem?_eq_some_iff.1 he).1 hnd).1 (he.trans hd.symm))
         rw [if_neg hed]
         refine hV k2 _ w w' (hval k2 j e hj he fun hm=>hnr ?_) hbw'
         have hji : j ≠ i:=fun h=>by
           subst h
           exact hkk ((List.getElem?_inj (List.getElem?_eq_some_iff.1 hj).1 hnh).1 (hj.trans hk'.symm))
         exact (List.mem_erase_of_ne hji).2 hm
set_option maxRecDepth 100000 in
theorem wpAnyH_many (H ds : List Nat) (Lf : Array Bool) {n fuel : Nat} {L : Array Bool} {A : Act} {w0 : World} (V : Nat → Value → World → Prop) (hn : n = H.length + fuel) (hl : H.length = ds.length) (hnd : ds.Nodup) (hnh : H.Nodup) (hsz : ∀ d ∈ ds,d < A.tmps.size) (hds : Region.dstB ops H ds = true) (hB : Region.manyB md ops Lf H.length H L = true) (hL : (H.all fun i=>L.getD i false == false) = true)
   (hS : ∀ w w',S w → Below w.heap.size w w' → S w') (hV : ∀ k v w w',V k v w → Below w.heap.size w w' → V k v w') (h0 : S w0)
   (hop : ∀ (k i : Nat) (o : Oper),H[k]? = some i → ops[i]? = some o → ∀ (a : Act) (w : World),(∀ s,s ∉ ds → a.eval (.tmp s) = A.eval (.tmp s)) → (∀ e ∈ o.after,Region.binds md e = true → ∀ (k' d' : Nat),H[k']? = some e.on → ds[k']? = some d' → V k' (a.eval (.tmp d')) w) → S w → Below w0.heap.size w0 w →
     o.wp P a w (fun a' w'=>∃ v,a' = a.put o.dst v ∧ Below w.heap.size w w' ∧ V k v w') Q)
   (hend : ∀ (x : Nat → Value) (w' : World),(∀ k,k < H.length → V k (x k) w') → Below w0.heap.size w0 w' → S w' → wpAnyH P md ops Q S fuel Lf ⟨setAll A.tmps ds 0 x,A.defers⟩ w') :
   wpAnyH P md ops Q S n L A w0:=by
 subst hn
 exact wpAnyH_some V hl hnd hnh hsz hds hS hV hop hend H.length H L A w0 hB rfl hnh (fun i hi=>by have:=List.all_eq_true.1 hL i hi;simpa using this) (fun _ h=>h) rfl rfl (fun _ _=>rfl) (fun k i d h _ hm=>absurd (List.mem_of_getElem? h) hm) h0 (Below.refl _ _)
end
end Go.Sh
namespace Go.Proofs.YtgmjpnnblhkbpaaDoor
open Go Go.RowKit Go.Sh Tx
open Go.Lib (hid)
mutual
def cntS : St → Nat
 | .mk _ _ _ _ _ _ _ _ body els=>cntL body + cntL els
def cntL : List St → Nat
 | []=>0
 | t :: l=>1 + cntS t + cntL l
end
def sumS : List St → Nat
 | []=>0
 | t :: l=>cntS t + sumS l
theorem cntL_eq (l : List St) : cntL l = l.length + sumS l:=by
 induction l with
 | nil=>rfl
 | cons t l ih=>rw [cntL,sumS,List.length_cons,ih];omega
theorem sumS_app (l : List St) (t : St) : sumS (l ++ [t]) = sumS l + cntS t:=by
 induction l with
 | nil=>simp [sumS]
 | cons x l ih=>rw [List.cons_append,sumS,sumS,ih];omega
theorem sumS_take : ∀ (l : List St) (j : Nat),sumS (l.take j) ≤ sumS l
 | [],j=>by simp [sumS]
 | x :: l,0=>by simp [sumS]
 | x :: l,j + 1=>by
   have:=sumS_take l j
   rw [List.take_succ_cons,sumS,sumS]
   omega
theorem cntS_mem {l : List St} {t : St} (h : t ∈ l) : cntS t < cntL l:=by
 induction l with
 | nil=>cases h
 | cons x l ih=>
   rw [cntL]
   rcases List.mem_cons.1 h with rfl | h
   · omega
   · have:=ih h;omega
def CtP (ts : List St) : Prop:=∀ (w : World) (A : Option Addr) (n c : Nat) (css : List (List Value)) (X : Nat → Prop),StV X w ts css → RP X w 26 A n css → (∀ g,X g → g < w.heap.size) → cntL ts ≤ 10000000000000 →
 Calls Tryd.prog 5 #[.slice A n c] w fun e w'=>e = .returned (.int .i64 (cntL ts : Int)) ∧ Below w.heap.size w w'
section
set_option maxHeartbeats 16000000
set_option maxRecDepth 100000
set_option maxRecDepth 100000 in
theorem count_step {ts : List St} (ih : ∀ t ∈ ts,match t with | .mk _ _ _ _ _ _ _ _ body els=>CtP body ∧ CtP els) : CtP ts:=by
 intro w A n c css X hv hr hX hlen
 have hln : ts.length = n:=by have h2:=hv.len;have h3:=hr.1;omega
 have hcq:=cntL_eq ts
 have HCQ:=hid hcq
 have HLN:=hid hln
 have HIH:=hid ih
 have HV:=hid hv
 have HRR:=hid (hr.rr (B:=w.heap.size) hX)
 have HX:=hid hX
 have HN:=hid hlen
 obtain ⟨z0,hz0⟩ : ∃ z0,w.heap.size = z0:=⟨_,rfl⟩
 rw [hz0] at HRR HX
 have HZ:=hid hz0
 have hnb : n ≤ 10000000000000:=by omega
 clear hv hr hX hlen hln ih hcq hz0
 go_enter Tryd.func5,Tryd.ntmps5
 go_wp2_with fail
 go_loopw [3,10] (fun v i wr=>∃ j : Nat,j ≤ n ∧ i = .int .i64 (j : Int) ∧ v = .int .i64 ((n + sumS (ts.take j) : Nat) : Int) ∧ Below z0 w wr) (fun _ i _=>n - (intOf i).toNat)
 case atStart=>exact ⟨0,by omega,by first | rfl | simp,by first | rfl | simp [sumS],Below.refl _ _⟩
 case round=>
   obtain ⟨j,hj,rfl,rfl,hb⟩:=hrel
   have HBW:=hid hb
   have hzw:=hb.size
   have HRr:=hid (HRR.out.below hb)
   have HVr:=hid (HV.out.keep fun g hg=>hb.block g (HX.out g hg))
   clear hb
   by_cases hlt : j < n
   · have hji : (j : Int) < (n : Int):=by omega
     have hwj : IntKind.i64.wrap ((j : Int) + 1) = (j : Int) + 1:=by rw [IntKind.wrap_i64];omega
     obtain ⟨ab,off,cs,hA,hbB,hcs,hcl,hrg⟩:=HRr.out.at_ hlt
     obtain ⟨t,c2,ht,rfl,htv⟩:=HVr.out.at_ hcs
     subst hA
     have HTK:=hid (show sumS (ts.take (j + 1)) = sumS (ts.take j) + cntS t by rw [List.take_add_one,ht];exact sumS_app _ t)
     have HLE:=hid (sumS_take ts (j + 1))
     have HCM:=hid (cntS_mem (List.mem_of_getElem? ht))
     obtain ⟨kind,name,ea,eb,ec,routes,block,tag,body,els⟩:=t
     obtain ⟨_,_,_,_,_,_,_,_,⟨bs,hbv,hbr⟩,⟨es,hev,her⟩⟩:=htv.inv
     obtain ⟨i1,i2⟩:=HIH.out _ (List.mem_of_getElem? ht)
     have hcs2 : cntS (.mk kind name ea eb ec routes block tag body els) = cntL body + cntL els:=by rw [cntS]
     rw [hcs2] at HTK HCM
     have HI1:=hid i1
     have HI2:=hid i2
     have hcm:=HCM.out
     have hnn:=HN.out
     have hba : Below wr.heap.size wr (wr.alloc (.cells c2.cells.toArray 64)):=(Below.refl _ wr).alloc (Nat.le_refl _) _
     have hX2 : ∀ g,X g → g < wr.heap.size:=fun g hg=>by have:=HX.out g hg;have:=HZ.out;omega
     have HB1:=hid (HBW.out.trans (hba.mono (by have:=HZ.out;omega)))
     have HE1:=hid (show SB (wr.alloc (.cells c2.cells.toArray 64)) wr.heap.size c2 from heap_alloc_new wr _)
     have HBV:=hid (hbv.keep fun g hg=>hba.block g (hX2 g hg))
     have HBR:=hid (hbr.keep fun g hg=>hba.block g (hX2 g hg))
     have HEV:=hid (hev.keep fun g hg=>hba.block g (hX2 g hg))
     have HER:=hid (her.keep fun g hg=>hba.block g (hX2 g hg))
     have hi1:=hid (show (Tryd.prog.info? 64).map (·.size) = some c2.cells.length from infoSt c2)
     have hi2:=hid (infoSt c2)
     have hx1:=hid (SC.oneA c2)
     have hXs : c2.cells.toArray.size = SC.zero.cells.toArray.size:=rfl
     have hs1 : wr.heap.size + 1 ≤ (wr.alloc (.cells c2.cells.toArray 64)).heap.size:=Nat.le_of_eq (Array.size_push _).symm
     have hcb : cntL body ≤ 10000000000000:=by omega
     have hce : cntL els ≤ 10000000000000:=by omega
     obtain ⟨Y,hY⟩ : ∃ Y : List Value,c2.cells = Y:=⟨_,rfl⟩
     rw [hY] at hrg hba HB1 HBV HBR HEV HER hi1 hi2 hx1 hXs hs1
     have HEY:=hid (show SB (wr.alloc (.cells Y.toArray 64)) wr.heap.size c2 by rw [← hY];exact HE1.out)
     clear hcl hcs ht htv hY HE1 hbv hbr hev her i1 i2 hcs2
     go_upto_region 5 with (first | (refine wl_load_mid (by rfl) 64 (.tmp 12) rfl ab (off + j * 26) rfl Y _ hrg Tryd.underlying64 rfl hi1.out ?_) | (refine wl_store_all (by rfl) 64 (.tmp 5) (.tmp 13) rfl wr.heap.size Y.toArray rfl rfl SC.zero.cells.toArray _ (heap_alloc_new wr _) hXs hi2.out hx1.out ?_))
     rw [alloc_setRow]
     obtain ⟨z,hz⟩ : ∃ z,wr.heap.size = z:=⟨_,rfl⟩
     have hzz : z0 ≤ z:=by have:=HZ.out;omega
     have hXz : ∀ g,X g → g < z:=fun g hg=>by rw [← hz];exact hX2 g hg
     have HXZ:=hid hXz
     rw [hz] at HEY hs1 ⊢
     clear hz hba HRr HVr hrg hX2 hXz HBW
     generalize wr.alloc (.cells Y.toArray 64) = w1 at *
     obtain ⟨cb,hcbe⟩ : ∃ cb,cntL body = cb:=⟨_,rfl⟩
     obtain ⟨ce,hcee⟩ : ∃ ce,cntL els = ce:=⟨_,rfl⟩
     rw [hcbe] at hcb hcm HTK HCM
     rw [hcee] at hce hcm HTK HCM
     have HCB:=hid hcbe
     have HCE:=hid hcee
     obtain ⟨sj,hsj⟩ : ∃ sj,sumS (ts.take j) = sj:=⟨_,rfl⟩
     rw [hsj] at HTK ⊢
     have hsb : n + sj + (cb + ce) ≤ 10000000000000:=by have h1:=HLE.out;have h2:=HCQ.out;have h3:=HTK.out;have h4:=HLN.out;omega
     clear hsj hcbe hcee hcm hnn
     have hw1 : IntKind.i64.wrap ((cb : Int) + (ce : Int)) = (cb : Int) + (ce : Int):=by rw [IntKind.wrap_i64];omega
     have hw2 : IntKind.i64.wrap ((n : Int) + (sj : Int) + ((cb : Int) + (ce : Int))) = (n : Int) + (sj : Int) + ((cb : Int) + (ce : Int)):=by rw [IntKind.wrap_i64];omega
     have HEd:=hid (show SB w1.drew z c2 from HEY.out)
     have HBd:=hid (show Below z0 w w1.drew from HB1.out.drew)
     have HBVd:=hid (show StV X w1.drew body bs from HBV.out.keep fun _ _=>rfl)
     have HBRd:=hid (show RP X w1.drew 26 c2.body.A c2.body.n bs from HBR.out.keep fun _ _=>rfl)
     have HEVd:=hid (show StV X w1.drew els es from HEV.out.keep fun _ _=>rfl)
     have HERd:=hid (show RP X w1.drew 26 c2.els.A c2.els.n es from HER.out.keep fun _ _=>rfl)
     have hsd : z + 1 ≤ w1.drew.heap.size:=hs1
     clear HEY HB1 HBV HBR HEV HER hs1
     refine wp_region_noPanic ?_
     refine wp_region_held_drew (S:=fun W=>W.cell? ⟨z,24,none⟩ = some (.slice c2.body.A c2.body.n c2.body.d) ∧ W.cell? ⟨z,25,none⟩ = some (.slice c2.els.A c2.els.n c2.els.d)) (by kernel_rfl) ?_ (fun hHeld=>?_)
     · (try dsimp only)
       exact ⟨HEd.out.cell 24,HEd.out.cell 25⟩
     generalize w1.drew = wd at *
     apply tkH 0
     apply tkH 1
     apply tkH 2
     apply tkH 4
     apply tkH 5
     refine wpAnyH_ready (rs:=[3]) (by kernel_rfl) (by simp) ?_
     refine AllReadyH.cons rfl (fun K hK=>?_) AllReadyH.nil
     go_simp
     refine (HI1.out wd _ _ _ bs X HBVd.out HBRd.out (fun g hg=>by have:=HXZ.out g hg;have:=hsd;omega) (by rw [HCB.out];exact hcb)).mono ?_
     rintro e we ⟨rfl,hbg⟩
     rw [HCB.out]
     have HEe:=hid (HEd.out.far (hbg.block z (by have:=hsd;omega)))
     have HBe:=hid (HBd.out.trans (hbg.mono (by have:=hsd;omega)))
     have HBVe:=hid (HBVd.out.keep fun g hg=>hbg.block g (by have:=HXZ.out g hg;have:=hsd;omega))
     have HBRe:=hid (HBRd.out.keep fun g hg=>hbg.block g (by have:=HXZ.out g hg;have:=hsd;omega))
     have HEVe:=hid (HEVd.out.keep fun g hg=>hbg.block g (by have:=HXZ.out g hg;have:=hsd;omega))
     have HERe:=hid (HERd.out.keep fun g hg=>hbg.block g (by have:=HXZ.out g hg;have:=hsd;omega))
     have hse:=Nat.le_trans hsd hbg.size
     clear hbg HEd HBd HBVd HBRd HEVd HERd hsd
     (try dsimp only)
     first | (refine hK.out _ _ ?_ (fun hHeld=>?_)) | (go_wp2_with fail;refine hK.out _ _ ?_ (fun hHeld=>?_))
     · (try dsimp only)
       exact ⟨HEe.out.cell 24,HEe.out.cell 25⟩
     clear hK K
     (try simp only [List.getElem_toArray,List.getElem_cons_zero,List.getElem_cons_succ,Act.put,List.setIfInBounds_toArray,List.set_cons_zero,List.set_cons_succ])
     refine wpAnyH_ready (rs:=[6]) (by kernel_rfl) (by simp) ?_
     refine AllReadyH.cons rfl (fun K hK=>?_) AllReadyH.nil
     go_simp
     refine (HI2.out we _ _ _ es X HEVe.out HERe.out (fun g hg=>by have:=HXZ.out g hg;have:=hse;omega) (by rw [HCE.out];exact hce)).mono ?_
     rintro e wf ⟨rfl,hbg⟩
     rw [HCE.out]
     have HEf:=hid (HEe.out.far (hbg.block z (by have:=hse;omega)))
     have HBf:=hid (HBe.out.trans (hbg.mono (by have:=hse;omega)))
     have HBVf:=hid (HBVe.out.keep fun g hg=>hbg.block g (by have:=HXZ.out g hg;have:=hse;omega))
     have HBRf:=hid (HBRe.out.keep fun g hg=>hbg.block g (by have:=HXZ.out g hg;have:=hse;omega))
     have HEVf:=hid (HEVe.out.keep fun g hg=>hbg.block g (by have:=HXZ.out g hg;have:=hse;omega))
     have HERf:=hid (HERe.out.keep fun g hg=>hbg.block g (by have:=HXZ.out g hg;have:=hse;omega))
     have hsf:=Nat.le_trans hse hbg.size
     clear hbg HEe HBe HBVe HBRe HEVe HERe hse
     (try dsimp only)
     first | (refine hK.out _ _ ?_ (fun hHeld=>?_)) | (go_wp2_with fail;refine hK.out _ _ ?_ (fun hHeld=>?_))
     · (try dsimp only)
       exact ⟨HEf.out.cell 24,HEf.out.cell 25⟩
     clear hK K
     (try simp only [List.getElem_toArray,List.getElem_cons_zero,List.getElem_cons_succ,Act.put,List.setIfInBounds_toArray,List.set_cons_zero,List.set_cons_succ])
     apply tkH 7
     apply tkH 8
     apply tkH 9
     refine wpAnyH_done (by kernel_rfl) ?_ _
     refine NoPanic.normal ?_
     go_wp2_with fail
     exact ⟨⟨j + 1,by omega,by first | rfl | (congr 1;omega),by rw [HTK.out];exact congrArg (Value.int IntKind.i64) (by omega),HBf.out⟩,by simp [intOf];omega⟩
   · have hge : ¬ ((j : Int) < (n : Int)):=by omega
     have HE:=hid (show n + sumS (ts.take j) = cntL ts by rw [List.take_of_length_le (by rw [HLN.out];omega),HCQ.out,HLN.out])
     go_wp2_with fail
     go_ret
     exact ⟨by rw [← HE.out,Int.natCast_add];rfl,by rw [HZ.out];exact HBW.out⟩
theorem count_any (ts : List St) : CtP ts:=by
 suffices H : ∀ n (ts : List St),cntL ts ≤ n → CtP ts from H (cntL ts) ts (Nat.le_refl _)
 intro n
 induction n with
 | zero=>
   intro ts h
   refine count_step fun t ht=>?_
   have:=cntS_mem ht
   omega
 | succ n ih=>
   intro ts h
   refine count_step fun t ht=>?_
   have h1:=cntS_mem ht
   obtain ⟨kind,name,a,b,c,routes,block,tag,body,els⟩:=t
   rw [cntS] at h1
   exact ⟨ih body (by omega),ih els (by omega)⟩
end
end Go.Proofs.YtgmjpnnblhkbpaaDoor
