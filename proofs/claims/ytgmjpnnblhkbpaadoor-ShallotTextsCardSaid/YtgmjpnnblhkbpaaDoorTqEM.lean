/-
  Contract of tree.Bare. Conditions: a tree whose expressions are in form, with at most 9 * 10^10 parts each.
-/
import Derived.Test.YtgmjpnnblhkbpaaDoorTqBM
import Derived.Test.YtgmjpnnblhkbpaaDoorTqDM
import Derived.Test.YtgmjpnnblhkbpaaDoorSqM
namespace Go.Sh
open Go Go.RowKit
def updM (m : Nat → Option Value) (k : Nat) (v : Value) : Nat → Option Value:=fun j=>if j = k then some v else m j
theorem updM_self (m : Nat → Option Value) (k : Nat) (v : Value) : updM m k v k = some v:=by simp [updM]
theorem updM_other {m : Nat → Option Value} {k j : Nat} {v : Value} (h : j ≠ k) : updM m k v j = m j:=by simp [updM,h]
section
variable {P : Program} {ops : Array Oper} {md : Region.Mode} {Q : Exit → Act → World → Prop} {S : World → Prop}
set_option maxRecDepth 100000 in
theorem wpAnyH_joint1 {H ds : List Nat} {Lf : Array Bool} {fuel : Nat} {A : Act} {w0 : World} (J : (Nat → Option Value) → World → Prop) (hl : H.length = ds.length) (hnd : ds.Nodup) (hnh : H.Nodup) (hsz : ∀ d ∈ ds,d < A.tmps.size) (hds : Region.dstB ops H ds = true)
   (hS : ∀ w w',S w → Below w.heap.size w w' → S w')
   (hop : ∀ (k i : Nat) (o : Oper),H[k]? = some i → ops[i]? = some o → ∀ (a : Act) (w : World) (m : Nat → Option Value),(∀ s,s ∉ ds → a.eval (.tmp s) = A.eval (.tmp s)) → (∀ (k' d' : Nat) (v : Value),m k' = some v → ds[k']? = some d' → a.eval (.tmp d') = v) → (∀ e ∈ o.after,Region.binds md e = true → ∀ (k' : Nat),H[k']? = some e.on → ∃ v,m k' = some v) → J m w → S w → Below w0.heap.size w0 w →
     o.wp P a w (fun a' w'=>∃ v,a' = a.put o.dst v ∧ Below w.heap.size w w' ∧ J (updM m k v) w') Q)
   (hend : ∀ (x : Nat → Value) (m : Nat → Option Value) (w' : World),(∀ k,k < H.length → m k = some (x k)) → J m w' → Below w0.heap.size w0 w' → S w' → wpAnyH P md ops Q S fuel Lf ⟨setAll A.tmps ds 0 x,A.defers⟩ w') :
   ∀ (n : Nat) (rem : List Nat) (L : Array Bool) (a : Act) (w : World) (m : Nat → Option Value),Region.manyB md ops Lf n rem L = true → rem.length = n → rem.Nodup → (∀ i ∈ rem,L.getD i false = false) → (∀ i ∈ rem,i ∈ H) → a.defers = A.defers → a.tmps.size = A.tmps.size → (∀ s,s ∉ ds → a.tmps.getD s undef = A.tmps.getD s undef) →
     (∀ k i d,H[k]? = some i → ds[k]? = some d → i ∉ rem → m k = some (a.tmps.getD d undef)) → (∀ k i,H[k]? = some i → i ∈ rem → m k = none) → J m w → S w → Below w0.heap.size w0 w → wpAnyH P md ops Q S (n + fuel) L a w:=by
 intro n
 induction n with
 | zero=>
   intro rem L a w m hB hr _ _ _ hdf hts hold hval _ hJ hSw hbw
   obtain rfl:=List.eq_nil_of_length_eq_zero hr
   have hL : L = Lf:=Array.toList_inj.1 (by simpa [Region.manyB] using hB)
   subst hL
   rw [Nat.zero_add]
   have ha : a = ⟨setAll A.tmps ds 0 (fun k=>a.tmps.getD (ds.getD k 0) undef),A.defers⟩:=by
     have:=setAll_eq (T:=a.tmps) (T0:=A.tmps) hnd hts hsz hold (fun k=>a.tmps.getD (ds.getD k 0) undef) (fun k d hd=>by simp [List.getD_eq_getElem?_getD,hd])
     rw [← this,← hdf]
   rw [ha]
   refine hend _ m w (fun k hk=>?_) hJ hbw hSw
   have h1 : H[k]? = some (H.getD k 0):=by rw [List.getD_eq_getElem?_getD,List.getElem?_eq_getElem hk,Option.getD_some]
   have h2 : ds[k]? = some (ds.getD k 0):=by rw [List.getD_eq_getElem?_getD,List.getElem?_eq_getElem (by omega),Option.getD_some]
   exact hval k _ _ h1 h2 (by simp)
 | succ n ih=>
   intro rem L a w m hB hr hrn hrl hsub hdf hts hold hval hnone hJ hSw hbw
   rw [Region.manyB,Bool.and_eq_true,List.all_eq_true] at hB
   obtain ⟨hne,hall⟩:=hB
   rw [show n + 1 + fuel = (n + fuel) + 1 by omega]
   refine ⟨fun h0=>(by rw [h0] at hne;simp at hne),fun i hi=>?_⟩
   have h1:=hall i hi
   rw [Bool.and_eq_true,List.contains_iff_mem] at h1
   obtain ⟨hir,hB2⟩:=h1
   obtain ⟨k,hk,hki⟩:=List.mem_iff_getElem.1 (hsub i hir)
   have hk' : H[k]? = some i:=by rw [List.getElem?_eq_getElem hk,hki]
   obtain ⟨d,hd⟩ : ∃ d,ds[k]? = some d:=⟨_,List.getElem?_eq_getElem (by omega)⟩
   have hz:=List.all_eq_true.1 hds (i,d) (List.mem_of_getElem? (i:=k) (by rw [List.getElem?_zip_eq_some];exact ⟨hk',hd⟩))
   simp only at hz
   cases ho : ops[i]? with
   | none=>rw [ho] at hz;cases hz
   | some o=>
     rw [ho] at hz
     simp only [Bool.and_eq_true,beq_iff_eq,Option.isNone_iff_eq_none] at hz
     obtain ⟨hod,hgu⟩:=hz
     have hwant : Region.wanted o (yielded ops a.tmps) = true:=by unfold Region.wanted;rw [hgu]
     have hdz : d < a.tmps.size:=by rw [hts];exact hsz d (List.mem_of_getElem? hd)
     obtain ⟨_,o2,ho2,hall2⟩:=mem_ready.1 hi
     rw [ho] at ho2
     obtain rfl:=Option.some.inj ho2
     have hidx : ∀ k' v,m k' = some v → ∀ d',ds[k']? = some d' → a.eval (.tmp d') = v:=fun k' v hv d' hd'=>by
       have hlk : k' < H.length:=by rw [hl];exact (List.getElem?_eq_some_iff.1 hd').1
       have h3 : H[k']? = some H[k']:=List.getElem?_eq_getElem hlk
       by_cases hm : H[k'] ∈ rem
       · rw [hnone k' _ h3 hm] at hv;cases hv
       · have:=hval k' _ d' h3 hd' hm
         rw [hv] at this
         simpa [Act.eval] using (Option.some.inj this).symm
     have hstep:=hop k i o hk' ho a w m (fun s hs=>by simpa [Act.eval] using hold s hs) (fun k' d' v hv hd'=>hidx k' v hv d' hd') (fun e he hb k2 h2=>by
       have hlk : k2 < ds.length:=by rw [← hl];exact (List.getElem?_eq_some_iff.1 h2).1
       exact ⟨_,hval k2 e.on _ h2 (List.getElem?_eq_getElem hlk) fun hm=>by
         have h4:=hrl e.on hm
         rw [hall2 e he hb] at h4
         cases h4⟩) hJ hSw hbw
     unfold wpOp
     simp only [ho,hwant,if_true]
     refine Or.inl (Oper.wp_mono ?_ hstep)
     rintro a' w' ⟨v,rfl,hbw',hJ'⟩
     rw [hod]
     refine ⟨hS w w' hSw hbw',ih (rem.erase i) _ _ w' (updM m k v) hB2 (by rw [List.length_erase_of_mem hir];omega) (hrn.erase i) (fun j hj=>by
       have hji : i ≠ j:=fun h=>(List.Nodup.not_mem_erase hrn (h ▸ hj))
       rw [getD_set_ne false hji]
       exact hrl j (List.mem_of_mem_erase hj)) (fun j hj=>hsub j (List.mem_of_mem_erase hj)) (by simp [Act.put,hdf]) (by simp [Act.put,hts]) (fun s hs=>?_) (fun k2 j e hj he hnr=>?_) (fun k2 j hj hm=>?_) hJ' (hS w w' hSw hbw') (hbw.trans (hbw'.mono hbw.size))⟩
     · rw [tmps_put v hdz,if_neg (show ¬ s = d from fun e=>hs (e ▸ List.mem_of_getElem? hd))]
       exact hold s hs
     · rw [tmps_put v hdz]
       by_cases hkk : k2 = k
       · subst hkk
         rw [hd] at he
         obtain rfl:=Option.some.inj he
         rw [if_pos rfl,updM_self]
       · have hed : e ≠ d:=fun h=>by
           subst h
           exact hkk ((List.getElem?_inj (List.getElem?_eq_some_iff.1 he).1 hnd).1 (he.trans hd.symm))
         rw [if_neg hed,updM_other hkk]
         refine hval k2 j e hj he fun hm=>hnr ?_
         have hji : j ≠ i:=fun h=>by
           subst h
           exact hkk ((List.getElem?_inj (List.getElem?_eq_some_iff.1 hj).1 hnh).1 (hj.trans hk'.symm))
         exact (List.mem_erase_of_ne hji).2 hm
     · have hji : j ≠ i:=fun h=>List.Nodup.not_mem_erase hrn (h ▸ hm)
       have hkk : k2 ≠ k:=fun h=>by
         subst h
         rw [hk'] at hj
         exact hji (Option.some.inj hj).symm
       rw [updM_other hkk]
       exact hnone k2 j hj (List.mem_of_mem_erase hm)
set_option maxRecDepth 100000 in
theorem wpAnyH_joint (H ds : List Nat) (Lf : Array Bool) {n fuel : Nat} {L : Array Bool} {A : Act} {w0 : World} (J : (Nat → Option Value) → World → Prop) (hn : n = H.length + fuel) (hl : H.length = ds.length) (hnd : ds.Nodup) (hnh : H.Nodup) (hsz : ∀ d ∈ ds,d < A.tmps.size) (hds : Region.dstB ops H ds = true) (hB : Region.manyB md ops Lf H.length H L = true) (hL : (H.all fun i=>L.getD i false == false) = true)
   (hS : ∀ w w',S w → Below w.heap.size w w' → S w') (hJ : J (fun _=>none) w0) (h0 : S w0)
   (hop : ∀ (k i : Nat) (o : Oper),H[k]? = some i → ops[i]? = some o → ∀ (a : Act) (w : World) (m : Nat → Option Value),(∀ s,s ∉ ds → a.eval (.tmp s) = A.eval (.tmp s)) → (∀ (k' d' : Nat) (v : Value),m k' = some v → ds[k']? = some d' → a.eval (.tmp d') = v) → (∀ e ∈ o.after,Region.binds md e = true → ∀ (k' : Nat),H[k']? = some e.on → ∃ v,m k' = some v) → J m w → S w → Below w0.heap.size w0 w →
     o.wp P a w (fun a' w'=>∃ v,a' = a.put o.dst v ∧ Below w.heap.size w w' ∧ J (updM m k v) w') Q)
   (hend : ∀ (x : Nat → Value) (m : Nat → Option Value) (w' : World),(∀ k,k < H.length → m k = some (x k)) → J m w' → Below w0.heap.size w0 w' → S w' → wpAnyH P md ops Q S fuel Lf ⟨setAll A.tmps ds 0 x,A.defers⟩ w') :
   wpAnyH P md ops Q S n L A w0:=by
 subst hn
 exact wpAnyH_joint1 J hl hnd hnh hsz hds hS hop hend H.length H L A w0 (fun _=>none) hB rfl hnh (fun i hi=>by have:=List.all_eq_true.1 hL i hi;simpa using this) (fun _ h=>h) rfl rfl (fun _ _=>rfl) (fun k i d h _ hm=>absurd (List.mem_of_getElem? h) hm) (fun _ _ _ _=>rfl) hJ h0 (Below.refl _ _)
end
end Go.Sh
namespace Go.Proofs.YtgmjpnnblhkbpaaDoor
open Go Go.RowKit Go.Sh Tx
open Go.Lib (hid)
def DcB (d : Dc) : Prop:=ExB d.value ∧ d.places.length ≤ 90000000000 ∧ ∀ p ∈ d.places,ExB p.delay ∧ ExB p.flags
def Tq (u : Nat) (o : Option Value) (W : World) (g : Nat) : Prop:=u < g ∧ g < W.heap.size ∧ o ≠ some (.pointer (some ⟨g,0,none⟩))
def TreeAt (u : Nat) (o3 : Option Value) (e : Ex) (W : World) (mk : Q5 → Value) (o : Option Value) : Prop:=∀ v,o = some v → ∃ q : Q5,v = mk q ∧ TrV (Tq u o3 W) W [e] [q.cells]
section
variable {u : Nat} {o3 o : Option Value} {e : Ex} {W W' : World} {mk : Q5 → Value}
theorem TreeAt.keep (h : TreeAt u o3 e W mk o) (hb : Below W.heap.size W W') : TreeAt u o3 e W' mk o:=fun v hv=>by
 obtain ⟨q,h1,h2⟩:=h v hv
 exact ⟨q,h1,(h2.keep fun g hg=>hb.block g hg.2.1).mono fun g hg=>⟨hg.1,Nat.lt_of_lt_of_le hg.2.1 hb.size,hg.2.2⟩⟩
theorem TreeAt.made (h : TreeAt u o3 e W mk o) (hb : Below W.heap.size W W') : TreeAt u (some (.pointer (some ⟨W.heap.size,0,none⟩))) e W' mk o:=fun v hv=>by
 obtain ⟨q,h1,h2⟩:=h v hv
 refine ⟨q,h1,(h2.keep fun g hg=>hb.block g hg.2.1).mono fun g hg=>⟨hg.1,Nat.lt_of_lt_of_le hg.2.1 hb.size,fun h3=>?_⟩⟩
 have h4:=hg.2.1
 simp only [Option.some.injEq,Value.pointer.injEq,Addr.mk.injEq] at h3
 omega
end
def exV (q : Q5) : Value:=.agg q.cells.toArray
def J5 (u : Nat) (e : Ex) (nm : Value) (mk : Q5 → Value) (m : Nat → Option Value) (W : World) : Prop:=
 (∀ v,m 0 = some v → v = nm) ∧ TreeAt u (m 3) e W exV (m 1) ∧ TreeAt u (m 3) e W mk (m 2) ∧ ∀ v,m 3 = some v → ∃ y,v = .pointer (some ⟨y,0,none⟩) ∧ u < y ∧ DB W y DC.zero
section
variable {u : Nat} {e : Ex} {W W' : World} {nm : Value} {mk : Q5 → Value} {m : Nat → Option Value}
theorem J5.none_ : J5 u e nm mk (fun _=>none) W:=⟨fun _ h=>(by cases h),fun _ h=>(by cases h),fun _ h=>(by cases h),fun _ h=>(by cases h)⟩
theorem J5.blk (h : J5 u e nm mk m W) (hb : Below W.heap.size W W') : ∀ v,m 3 = some v → ∃ y,v = .pointer (some ⟨y,0,none⟩) ∧ u < y ∧ DB W' y DC.zero:=fun v hv=>by
 obtain ⟨y,h1,h2,h3⟩:=h.2.2.2 v hv
 exact ⟨y,h1,h2,h3.far (hb.block y (Array.getElem?_eq_some_iff.1 h3).1)⟩
theorem J5.name (h : J5 u e nm mk m W) (hb : Below W.heap.size W W') : J5 u e nm mk (updM m 0 nm) W':=by
 refine ⟨fun v hv=>?_,?_,?_,?_⟩
 · rw [updM_self] at hv;exact (Option.some.inj hv).symm
 · rw [updM_other (by decide),updM_other (by decide)];exact h.2.1.keep hb
 · rw [updM_other (by decide),updM_other (by decide)];exact h.2.2.1.keep hb
 · rw [updM_other (by decide)];exact h.blk hb
theorem J5.tree (h : J5 u e nm mk m W) (hb : Below W.heap.size W W') {q : Q5} (ht : TrV (Fr W W') W' [e] [q.cells]) (hu : u < W.heap.size) : J5 u e nm mk (updM m 1 (exV q)) W':=by
 refine ⟨?_,?_,?_,?_⟩
 · rw [updM_other (by decide)];exact h.1
 · rw [updM_other (by decide),updM_self]
   intro v hv
   refine ⟨q,(Option.some.inj hv).symm,ht.mono fun g hg=>⟨by have:=hg.1;omega,hg.2,fun h3=>?_⟩⟩
   obtain ⟨y,h4,_,h5⟩:=h.2.2.2 _ h3
   simp only [Value.pointer.injEq,Option.some.injEq,Addr.mk.injEq] at h4
   have h6:=(Array.getElem?_eq_some_iff.1 h5).1
   have:=hg.1
   omega
 · rw [updM_other (by decide),updM_other (by decide)];exact h.2.2.1.keep hb
 · rw [updM_other (by decide)];exact h.blk hb
theorem J5.build (h : J5 u e nm mk m W) {v : Value} (hv : m 1 = some v) : ∃ q,v = exV q ∧ J5 u e nm mk (updM m 2 (mk q)) W:=by
 obtain ⟨q,h1,h2⟩:=h.2.1 v hv
 refine ⟨q,h1,?_,?_,?_,?_⟩
 · rw [updM_other (by decide)];exact h.1
 · rw [updM_other (by decide),updM_other (by decide)];exact h.2.1
 · rw [updM_other (by decide),updM_self]
   intro v hv
   exact ⟨q,(Option.some.inj hv).symm,h2⟩
 · rw [updM_other (by decide)];exact h.2.2.2
theorem J5.made (h : J5 u e nm mk m W) (hb : Below W.heap.size W W') (hy : DB W' W.heap.size DC.zero) (hu : u < W.heap.size) : J5 u e nm mk (updM m 3 (.pointer (some ⟨W.heap.size,0,none⟩))) W':=by
 refine ⟨?_,?_,?_,?_⟩
 · rw [updM_other (by decide)];exact h.1
 · rw [updM_self,updM_other (by decide)];exact h.2.1.made hb
 · rw [updM_self,updM_other (by decide)];exact h.2.2.1.made hb
 · rw [updM_self]
   intro v hv
   exact ⟨_,(Option.some.inj hv).symm,hu,hy⟩
theorem J5.fin (h : J5 u e nm mk m W) {v v' : Value} (hv : m 2 = some v) (hv' : m 3 = some v') : ∃ (q : Q5) (y : Nat),v = mk q ∧ v' = .pointer (some ⟨y,0,none⟩) ∧ u < y ∧ DB W y DC.zero ∧ TrV (Fx u y W) W [e] [q.cells]:=by
 obtain ⟨q,h1,h2⟩:=h.2.2.1 v hv
 obtain ⟨y,h3,h4,h5⟩:=h.2.2.2 v' hv'
 refine ⟨q,y,h1,h3,h4,h5,h2.mono fun g hg=>⟨hg.1,hg.2.1,fun hgy=>hg.2.2 ?_⟩⟩
 rw [hv',h3,hgy]
end
def BarePost (ds : List Dc) (sl : List St) (w : World) (en : Ending) (w' : World) : Prop:=
 ∃ d q : QS,en = .returned (.agg #[.slice d.A d.n d.d,.slice q.A q.n q.d]) ∧ DcL (Fr w w') w' ds d ∧ BdV (Fr w w') w' sl q ∧ Below w.heap.size w w'
section
set_option maxHeartbeats 32000000
set_option maxRecDepth 100000
set_option maxRecDepth 100000 in
theorem Bare_any (ds : List Dc) (sl : List St) (dq bq : QS) (X : Nat → Prop) (w : World) (hd : DcL X w ds dq) (hb : BdV X w sl bq) (hX : ∀ g,X g → g < w.heap.size) (hdb : ∀ d ∈ ds,DcB d) (hsb : ∀ t ∈ sl,StB t) (hsl : sl.length ≤ 90000000000) (hnb0 : ds.length ≤ 90000000000) :
   Calls Tryd.prog 11 #[.agg #[.slice dq.A dq.n dq.d,.slice bq.A bq.n bq.d]] w (BarePost ds sl w):=by
 obtain ⟨dcs,hdv,hdr,_⟩:=hd
 obtain ⟨bcs,hbv,hbr,_⟩:=hb
 have hln : ds.length = dq.n:=by have h2:=hdv.len;have h3:=hdr.1;omega
 have HLN:=hid hln
 have HDB:=hid hdb
 have HSB:=hid hsb
 have HSL:=hid hsl
 have hnb : dq.n ≤ 90000000000:=by omega
 clear hnb0
 have e1 : (w.alloc (.cells #[.slice dq.A dq.n dq.d,.slice bq.A bq.n bq.d] 25)).heap.size = w.heap.size + 1:=Array.size_push _
 have e2 : ((w.alloc (.cells #[.slice dq.A dq.n dq.d,.slice bq.A bq.n bq.d] 25)).alloc (.cells #[.slice none 0 0,.slice none 0 0] 25)).heap.size = (w.alloc (.cells #[.slice dq.A dq.n dq.d,.slice bq.A bq.n bq.d] 25)).heap.size + 1:=Array.size_push _
 have e3 : (((w.alloc (.cells #[.slice dq.A dq.n dq.d,.slice bq.A bq.n bq.d] 25)).alloc (.cells #[.slice none 0 0,.slice none 0 0] 25)).alloc (.cells #[.slice none 0 0,.slice none 0 0] 25)).heap.size = ((w.alloc (.cells #[.slice dq.A dq.n dq.d,.slice bq.A bq.n bq.d] 25)).alloc (.cells #[.slice none 0 0,.slice none 0 0] 25)).heap.size + 1:=Array.size_push _
 rw [e1] at e2
 rw [e2] at e3
 have b1 : Below w.heap.size w (w.alloc (.cells #[.slice dq.A dq.n dq.d,.slice bq.A bq.n bq.d] 25)):=(Below.refl _ w).alloc (Nat.le_refl _) _
 have b2 : Below (w.heap.size + 1) (w.alloc (.cells #[.slice dq.A dq.n dq.d,.slice bq.A bq.n bq.d] 25)) ((w.alloc (.cells #[.slice dq.A dq.n dq.d,.slice bq.A bq.n bq.d] 25)).alloc (.cells #[.slice none 0 0,.slice none 0 0] 25)):=(Below.refl _ _).alloc (by rw [e1];exact Nat.le_refl _) _
 have b3 : Below (w.heap.size + 2) ((w.alloc (.cells #[.slice dq.A dq.n dq.d,.slice bq.A bq.n bq.d] 25)).alloc (.cells #[.slice none 0 0,.slice none 0 0] 25)) (((w.alloc (.cells #[.slice dq.A dq.n dq.d,.slice bq.A bq.n bq.d] 25)).alloc (.cells #[.slice none 0 0,.slice none 0 0] 25)).alloc (.cells #[.slice none 0 0,.slice none 0 0] 25)):=(Below.refl _ _).alloc (by rw [e2];exact Nat.le_refl _) _
 have HB1:=hid (show Below w.heap.size w (((w.alloc (.cells #[.slice dq.A dq.n dq.d,.slice bq.A bq.n bq.d] 25)).alloc (.cells #[.slice none 0 0,.slice none 0 0] 25)).alloc (.cells #[.slice none 0 0,.slice none 0 0] 25)) from (b1.trans (b2.mono (Nat.le_succ _))).trans (b3.mono (by omega)))
 have HQ1:=hid (show SoB (((w.alloc (.cells #[.slice dq.A dq.n dq.d,.slice bq.A bq.n bq.d] 25)).alloc (.cells #[.slice none 0 0,.slice none 0 0] 25)).alloc (.cells #[.slice none 0 0,.slice none 0 0] 25)) w.heap.size dq bq from SoB.far (SoB.far (show SoB (w.alloc (.cells #[.slice dq.A dq.n dq.d,.slice bq.A bq.n bq.d] 25)) w.heap.size dq bq from heap_alloc_new w _) (b2.block w.heap.size (Nat.lt_succ_self _))) (b3.block w.heap.size (by omega)))
 have hz1:=heap_alloc_new (w.alloc (.cells #[.slice dq.A dq.n dq.d,.slice bq.A bq.n bq.d] 25)) (.cells #[.slice none 0 0,.slice none 0 0] 25)
 rw [e1] at hz1
 have HE1:=hid (show SoB (((w.alloc (.cells #[.slice dq.A dq.n dq.d,.slice bq.A bq.n bq.d] 25)).alloc (.cells #[.slice none 0 0,.slice none 0 0] 25)).alloc (.cells #[.slice none 0 0,.slice none 0 0] 25)) (w.heap.size + 1) .zero .zero from SoB.far (show SoB ((w.alloc (.cells #[.slice dq.A dq.n dq.d,.slice bq.A bq.n bq.d] 25)).alloc (.cells #[.slice none 0 0,.slice none 0 0] 25)) (w.heap.size + 1) .zero .zero from hz1) (b3.block (w.heap.size + 1) (by omega)))
 have ht1:=heap_alloc_new ((w.alloc (.cells #[.slice dq.A dq.n dq.d,.slice bq.A bq.n bq.d] 25)).alloc (.cells #[.slice none 0 0,.slice none 0 0] 25)) (.cells #[.slice none 0 0,.slice none 0 0] 25)
 rw [e2] at ht1
 have HT1:=hid (show SoB (((w.alloc (.cells #[.slice dq.A dq.n dq.d,.slice bq.A bq.n bq.d] 25)).alloc (.cells #[.slice none 0 0,.slice none 0 0] 25)).alloc (.cells #[.slice none 0 0,.slice none 0 0] 25)) (w.heap.size + 2) .zero .zero from ht1)
 have hs1 : w.heap.size + 3 ≤ (((w.alloc (.cells #[.slice dq.A dq.n dq.d,.slice bq.A bq.n bq.d] 25)).alloc (.cells #[.slice none 0 0,.slice none 0 0] 25)).alloc (.cells #[.slice none 0 0,.slice none 0 0] 25)).heap.size:=by rw [e3];exact Nat.le_refl _
 have HV:=hid (show DcV X _ ds dcs from hdv.keep fun g hg=>HB1.out.block g (hX g hg))
 have HR:=hid (show RP X _ 9 dq.A dq.n dcs from hdr.keep fun g hg=>HB1.out.block g (hX g hg))
 have HSV:=hid (show StV X _ sl bcs from hbv.keep fun g hg=>HB1.out.block g (hX g hg))
 have HSR:=hid (show RP X _ 26 bq.A bq.n bcs from hbr.keep fun g hg=>HB1.out.block g (hX g hg))
 obtain ⟨z0,hz0⟩ : ∃ z0,w.heap.size = z0:=⟨_,rfl⟩
 have HZ:=hid hz0
 have HX:=hid (show ∀ g,X g → g < z0 from fun g hg=>by rw [← hz0];exact hX g hg)
 clear hdv hdr hbv hbr hX hln hdb hsb hsl b1 b2 b3 hz1 ht1 e3
 go_enter Tryd.func11,Tryd.ntmps11
 go_upto_region 2 with fail
 (try rw [e2])
 (try rw [e1])
 rw [hz0] at HB1 HQ1 HE1 HT1 hs1
 (try rw [hz0])
 clear hz0 e1 e2
 generalize (((w.alloc (.cells #[.slice dq.A dq.n dq.d,.slice bq.A bq.n bq.d] 25)).alloc (.cells #[.slice none 0 0,.slice none 0 0] 25)).alloc (.cells #[.slice none 0 0,.slice none 0 0] 25)) = w1 at *
 obtain ⟨z,hz⟩ : ∃ z,z0 + 1 = z:=⟨_,rfl⟩
 obtain ⟨t,ht⟩ : ∃ t,z0 + 2 = t:=⟨_,rfl⟩
 have hz0z : z0 < z:=by omega
 have hzt : z < t:=by omega
 have hs2 : t + 1 ≤ w1.heap.size:=by omega
 rw [hz] at HE1
 rw [ht] at HT1
 (try rw [ht])
 (try rw [hz])
 clear hz ht hs1
 have k0:=HQ1.out.c0
 go_wp2_with fail
 clear k0
 go_loopw [12] (fun i wr=>∃ (j : Nat) (A' : Option Addr) (c' : Nat),j ≤ dq.n ∧ i = .int .i64 (j : Int) ∧ TL dcR 58 (t + 1) wr (.slice A' j c') j (ds.take j) ∧ SoB wr t ⟨A',j,c'⟩ .zero ∧ Below t w1 wr ∧ t + 1 ≤ wr.heap.size) (fun i _=>dq.n - (intOf i).toNat)
 case atStart=>exact ⟨0,none,0,by omega,by first | rfl | simp,TL.nil,HT1.out,Below.refl _ _,hs2⟩
 case round=>
   obtain ⟨j,A1,c1,hj,rfl,htl,hto,hb,hs⟩:=hrel
   have HTL:=hid htl
   have HTO:=hid hto
   have HBW:=hid hb
   have HRr:=hid ((HR.out.rr (B:=z0) HX.out).below (hb.mono (by omega)))
   have HVr:=hid (HV.out.keep fun g hg=>hb.block g (by have:=HX.out g hg;omega))
   clear htl hto hb
   by_cases hlt : j < dq.n
   · have hji : (j : Int) < (dq.n : Int):=by omega
     have hwj : IntKind.i64.wrap ((j : Int) + 1) = (j : Int) + 1:=by rw [IntKind.wrap_i64];omega
     obtain ⟨ab,off,cs,hA,hbB,hcs,hcl,hrg⟩:=HRr.out.at_ hlt
     obtain ⟨d,c,hd,rfl,hdv⟩:=HVr.out.at_ hcs
     have HTK:=hid (show ds.take (j + 1) = ds.take j ++ [d] by rw [List.take_add_one,hd];rfl)
     obtain ⟨qv,qp,qq⟩:=HDB.out d (List.mem_of_getElem? hd)
     obtain ⟨hki,hna,htv,ps,hpv,hpr⟩:=hdv.inv
     obtain ⟨kind,name,ev,places⟩:=d
     dsimp only at qv qp qq hki hna htv hpv
     have HKI:=hid hki
     have HNA:=hid hna
     have HQV:=hid qv
     have HQQ:=hid qq
     have hpn : c.places.n = places.length:=by have h1:=hpr.1;have h2:=hpv.len;omega
     have HPN:=hid hpn
     have hpb : c.places.n ≤ 90000000000:=by omega
     have hX2 : ∀ g,X g → g < wr.heap.size:=fun g hg=>by have:=HX.out g hg;omega
     have hi1:=hid (show (Tryd.prog.info? 58).map (·.size) = some c.cells.length from infoDc c)
     have hi2:=hid (infoDc c)
     have hx1:=hid (DC.oneA c)
     have hXs : c.cells.toArray.size = DC.zero.cells.toArray.size:=rfl
     obtain ⟨Y,hY⟩ : ∃ Y : List Value,c.cells = Y:=⟨_,rfl⟩
     have hba : Below wr.heap.size wr (wr.alloc (.cells Y.toArray 58)):=(Below.refl _ wr).alloc (Nat.le_refl _) _
     have HU1:=hid (show DB (wr.alloc (.cells Y.toArray 58)) wr.heap.size c by rw [← hY];exact heap_alloc_new wr _)
     have HTV:=hid (htv.keep fun g hg=>hba.block g (hX2 g hg))
     have HPV:=hid (hpv.keep fun g hg=>hba.block g (hX2 g hg))
     have HPR:=hid (hpr.keep fun g hg=>hba.block g (hX2 g hg))
     have HTL1:=hid (HTL.out.keep hba.size fun g _ hg=>hba.block g hg)
     have HTO1:=hid (HTO.out.far (hba.block t (by omega)))
     have HBA:=hid (HBW.out.trans (hba.mono (by omega)))
     have hsb1 : (wr.alloc (.cells Y.toArray 58)).heap.size = wr.heap.size + 1:=Array.size_push _
     rw [hY] at hrg hi1 hi2 hx1 hXs
     clear hcl hcs hd hdv hki hna htv hpv hpr qv qp qq hY hpn HRr HVr
     rw [hA]
     go_upto_region 5 with (first | (refine wl_load_mid (by rfl) 58 (.tmp 14) rfl ab (off + j * 9) rfl Y _ hrg Tryd.underlying58 rfl hi1.out ?_) | (refine wl_store_all (by rfl) 58 (.tmp 5) (.tmp 15) rfl wr.heap.size Y.toArray rfl rfl DC.zero.cells.toArray _ (heap_alloc_new wr _) hXs hi2.out hx1.out ?_))
     rw [alloc_setRow]
     have hXu : ∀ g,X g → g < wr.heap.size:=hX2
     obtain ⟨u,hu⟩ : ∃ u,wr.heap.size = u:=⟨_,rfl⟩
     have HXU:=hid (show ∀ g,X g → g < u from fun g hg=>by rw [← hu];exact hX2 g hg)
     rw [hu] at HU1 hs hsb1
     (try rw [hu])
     clear hu hba hrg hX2 hXu hi1 hi2 hx1 hXs hbB HTL HTO HBW
     generalize (wr.alloc (.cells Y.toArray 58)) = wb at *
     have HSZ:=hid hsb1
     have hsd : u + 1 ≤ wb.drew.heap.size:=Nat.le_of_eq hsb1.symm
     clear hsb1
     have HB1:=hid (show Below (u + 1) wb wb from Below.refl _ _)
     have HTV1:=HTV
     have HPV1:=HPV
     have HPR1:=HPR
     have hs1 : u + 1 ≤ wb.heap.size:=by have:=HSZ.out;omega
     clear HTV HPV HPR hsd
     have HTVd:=hid (show TrV X wb.drew [ev] [c.value.cells] from HTV1.out.keep fun _ _=>rfl)
     have HPVd:=hid (show PlV X wb.drew places ps from HPV1.out.keep fun _ _=>rfl)
     have HPRd:=hid (show RP X wb.drew 12 c.places.A c.places.n ps from HPR1.out.keep fun _ _=>rfl)
     have HUd:=hid (show DB wb.drew u c from HU1.out)
     have HBd:=hid (HB1.out.drew)
     have hsd : u + 1 ≤ wb.drew.heap.size:=hs1
     clear HTV1 HPV1 HPR1 HU1 HB1 hs1
     refine wp_region_noPanic ?_
     refine wp_region_held_drew (S:=fun W=>W.cell? ⟨u,0,none⟩ = some (.string c.kind) ∧ W.cell? ⟨u,1,none⟩ = some (.string c.name.t) ∧ W.cell? ⟨u,2,none⟩ = some (.int .i64 c.name.a) ∧ W.cell? ⟨u,3,none⟩ = some (.string c.value.o) ∧ W.cell? ⟨u,4,none⟩ = some (.int .i64 c.value.m) ∧ W.cell? ⟨u,5,none⟩ = some (.string c.value.t) ∧ W.cell? ⟨u,6,none⟩ = some (.int .i64 c.value.a) ∧ W.cell? ⟨u,7,none⟩ = some (.slice c.value.A c.value.n c.value.d)) (by kernel_rfl) ?_ (fun hHeld=>?_)
     · (try dsimp only)
       exact ⟨HUd.out.cell 0,HUd.out.cell 1,HUd.out.cell 2,HUd.out.cell 3,HUd.out.cell 4,HUd.out.cell 5,HUd.out.cell 6,HUd.out.cell 7⟩
     generalize wb.drew = wd at *
     apply tkH 0
     apply tkH 1
     apply tkH 2
     apply tkH 3
     apply tkH 5
     apply tkH 6
     refine wpAnyH_joint [4,7,8,9] [20,23,24,6] #[true,true,true,true,true,true,true,true,true,true,false] (fuel:=1) (J5 u ev (.agg #[.string c.name.t,.int .i64 0]) (fun q : Q5=>.agg #[.string c.kind,.string c.name.t,.int .i64 0,.string q.o,.int .i64 q.m,.string q.t,.int .i64 q.a,.slice q.A q.n q.d,.slice none 0 0])) (by rfl) rfl (by decide) (by decide) (by show ∀ d ∈ [20,23,24,6],d < 60;decide) (by kernel_rfl) (by kernel_rfl) (by kernel_rfl) ?_ J5.none_ hHeld ?_ ?_
     · rintro w' w'' ⟨h0,h1,h2,h3,h4,h5,h6,h7⟩ hb
       exact ⟨(hb.cell (p:=⟨u,0,none⟩) (lt_cell h0)).trans h0,(hb.cell (p:=⟨u,1,none⟩) (lt_cell h1)).trans h1,(hb.cell (p:=⟨u,2,none⟩) (lt_cell h2)).trans h2,(hb.cell (p:=⟨u,3,none⟩) (lt_cell h3)).trans h3,(hb.cell (p:=⟨u,4,none⟩) (lt_cell h4)).trans h4,(hb.cell (p:=⟨u,5,none⟩) (lt_cell h5)).trans h5,(hb.cell (p:=⟨u,6,none⟩) (lt_cell h6)).trans h6,(hb.cell (p:=⟨u,7,none⟩) (lt_cell h7)).trans h7⟩
     · intro k i o hk ho a w' m ha hm hw hJ hS hb
       match k,i,hk,ho with
       | 0,i,hk,ho=>
         obtain rfl:=Option.some.inj hk
         obtain rfl:=Option.some.inj ho
         have et : a.eval (.tmp 19) = .agg #[.string c.name.t,.int .i64 c.name.a]:=ha 19 (by decide)
         go_simp
         rw [ev_get et]
         refine (bareRef_any c.name.t c.name.a w').mono ?_
         rintro e w2 ⟨rfl,hb2⟩
         exact ⟨_,rfl,hb2,hJ.name hb2⟩
       | 1,i,hk,ho=>
         obtain rfl:=Option.some.inj hk
         obtain rfl:=Option.some.inj ho
         have et : a.eval (.tmp 22) = .agg #[.string c.value.o,.int .i64 c.value.m,.string c.value.t,.int .i64 c.value.a,.slice c.value.A c.value.n c.value.d]:=ha 22 (by decide)
         go_simp
         rw [ev_get et]
         refine (bareExpr_any ev w' _ _ _ _ _ _ _ X (HTVd.out.keep fun g hg=>hb.block g (by have:=HXU.out g hg;omega)) (fun g hg=>by have:=HXU.out g hg;have:=hb.size;omega) HQV.out.1 HQV.out.2).mono ?_
         rintro e w2 ⟨oa,ta,ma,aa,Aa,na,da,rfl,htr,hb2⟩
         exact ⟨_,rfl,hb2,hJ.tree hb2 (q:=Q5.mk oa ma ta aa Aa na da) htr (by have:=hb.size;omega)⟩
       | 2,i,hk,ho=>
         obtain rfl:=Option.some.inj hk
         obtain rfl:=Option.some.inj ho
         have e17 : a.eval (.tmp 17) = .string c.kind:=ha 17 (by decide)
         obtain ⟨v0,hv0⟩:=hw ⟨4,.data⟩ (by simp) rfl 0 rfl
         obtain ⟨v1,hv1⟩:=hw ⟨7,.data⟩ (by simp) rfl 1 rfl
         obtain rfl:=hJ.1 v0 hv0
         obtain ⟨q,rfl,hJ2⟩:=hJ.build hv1
         have e20:=hm 0 20 _ hv0 rfl
         have e23:=hm 1 23 _ hv1 rfl
         have HBT : Tryd.prog.built 58 [(0,.string c.kind),(1,.agg #[.string c.name.t,.int .i64 0]),(2,exV q)] = some #[.string c.kind,.string c.name.t,.int .i64 0,.string q.o,.int .i64 q.m,.string q.t,.int .i64 q.a,.slice q.A q.n q.d,.slice none 0 0]:=by kernel_rfl
         refine wp_litT 58 [(0,.tmp 17),(1,.tmp 20),(2,.tmp 23)] rfl [(0,.string c.kind),(1,.agg #[.string c.name.t,.int .i64 0]),(2,exV q)] (by simp only [List.map_cons,List.map_nil,e17,e20,e23]) _ HBT ⟨_,rfl,Below.refl _ _,hJ2⟩
       | 3,i,hk,ho=>
         obtain rfl:=Option.some.inj hk
         obtain rfl:=Option.some.inj ho
         have hal:=(Below.refl _ w').alloc (Nat.le_refl _) (.cells DC.zero.cells.toArray 58)
         have hJ2:=hJ.made hal (heap_alloc_new w' _) (by have:=hb.size;omega)
         go_simp
         exact ⟨_,rfl,hal,hJ2⟩
       | k + 4,i,hk,ho=>simp at hk
     intro x m we hx hJ hbg hHeld2
     obtain ⟨x0,hx0⟩ : ∃ x0,x 0 = x0:=⟨_,rfl⟩
     obtain ⟨x1,hx1⟩ : ∃ x1,x 1 = x1:=⟨_,rfl⟩
     obtain ⟨⟨oa,ma,ta,aa,Aa,na,da⟩,y,x2,x3,huy,hye,htr⟩:=hJ.fin (hx 2 (by decide)) (hx 3 (by decide))
     simp only [setAll,hx0,hx1,x2,x3,Nat.zero_add,Nat.reduceAdd,List.setIfInBounds_toArray,List.set_cons_zero,List.set_cons_succ]
     have HYE:=hid hye
     have hye1 : y + 1 ≤ we.heap.size:=(Array.getElem?_eq_some_iff.1 hye).1
     clear hHeld hx hx0 hx1 x2 x3 hye hJ
     have hHeld:=hHeld2
     clear hHeld2
     clear HTVd
     have HPVe:=hid (HPVd.out.keep fun g hg=>hbg.block g (by have:=HXU.out g hg;have:=hsd;omega))
     have HPRe:=hid (HPRd.out.keep fun g hg=>hbg.block g (by have:=HXU.out g hg;have:=hsd;omega))
     have HUe:=hid (HUd.out.far (hbg.block u (by have:=hsd;omega)))
     have HBe:=hid (HBd.out.trans (hbg.mono (by have:=hsd;omega)))
     have hse:=Nat.le_trans hsd hbg.size
     clear hbg HPVd HPRd HUd HBd hsd
     refine wpAnyH_ready (rs:=[10]) (by kernel_rfl) (by simp) ?_
     refine AllReadyH.cons rfl (fun K hK=>?_) AllReadyH.nil
     refine wp_store_allT 58 (.tmp 6) (.tmp 24) rfl y (DC.mk c.kind (Q2.mk c.name.t 0) (Q5.mk oa ma ta aa Aa na da) QS.zero).cells.toArray rfl rfl DC.zero.cells.toArray _ HYE.out rfl (infoDc _) (DC.oneA _) ?_
     have hfs : ∀ g,g ≠ y → (we.setRow y (DC.mk c.kind (Q2.mk c.name.t 0) (Q5.mk oa ma ta aa Aa na da) QS.zero).cells.toArray).heap[g]? = we.heap[g]?:=fun g hg=>setRow_other we y g _ hg
     have hbs:=below_setRow (Below.refl y we) (Nat.le_refl y) (DC.mk c.kind (Q2.mk c.name.t 0) (Q5.mk oa ma ta aa Aa na da) QS.zero).cells.toArray
     have HPVf:=hid (HPVe.out.keep fun g hg=>hfs g (by have:=HXU.out g hg;omega))
     have HPRf:=hid (HPRe.out.keep fun g hg=>hfs g (by have:=HXU.out g hg;omega))
     have HNef:=hid ((htr.keep fun g hg=>hfs g hg.2.2).mono fun g hg=>hg.more hbs.size)
     have HUf:=hid (HUe.out.far (hfs u (by omega)))
     have HBf:=hid (HBe.out.trans (hbs.mono (by omega)))
     have HYf:=hid (show DB (we.setRow y (DC.mk c.kind (Q2.mk c.name.t 0) (Q5.mk oa ma ta aa Aa na da) QS.zero).cells.toArray) y (DC.mk c.kind (Q2.mk c.name.t 0) (Q5.mk oa ma ta aa Aa na da) QS.zero) from setRow_heap we y _ _ _ _ HYE.out)
     have hsf:=Nat.le_trans hye1 hbs.size
     clear hfs hbs HYE htr hye1 HPVe HPRe HUe HBe hse
     refine hK.out _ _ ?_ (fun hHeld=>?_)
     · (try dsimp only)
       exact ⟨HUf.out.cell 0,HUf.out.cell 1,HUf.out.cell 2,HUf.out.cell 3,HUf.out.cell 4,HUf.out.cell 5,HUf.out.cell 6,HUf.out.cell 7⟩
     clear hK K
     generalize (we.setRow y (DC.mk c.kind (Q2.mk c.name.t 0) (Q5.mk oa ma ta aa Aa na da) QS.zero).cells.toArray) = wf at *
     (try simp only [List.getElem_toArray,List.getElem_cons_zero,List.getElem_cons_succ,Act.put,List.setIfInBounds_toArray,List.set_cons_zero,List.set_cons_succ])
     refine wpAnyH_done (by kernel_rfl) ?_ _
     refine NoPanic.normal ?_
     (try clear hHeld)
     have y8:=HUf.out.cP
     obtain ⟨pA,hpA⟩ : ∃ pA,c.places.A = pA:=⟨_,rfl⟩
     obtain ⟨rn,hrn⟩ : ∃ rn,c.places.n = rn:=⟨_,rfl⟩
     have HRA:=hid hpA
     have HRn:=hid hrn
     have HRN:=hid (show rn = places.length by rw [← hrn];exact HPN.out)
     rw [hpA,hrn] at y8
     rw [hrn] at hpb
     clear hpA hrn HPN
     go_wp2_with fail
     clear y8
     obtain ⟨wz,hwz⟩ : ∃ wz,wz = wr:=⟨_,rfl⟩
     subst hwz
     obtain ⟨lo,hlo⟩ : ∃ lo,wf.heap.size = lo:=⟨_,rfl⟩
     have hyl : y + 1 ≤ lo:=by omega
     obtain ⟨wL,hwL⟩ : ∃ wL,wL = wf:=⟨_,rfl⟩
     have HNem:=hid (show TrV (Fx u y wL) wf [ev] [[.string oa,.int .i64 ma,.string ta,.int .i64 aa,.slice Aa na da]] by rw [hwL];exact HNef.out)
     clear HNef
     have HNef:=HNem
     clear HNem
     have hsL : wL.heap.size = lo:=by rw [hwL];exact hlo
     have hsl : wL.heap.size ≤ lo:=Nat.le_of_eq hsL
     have hlm : lo ≤ wf.heap.size:=Nat.le_of_eq hlo.symm
     have HSL:=hid hsL
     clear hwL hlo hsL
     go_loopw [28] (fun i wx=>∃ (q : Nat) (A2 : Option Addr) (c2 : Nat),q ≤ rn ∧ i = .int .i64 (q : Int) ∧ PlV X wx places ps ∧ RP X wx 12 c.places.A c.places.n ps ∧ TrV (Fx u y wL) wx [ev] [[.string oa,.int .i64 ma,.string ta,.int .i64 aa,.slice Aa na da]] ∧ DB wx y (DC.mk c.kind (Q2.mk c.name.t 0) (Q5.mk oa ma ta aa Aa na da) (QS.mk A2 q c2)) ∧ TL plR 88 lo wx (.slice A2 q c2) q (places.take q) ∧ DB wx u c ∧ Below (u + 1) wb wx ∧ y + 1 ≤ wx.heap.size ∧ lo ≤ wx.heap.size) (fun i _=>rn - (intOf i).toNat)
     case atStart=>exact ⟨0,none,0,by omega,by first | rfl | simp,HPVf.out,HPRf.out,HNef.out,HYf.out,TL.nil,HUf.out,HBf.out,hsf,hlm⟩
     case round=>
       obtain ⟨wx,hwx⟩ : ∃ wx,wx = wr:=⟨_,rfl⟩
       subst hwx
       obtain ⟨q,A2,c2,hq,rfl,kHPV,kHPR,kHNe,kHY,kHR,kHU,kHB,hs0,hl0⟩:=hrel
       clear HPVf HPRf HNef HYf HUf HBf hsf hlm
       have HPV0:=hid kHPV
       have HPR0:=hid kHPR
       have HNe0:=hid kHNe
       have HY0:=hid kHY
       have HRL0:=hid kHR
       have HU0:=hid kHU
       have HB0:=hid kHB
       clear kHPV kHPR kHNe kHY kHR kHU kHB
       by_cases hlq : q < rn
       · have hqi : (q : Int) < (rn : Int):=by omega
         have hwq : IntKind.i64.wrap ((q : Int) + 1) = (q : Int) + 1:=by rw [IntKind.wrap_i64];omega
         have hrrx:=HPR0.out.rr (B:=u) HXU.out
         rw [HRA.out,HRn.out] at hrrx
         obtain ⟨rb,ro,cs,hAp,hrbB,hcs,hcl,hrg⟩:=hrrx.at_ hlq
         obtain ⟨pl,qv,dv,fv,hx,rfl,hnd,htd,htf⟩:=HPV0.out.at_ hcs
         subst hAp
         have HTQ:=hid (show places.take (q + 1) = places.take q ++ [pl] by rw [List.take_add_one,hx];rfl)
         obtain ⟨hq1,hq2⟩:=HQQ.out pl (List.mem_of_getElem? hx)
         have HQ1p:=hid hq1
         have HQ2p:=hid hq2
         have HND:=hid hnd
         obtain ⟨Y,hY⟩ : ∃ Y : List Value,qv.cells ++ dv.cells ++ fv.cells = Y:=⟨_,rfl⟩
         have hbg : Below wx.heap.size wx (wx.alloc (.cells Y.toArray 88)):=(Below.refl _ wx).alloc (Nat.le_refl _) _
         have HV1:=hid (show PB (wx.alloc (.cells Y.toArray 88)) wx.heap.size qv dv fv by rw [← hY];exact heap_alloc_new wx _)
         have hv1 : wx.heap.size + 1 ≤ (wx.alloc (.cells Y.toArray 88)).heap.size:=Nat.le_of_eq (Array.size_push _).symm
         have HTD0:=hid htd
         have HTF0:=hid htf
         have HOV:=hid (show ∀ v,v = wx.heap.size → (Value.slice A2 q c2).ownBlock ≠ some v from fun v hv h=>by have:=HRL0.out.lt h;omega)
         have hi1:=hid (show (Tryd.prog.info? 88).map (·.size) = some Y.length by rw [← hY];exact infoPl qv dv fv)
         have hi2:=hid (show (Tryd.prog.info? 88).map (·.size) = some Y.toArray.size by rw [← hY];exact infoPl qv dv fv)
         have hx1:=hid (show ∀ v ∈ Y.toArray.toList,v.oneCell' = true by rw [← hY];exact oneAPl qv dv fv)
         obtain ⟨ZC,hZC⟩ : ∃ ZC : Array Value,((Q2.zero.cells ++ Q5.zero.cells ++ Q5.zero.cells).toArray) = ZC:=⟨_,rfl⟩
         have hXs : Y.toArray.size = ZC.size:=by rw [← hY,← hZC];rfl
         have hrg2 : wx.rangeAt rb (ro + q * 12) Y:=by rw [← hY];exact hrg
         clear hcl hcs hx hnd htd htf hrg hrrx hY hq1 hq2
         go_upto_region 9 with (first | (refine wl_load_mid (by rfl) 88 (.tmp 30) rfl rb (ro + q * 12) rfl Y _ hrg2 Tryd.underlying88 rfl hi1.out ?_) | (refine wl_store_all (by rfl) 88 (.tmp 8) (.tmp 31) rfl wx.heap.size Y.toArray rfl rfl ZC _ (by rw [← hZC];exact heap_alloc_new wx _) hXs hi2.out hx1.out ?_))
         rw [alloc_setRow]
         clear hi1 hi2 hx1 hXs hrg2 hZC
         have HPV1:=hid (HPV0.out.keep fun g hg=>hbg.block g (by have:=HXU.out g hg;have:=hs0;omega))
         have HPR1:=hid (HPR0.out.keep fun g hg=>hbg.block g (by have:=HXU.out g hg;have:=hs0;omega))
         have HTD1:=hid (HTD0.out.keep fun g hg=>hbg.block g (by have:=HXU.out g hg;have:=hs0;omega))
         have HTF1:=hid (HTF0.out.keep fun g hg=>hbg.block g (by have:=HXU.out g hg;have:=hs0;omega))
         have HNe1:=hid (HNe0.out.keep fun g hg=>hbg.block g (by have:=hg.2.1;omega))
         have HY1:=hid (HY0.out.far (hbg.block y (by have:=hs0;omega)))
         have HRL1:=hid (HRL0.out.keep hbg.size fun g _ hg=>hbg.block g hg)
         have HU1:=hid (HU0.out.far (hbg.block u (by have:=hs0;omega)))
         have HB1:=hid (HB0.out.trans (hbg.mono (by have:=hs0;omega)))
         have hs1:=Nat.le_trans hs0 hbg.size
         clear hbg HPV0 HPR0 HTD0 HTF0 HNe0 HY0 HRL0 HU0 HB0 hs0
         obtain ⟨v,hv⟩ : ∃ v,wx.heap.size = v:=⟨_,rfl⟩
         have hlv : lo ≤ v:=by omega
         have HOU:=hid (HOV.out v hv.symm)
         rw [hv] at HV1 hv1 ⊢
         clear hv HOV hl0
         generalize (wx.alloc (.cells Y.toArray 88)) = w1 at *
         have HPV2:=hid (show PlV X w1.drew places ps from HPV1.out.keep fun _ _=>rfl)
         have HPR2:=hid (show RP X w1.drew 12 c.places.A c.places.n ps from HPR1.out.keep fun _ _=>rfl)
         have HTD2:=hid (show TrV X w1.drew [pl.delay] [dv.cells] from HTD1.out.keep fun _ _=>rfl)
         have HTF2:=hid (show TrV X w1.drew [pl.flags] [fv.cells] from HTF1.out.keep fun _ _=>rfl)
         have HNe2:=hid (show TrV (Fx u y wL) w1.drew [ev] [[.string oa,.int .i64 ma,.string ta,.int .i64 aa,.slice Aa na da]] from HNe1.out.keep fun _ _=>rfl)
         have HY2:=hid (show DB w1.drew y (DC.mk c.kind (Q2.mk c.name.t 0) (Q5.mk oa ma ta aa Aa na da) (QS.mk A2 q c2)) from HY1.out)
         have HRL2:=hid (show TL plR 88 lo w1.drew (.slice A2 q c2) q (places.take q) from HRL1.out.keep (Nat.le_refl _) fun _ _ _=>rfl)
         have HU2:=hid (show DB w1.drew u c from HU1.out)
         have HB2:=hid (HB1.out.drew)
         have hs2 : y + 1 ≤ w1.drew.heap.size:=hs1
         clear HPV1 HPR1 HTD1 HTF1 HNe1 HY1 HRL1 HU1 HB1 hs1
         have HV2:=hid (show PB w1.drew v qv dv fv from HV1.out)
         have hv2 : v + 1 ≤ w1.drew.heap.size:=hv1
         clear HV1 hv1
         refine wp_region_noPanic ?_
         refine wp_region_until (S:=fun W=>W.cell? ⟨y,8,none⟩ = some (.slice A2 q c2) ∧ W.cell? ⟨v,0,none⟩ = some (.string qv.t) ∧ W.cell? ⟨v,1,none⟩ = some (.int .i64 qv.a) ∧ W.cell? ⟨v,2,none⟩ = some (.string dv.o) ∧ W.cell? ⟨v,3,none⟩ = some (.int .i64 dv.m) ∧ W.cell? ⟨v,4,none⟩ = some (.string dv.t) ∧ W.cell? ⟨v,5,none⟩ = some (.int .i64 dv.a) ∧ W.cell? ⟨v,6,none⟩ = some (.slice dv.A dv.n dv.d) ∧ W.cell? ⟨v,7,none⟩ = some (.string fv.o) ∧ W.cell? ⟨v,8,none⟩ = some (.int .i64 fv.m) ∧ W.cell? ⟨v,9,none⟩ = some (.string fv.t) ∧ W.cell? ⟨v,10,none⟩ = some (.int .i64 fv.a) ∧ W.cell? ⟨v,11,none⟩ = some (.slice fv.A fv.n fv.d)) 15 (by kernel_rfl) ?_ (fun hHeld=>?_)
         · (try dsimp only)
           exact ⟨HY2.out.cell 8,HV2.out.cell 0,HV2.out.cell 1,HV2.out.cell 2,HV2.out.cell 3,HV2.out.cell 4,HV2.out.cell 5,HV2.out.cell 6,HV2.out.cell 7,HV2.out.cell 8,HV2.out.cell 9,HV2.out.cell 10,HV2.out.cell 11⟩
         generalize w1.drew = w2 at *
         apply tkY 0
         apply tkW 1
         apply tkY 2
         apply tkW 3
         apply tkY 5
         apply tkW 6
         apply tkY 8
         apply tkW 9
         refine wpAnyU_one (i:=4) rfl (by decide) (by kernel_rfl) (by rfl) (fun K' hK'=>?_)
         have HKP:=hid hK'
         clear hK'
         go_simp
         refine (bareRef_any qv.t qv.a w2).mono ?_
         rintro en w3 ⟨rfl,hbg⟩
         have HV3:=hid (HV2.out.far (hbg.block v (by omega)))
         have hv3:=Nat.le_trans hv2 hbg.size
         have hg3:=hbg
         have HPV3:=hid (HPV2.out.keep fun g hg=>hbg.block g (by have:=HXU.out g hg;have:=hs2;omega))
         have HPR3:=hid (HPR2.out.keep fun g hg=>hbg.block g (by have:=HXU.out g hg;have:=hs2;omega))
         have HTD3:=hid (HTD2.out.keep fun g hg=>hbg.block g (by have:=HXU.out g hg;have:=hs2;omega))
         have HTF3:=hid (HTF2.out.keep fun g hg=>hbg.block g (by have:=HXU.out g hg;have:=hs2;omega))
         have HNe3:=hid (HNe2.out.keep fun g hg=>hbg.block g (by have:=hg.2.1;omega))
         have HY3:=hid (HY2.out.far (hbg.block y (by have:=hs2;omega)))
         have HU3:=hid (HU2.out.far (hbg.block u (by have:=hs2;omega)))
         have HB3:=hid (HB2.out.trans (hbg.mono (by have:=hs2;omega)))
         have hs3:=Nat.le_trans hs2 hbg.size
         clear hbg HPV2 HPR2 HTD2 HTF2 HNe2 HY2 HU2 HB2 hs2
         clear HV2
         (try dsimp only)
         refine HKP.out _ _ ⟨HY3.out.cell 8,HV3.out.cell 0,HV3.out.cell 1,HV3.out.cell 2,HV3.out.cell 3,HV3.out.cell 4,HV3.out.cell 5,HV3.out.cell 6,HV3.out.cell 7,HV3.out.cell 8,HV3.out.cell 9,HV3.out.cell 10,HV3.out.cell 11⟩ ?_
         clear HKP K'
         (try simp only [List.getElem_toArray,List.getElem_cons_zero,List.getElem_cons_succ,Act.put,List.setIfInBounds_toArray,List.set_cons_zero,List.set_cons_succ])
         refine wpAnyU_one (i:=7) rfl (by decide) (by kernel_rfl) (by rfl) (fun K' hK'=>?_)
         have HKP:=hid hK'
         clear hK'
         go_simp
         refine (bareExpr_any pl.delay w3 _ _ _ _ _ _ _ X HTD3.out (fun g hg=>by have:=HXU.out g hg;have:=hs3;omega) HQ1p.out.1 HQ1p.out.2).mono ?_
         rintro en w4 ⟨od,td,md,ad,Ad,nd,dd,rfl,htr,hbg⟩
         have HV4:=hid (HV3.out.far (hbg.block v (by omega)))
         have hv4:=Nat.le_trans hv3 hbg.size
         have hg4:=hbg
         have HND4:=hid (show TrV (Fr w2 w4) w4 [pl.delay] [[.string od,.int .i64 md,.string td,.int .i64 ad,.slice Ad nd dd]] from htr.mono fun g hg=>⟨Nat.le_trans hg3.size hg.1,hg.2⟩)
         clear htr
         have HPV4:=hid (HPV3.out.keep fun g hg=>hbg.block g (by have:=HXU.out g hg;have:=hs3;omega))
         have HPR4:=hid (HPR3.out.keep fun g hg=>hbg.block g (by have:=HXU.out g hg;have:=hs3;omega))
         have HTD4:=hid (HTD3.out.keep fun g hg=>hbg.block g (by have:=HXU.out g hg;have:=hs3;omega))
         have HTF4:=hid (HTF3.out.keep fun g hg=>hbg.block g (by have:=HXU.out g hg;have:=hs3;omega))
         have HNe4:=hid (HNe3.out.keep fun g hg=>hbg.block g (by have:=hg.2.1;omega))
         have HY4:=hid (HY3.out.far (hbg.block y (by have:=hs3;omega)))
         have HU4:=hid (HU3.out.far (hbg.block u (by have:=hs3;omega)))
         have HB4:=hid (HB3.out.trans (hbg.mono (by have:=hs3;omega)))
         have hs4:=Nat.le_trans hs3 hbg.size
         clear hbg HPV3 HPR3 HTD3 HTF3 HNe3 HY3 HU3 HB3 hs3
         clear HV3
         (try dsimp only)
         refine HKP.out _ _ ⟨HY4.out.cell 8,HV4.out.cell 0,HV4.out.cell 1,HV4.out.cell 2,HV4.out.cell 3,HV4.out.cell 4,HV4.out.cell 5,HV4.out.cell 6,HV4.out.cell 7,HV4.out.cell 8,HV4.out.cell 9,HV4.out.cell 10,HV4.out.cell 11⟩ ?_
         clear HKP K'
         (try simp only [List.getElem_toArray,List.getElem_cons_zero,List.getElem_cons_succ,Act.put,List.setIfInBounds_toArray,List.set_cons_zero,List.set_cons_succ])
         clear HTD4
         refine wpAnyU_one (i:=10) rfl (by decide) (by kernel_rfl) (by rfl) (fun K' hK'=>?_)
         have HKP:=hid hK'
         clear hK'
         go_simp
         refine (bareExpr_any pl.flags w4 _ _ _ _ _ _ _ X HTF4.out (fun g hg=>by have:=HXU.out g hg;have:=hs4;omega) HQ2p.out.1 HQ2p.out.2).mono ?_
         rintro en w5 ⟨of',tf,mf,af,Af,nf,df,rfl,htr,hbg⟩
         have HV5:=hid (HV4.out.far (hbg.block v (by omega)))
         have hv5:=Nat.le_trans hv4 hbg.size
         have hg5:=hbg
         have HND5:=hid (show TrV (Fr w2 w5) w5 _ _ from (HND4.out.keep fun g hg=>hbg.block g hg.2).mono fun g hg=>⟨hg.1,Nat.lt_of_lt_of_le hg.2 hbg.size⟩)
         have HNF5:=hid (show TrV (Fr w2 w5) w5 [pl.flags] [[.string of',.int .i64 mf,.string tf,.int .i64 af,.slice Af nf df]] from htr.mono fun g hg=>⟨Nat.le_trans (Nat.le_trans hg3.size hg4.size) hg.1,hg.2⟩)
         clear htr HND4
         have HPV5:=hid (HPV4.out.keep fun g hg=>hbg.block g (by have:=HXU.out g hg;have:=hs4;omega))
         have HPR5:=hid (HPR4.out.keep fun g hg=>hbg.block g (by have:=HXU.out g hg;have:=hs4;omega))
         have HTF5:=hid (HTF4.out.keep fun g hg=>hbg.block g (by have:=HXU.out g hg;have:=hs4;omega))
         have HNe5:=hid (HNe4.out.keep fun g hg=>hbg.block g (by have:=hg.2.1;omega))
         have HY5:=hid (HY4.out.far (hbg.block y (by have:=hs4;omega)))
         have HU5:=hid (HU4.out.far (hbg.block u (by have:=hs4;omega)))
         have HB5:=hid (HB4.out.trans (hbg.mono (by have:=hs4;omega)))
         have hs5:=Nat.le_trans hs4 hbg.size
         clear hbg HPV4 HPR4 HTF4 HNe4 HY4 HU4 HB4 hs4
         clear HV4
         (try dsimp only)
         refine HKP.out _ _ ⟨HY5.out.cell 8,HV5.out.cell 0,HV5.out.cell 1,HV5.out.cell 2,HV5.out.cell 3,HV5.out.cell 4,HV5.out.cell 5,HV5.out.cell 6,HV5.out.cell 7,HV5.out.cell 8,HV5.out.cell 9,HV5.out.cell 10,HV5.out.cell 11⟩ ?_
         clear HKP K'
         (try simp only [List.getElem_toArray,List.getElem_cons_zero,List.getElem_cons_succ,Act.put,List.setIfInBounds_toArray,List.set_cons_zero,List.set_cons_succ])
         clear HTF5
         have hpv : PlV (Fr w2 w5) w5 [pl] [(Q2.mk qv.t 0).cells ++ (Q5.mk od md td ad Ad nd dd).cells ++ (Q5.mk of' mf tf af Af nf df).cells]:=PlV.cons (q:=Q2.mk qv.t 0) (d:=Q5.mk od md td ad Ad nd dd) (f:=Q5.mk of' mf tf af Af nf df) HND.out.symm HND5.out HNF5.out .nil
         have hkx : Kx 0 0 w2.heap.size w2 w5:=Kx.of ((hg3.trans (hg4.mono hg3.size)).trans (hg5.mono (Nat.le_trans hg3.size hg4.size))) (Nat.le_refl _)
         have hs25:=hkx.size
         obtain ⟨PV,hPV⟩ : ∃ PV : List Value,(Q2.mk qv.t 0).cells ++ (Q5.mk od md td ad Ad nd dd).cells ++ (Q5.mk of' mf tf af Af nf df).cells = PV:=⟨_,rfl⟩
         rw [hPV] at hpv
         have hcl : PV.length = 12:=by rw [← hPV];rfl
         obtain ⟨A4,c4,w6,hrun,htl4,hbl4,hs6',hk4⟩:=TL.pushB (K:=plR) (p:=0) (q:=0) 56 TTp (by decide) HRL2.out hkx (by omega) (by omega) (by omega) (by omega) hpv
         have HBT:=hid (show Tryd.prog.built 88 [(0,.agg #[.string qv.t,.int .i64 0]),(1,.agg #[.string od,.int .i64 md,.string td,.int .i64 ad,.slice Ad nd dd]),(2,.agg #[.string of',.int .i64 mf,.string tf,.int .i64 af,.slice Af nf df])] = some PV.toArray by rw [← hPV];kernel_rfl)
         have HRUN:=hid (show (Builtin.append_ #[56,56] 56 #[.slice A2 q c2,.slice (some ⟨w5.heap.size,0,none⟩) 1 1]).run Tryd.prog (w5.alloc (.cells PV.toArray 88)) = .ok (.slice A4 (q + 1) c4) w6 from hrun)
         have HRL6:=hid htl4
         clear hrun htl4 hPV hpv hkx HND5 HNF5 hg3 hg4 hg5 HRL2
         have hau:=(Below.refl _ w5).alloc (Nat.le_refl _) (.cells PV.toArray 88)
         have HYa:=hid (HY5.out.far (hau.block y (by omega)))
         have HVa:=hid (HV5.out.far (hau.block v (by omega)))
         have HV6:=hid (HV5.out.far (hk4 v (by omega) HOU.out))
         clear hau
         have HPV6:=hid (HPV5.out.keep fun g hg=>hbl4.block g (by have:=HXU.out g hg;omega))
         have HPR6:=hid (HPR5.out.keep fun g hg=>hbl4.block g (by have:=HXU.out g hg;omega))
         have HNe6:=hid (HNe5.out.keep fun g hg=>hbl4.block g (by have:=hg.2.1;omega))
         have HY6:=hid (HY5.out.far (hbl4.block y (by omega)))
         have HU6:=hid (HU5.out.far (hbl4.block u (by omega)))
         have HB6:=hid (HB5.out.trans (hbl4.mono (by omega)))
         have hs6:=Nat.le_trans hs5 hbl4.size
         have hlo6 : lo ≤ w6.heap.size:=by omega
         clear hbl4 hk4 hs6' hs25 HPV5 HPR5 HNe5 HU5 HB5
         refine wpAnyU_one (i:=11) rfl (by decide) (by kernel_rfl) (by rfl) (fun K' hK'=>?_)
         have HKP:=hid hK'
         clear hK'
         refine wp_litT 88 [(0,.tmp 36),(1,.tmp 39),(2,.tmp 42)] rfl _ rfl PV.toArray HBT.out ?_
         refine HKP.out _ _ ⟨HY5.out.cell 8,HV5.out.cell 0,HV5.out.cell 1,HV5.out.cell 2,HV5.out.cell 3,HV5.out.cell 4,HV5.out.cell 5,HV5.out.cell 6,HV5.out.cell 7,HV5.out.cell 8,HV5.out.cell 9,HV5.out.cell 10,HV5.out.cell 11⟩ ?_
         clear HKP K' HBT
         (try simp only [List.getElem_toArray,List.getElem_cons_zero,List.getElem_cons_succ,Act.put,List.setIfInBounds_toArray,List.set_cons_zero,List.set_cons_succ])
         refine wpAnyU_one (i:=12) rfl (by decide) (by kernel_rfl) (by rfl) (fun K' hK'=>?_)
         have HKP:=hid hK'
         clear hK'
         refine wp_bs1 TTp (.tmp 43) rfl PV.toArray rfl (by rw [List.size_toArray,hcl]) (by decide) ?_
         refine HKP.out _ _ ⟨HYa.out.cell 8,HVa.out.cell 0,HVa.out.cell 1,HVa.out.cell 2,HVa.out.cell 3,HVa.out.cell 4,HVa.out.cell 5,HVa.out.cell 6,HVa.out.cell 7,HVa.out.cell 8,HVa.out.cell 9,HVa.out.cell 10,HVa.out.cell 11⟩ ?_
         clear HKP K'
         (try simp only [List.getElem_toArray,List.getElem_cons_zero,List.getElem_cons_succ,Act.put,List.setIfInBounds_toArray,List.set_cons_zero,List.set_cons_succ])
         refine wpAnyU_one (i:=13) rfl (by decide) (by kernel_rfl) (by rfl) (fun K' hK'=>?_)
         have HKP:=hid hK'
         clear hK'
         refine Lib.wp_append_run _ (.tmp 33) (.tmp 44) 56 56 rfl _ _ rfl rfl _ _ HRUN.out ?_
         refine HKP.out _ _ ⟨HY6.out.cell 8,HV6.out.cell 0,HV6.out.cell 1,HV6.out.cell 2,HV6.out.cell 3,HV6.out.cell 4,HV6.out.cell 5,HV6.out.cell 6,HV6.out.cell 7,HV6.out.cell 8,HV6.out.cell 9,HV6.out.cell 10,HV6.out.cell 11⟩ ?_
         clear HKP K'
         (try simp only [List.getElem_toArray,List.getElem_cons_zero,List.getElem_cons_succ,Act.put,List.setIfInBounds_toArray,List.set_cons_zero,List.set_cons_succ])
         clear hHeld HRUN HYa HVa HY5 HV5 hs5
         have hHeld : _ ∧ _ ∧ _ ∧ _ ∧ _ ∧ _ ∧ _ ∧ _ ∧ _ ∧ _ ∧ _ ∧ _ ∧ _:=⟨HY6.out.cell 8,HV6.out.cell 0,HV6.out.cell 1,HV6.out.cell 2,HV6.out.cell 3,HV6.out.cell 4,HV6.out.cell 5,HV6.out.cell 6,HV6.out.cell 7,HV6.out.cell 8,HV6.out.cell 9,HV6.out.cell 10,HV6.out.cell 11⟩
         apply tkY 14
         refine wpAnyU_at (c:=15) rfl (by kernel_rfl) (by rfl) (fun K hK=>?_)
         have HK:=hid hK
         clear hK
         have k4:=HY6.out.cP
         have l4:=HY6.out.free 8
         dsimp only at k4
         go_simp
         refine HK.out _ _ ?_
         clear HK K
         (try simp only [Act.put])
         refine wpAny_done (by kernel_rfl) ?_ _
         refine NoPanic.normal ?_
         clear hHeld HV6 HOU
         have hv7 : lo ≤ (w6.setCell ⟨y,8,none⟩ (.slice A4 (q + 1) c4)).heap.size:=by rw [World.size_setCell];exact hlo6
         have hbs : Below y w6 (w6.setCell ⟨y,8,none⟩ (.slice A4 (q + 1) c4)):=((Below.refl y w6).setCell (p:=⟨y,8,none⟩) (Nat.le_refl _) _)
         have hfs : ∀ g,g ≠ y → (w6.setCell ⟨y,8,none⟩ (.slice A4 (q + 1) c4)).heap[g]? = w6.heap[g]?:=fun g hg=>Below.heap_setCell _ ⟨y,8,none⟩ _ g hg
         have HPV7:=hid (HPV6.out.keep fun g hg=>hfs g (by have:=HXU.out g hg;omega))
         have HPR7:=hid (HPR6.out.keep fun g hg=>hfs g (by have:=HXU.out g hg;omega))
         have HNe7:=hid (HNe6.out.keep fun g hg=>hfs g hg.2.2)
         have HY7:=hid (HY6.out.putP ⟨A4,q + 1,c4⟩)
         have HRL7:=hid (HRL6.out.keep hbs.size fun g hg _=>hfs g (by omega))
         have HU7:=hid (HU6.out.far (hfs u (by omega)))
         have HB7:=hid (HB6.out.trans (hbs.mono (by omega)))
         have hs7:=Nat.le_trans hs6 hbs.size
         clear hbs hfs HPV6 HPR6 HNe6 HY6 HRL6 HU6 HB6 hs6
         generalize (w6.setCell ⟨y,8,none⟩ (.slice A4 (q + 1) c4)) = w7 at *
         go_wp2_with fail
         exact ⟨⟨q + 1,A4,c4,by omega,by first | rfl | (congr 1;omega),HPV7.out,HPR7.out,HNe7.out,HY7.out,by rw [HTQ.out];exact HRL7.out,HU7.out,HB7.out,hs7,hv7⟩,by simp [intOf];omega⟩
       · have hge : ¬ ((q : Int) < (rn : Int)):=by omega
         obtain rfl : q = rn:=by omega
         have hEK : places.take q = places:=List.take_of_length_le (by rw [← HRN.out];exact Nat.le_refl _)
         have hrt:=HRL0.out
         rw [hEK] at hrt
         obtain ⟨rcs,hr1,hr2,hr3⟩:=hrt.fin (z:=u) (y:=y) (by omega) (by omega)
         have hne:=HNe0.out.mono fun g hg=>(⟨hg.1,by have:=hg.2.1;omega,hg.2.2⟩ : Fx u y wx g)
         have hdv : DcV (Fr wb wx) wx [⟨kind,name,ev,places⟩] [(DC.mk c.kind (Q2.mk c.name.t 0) (Q5.mk oa ma ta aa Aa na da) (QS.mk A2 q c2)).cells]:=(show DcV (Fx u y wx) wx [⟨kind,name,ev,places⟩] [(DC.mk c.kind (Q2.mk c.name.t 0) (Q5.mk oa ma ta aa Aa na da) (QS.mk A2 q c2)).cells] from DcV.cons (e:=⟨kind,name,ev,places⟩) (k:=c.kind) (q:=Q2.mk c.name.t 0) (v:=Q5.mk oa ma ta aa Aa na da) (s:=QS.mk A2 q c2) HKI.out HNA.out.symm hne hr2 hr1 hr3 .nil).mono fun g hg=>⟨by have:=hg.1;have:=HSZ.out;omega,hg.2.1⟩
         have hkx : Kx 0 0 wb.heap.size wb wx:=Kx.of (by rw [HSZ.out];exact HB0.out) (Nat.le_refl _)
         obtain ⟨A5,c5,w11,hrun,htl5,hbl5,hs5,_⟩:=TL.pushB (K:=dcR) (p:=0) (q:=0) 22 TTd (by decide) HTL1.out hkx (Nat.succ_pos _) (Nat.succ_pos _) (by have:=HSZ.out;omega) (by omega) hdv
         have HRUN:=hid hrun
         have HTO2:=hid (HTO1.out.far (HB0.out.block t (by omega)))
         have HTO5:=hid (HTO2.out.far (hbl5.block t (Nat.lt_succ_self t)))
         have HTL5:=hid htl5
         have HB5:=hid (HBA.out.trans ((HB0.out.mono (by omega)).trans (hbl5.mono (Nat.le_succ _))))
         have hcl : (DC.mk c.kind (Q2.mk c.name.t 0) (Q5.mk oa ma ta aa Aa na da) (QS.mk A2 q c2)).cells.length = 9:=rfl
         have hs6 : t + 1 ≤ w11.heap.size:=by have:=HSZ.out;have:=hkx.size;omega
         have hrx : wx.rangeAt y 0 (DC.mk c.kind (Q2.mk c.name.t 0) (Q5.mk oa ma ta aa Aa na da) (QS.mk A2 q c2)).cells:=blk_range HY0.out
         have hi1:=hid (show (Tryd.prog.info? 58).map (·.size) = some (DC.mk c.kind (Q2.mk c.name.t 0) (Q5.mk oa ma ta aa Aa na da) (QS.mk A2 q c2)).cells.length from infoDc _)
         have e0:=HTO2.out.c0
         dsimp only at e0
         have e1:=HTO5.out.c0
         have e2:=HTO5.out.free 0
         have HTL6:=hid (HTL5.out.keep (w1:=w11.setCell ⟨t,0,none⟩ (.slice A5 (j + 1) c5)) (by rw [World.size_setCell];exact Nat.le_refl _) fun g hg _=>Below.heap_setCell _ ⟨t,0,none⟩ _ g (by show g ≠ t;omega))
         have HTO6:=hid (HTO5.out.putD ⟨A5,j + 1,c5⟩)
         have HB6:=hid (HB5.out.setCell (p:=⟨t,0,none⟩) (Nat.le_refl _) (.slice A5 (j + 1) c5))
         have hs7 : t + 1 ≤ (w11.setCell ⟨t,0,none⟩ (.slice A5 (j + 1) c5)).heap.size:=by rw [World.size_setCell];exact hs6
         obtain ⟨Y3,hY3⟩ : ∃ Y3 : List Value,(DC.mk c.kind (Q2.mk c.name.t 0) (Q5.mk oa ma ta aa Aa na da) (QS.mk A2 q c2)).cells = Y3:=⟨_,rfl⟩
         rw [hY3] at HRUN hcl hrx hi1
         clear hrt hr1 hr2 hr3 hne hdv hkx hrun htl5 hbl5 hs5 hY3 HPV0 HPR0 HNe0 HY0 HU0 HB0 HRL0
         go_wp2_with (first | (refine wl_load_mid (by rfl) 58 (.tmp 6) rfl y 0 rfl Y3 _ hrx Tryd.underlying58 rfl hi1.out ?_) | (refine wl_bs1 TTd rfl (.tmp 50) rfl Y3.toArray rfl (by rw [List.size_toArray,hcl]) (by decide) ?_) | (refine wl_step (by rfl) fun _ hK=>Lib.wp_append_run _ (.tmp 49) (.tmp 51) 22 22 rfl _ _ rfl rfl _ _ HRUN.out (hK _ _ ?_)))
         exact ⟨⟨j + 1,A5,c5,by omega,by first | rfl | (congr 1;omega),by rw [HTK.out];exact HTL6.out,HTO6.out,HB6.out,hs7⟩,by simp [intOf];omega⟩
   · have hge : ¬ ((j : Int) < (dq.n : Int)):=by omega
     have hje : j = dq.n:=by omega
     have hEK : ds.take j = ds:=List.take_of_length_le (by rw [HLN.out,hje];exact Nat.le_refl _)
     have HTF:=hid (show TL dcR 58 (t + 1) wr (.slice A1 j c1) j ds by have:=HTL.out;rwa [hEK] at this)
     have HSVr:=hid (HSV.out.keep fun g hg=>HBW.out.block g (by have:=HX.out g hg;omega))
     have HSRr:=hid (HSR.out.keep fun g hg=>HBW.out.block g (by have:=HX.out g hg;omega))
     have HQr:=hid (HQ1.out.far (HBW.out.block z0 (by omega)))
     have HEr:=hid (HE1.out.far (HBW.out.block z (by omega)))
     have k1:=HQr.out.c1
     clear hEK HTL hje HVr HRr HV HR HSV HSR
     go_wp2_with fail
     clear k1
     refine (bareStmts_any sl wr bq.A bq.n bq.d bcs X HSVr.out HSRr.out (fun g hg=>by have:=HX.out g hg;omega) HSL.out HSB.out).mono ?_
     rintro e w2 ⟨bA,bn,bd,rfl,hbd,hbg⟩
     have HTF2:=hid (HTF.out.keep hbg.size fun g _ hg=>hbg.block g hg)
     have HTO2:=hid (HTO.out.far (hbg.block t (by omega)))
     have HE2:=hid (HEr.out.far (hbg.block z (by omega)))
     have HB2:=hid (HBW.out.trans (hbg.mono (by omega)))
     have HBD:=hid hbd
     have hsr : wr.heap.size ≤ w2.heap.size:=hbg.size
     have HBG:=hid hbg
     have f1:=HTO2.out.c1
     have f2:=HTO2.out.free 1
     clear hbd hbg HTF HTO HEr HBW HSVr HSRr HQr
     have HTO3:=hid (show SoB (w2.setCell ⟨t,1,none⟩ (.slice bA bn bd)) t ⟨A1,j,c1⟩ ⟨bA,bn,bd⟩ from HTO2.out.putB ⟨bA,bn,bd⟩)
     have hld:=HTO3.out.load
     dsimp only at hld
     have HE3:=hid (show SoB (w2.setCell ⟨t,1,none⟩ (.slice bA bn bd)) z .zero .zero from HE2.out.far (Below.heap_setCell _ ⟨t,1,none⟩ _ z (by show z ≠ t;omega)))
     have hS:=hid (show SoB (((w2.setCell ⟨t,1,none⟩ (.slice bA bn bd)).setCell ⟨z,0,none⟩ (.slice A1 j c1)).setCell ⟨z,1,none⟩ (.slice bA bn bd)) z ⟨A1,j,c1⟩ ⟨bA,bn,bd⟩ from SoB.putB (SoB.putD HE3.out ⟨A1,j,c1⟩) ⟨bA,bn,bd⟩)
     have t0:=HTO3.out.c0
     have t1:=HTO3.out.c1
     dsimp only at t0 t1
     have e0:=HE3.out.c0
     have e1:=HE3.out.c1
     have e2:=HE3.out.free 0
     have e3:=HE3.out.free 1
     have hfa : ∀ g,z < g → g ≠ t → (((w2.setCell ⟨t,1,none⟩ (.slice bA bn bd)).setCell ⟨z,0,none⟩ (.slice A1 j c1)).setCell ⟨z,1,none⟩ (.slice bA bn bd)).heap[g]? = w2.heap[g]?:=fun g hg hgt=>((Below.heap_setCell _ ⟨z,1,none⟩ _ g (by show g ≠ z;omega)).trans (Below.heap_setCell _ ⟨z,0,none⟩ _ g (by show g ≠ z;omega))).trans (Below.heap_setCell _ ⟨t,1,none⟩ _ g hgt)
     have hs3 : (((w2.setCell ⟨t,1,none⟩ (.slice bA bn bd)).setCell ⟨z,0,none⟩ (.slice A1 j c1)).setCell ⟨z,1,none⟩ (.slice bA bn bd)).heap.size = w2.heap.size:=by rw [World.size_setCell,World.size_setCell,World.size_setCell]
     have hbz : Below z0 w (((w2.setCell ⟨t,1,none⟩ (.slice bA bn bd)).setCell ⟨z,0,none⟩ (.slice A1 j c1)).setCell ⟨z,1,none⟩ (.slice bA bn bd)):=(HB1.out.trans (HB2.out.mono (by omega))).trans (((((Below.refl t w2).setCell (p:=⟨t,1,none⟩) (Nat.le_refl _) _).mono (show z ≤ t by omega)).setCell (p:=⟨z,0,none⟩) (Nat.le_refl _) _).setCell (p:=⟨z,1,none⟩) (Nat.le_refl _) _ |>.mono (by omega))
     have HBZ:=hid hbz
     obtain ⟨rcs,q1,q2,q3⟩:=HTF2.out.ran
     have HQ1':=hid q1
     have HQ2':=hid q2
     have HQ3':=hid q3
     have HFA:=hid hfa
     have HS3:=hid hs3
     clear hbz q1 q2 q3 hfa hs3
     go_wp2_with fail
     refine bodyPost_ret (v:=.agg #[.slice A1 j c1,.slice bA bn bd]) (results_c1 rfl _ _ _ ⟨z,0,none⟩ _ rfl hS.out.load) rfl ?_
     have hzw:=HZ.out
     refine ⟨⟨A1,j,c1⟩,⟨bA,bn,bd⟩,rfl,?_,?_,by rw [hzw];exact HBZ.out⟩
     · exact ⟨rcs,(HQ2'.out.keep fun g hg=>HFA.out g (by have:=hg.1;omega) (by have:=hg.1;omega)).mono fun g hg=>⟨by have:=hg.1;omega,by rw [HS3.out];exact hg.2⟩,(HQ1'.out.keep fun g hg=>HFA.out g (by have:=hg.1;omega) (by have:=hg.1;omega)).mono fun g hg=>⟨by have:=hg.1;omega,by rw [HS3.out];exact hg.2⟩,HQ3'.out⟩
     · obtain ⟨bcs',b1,b2,b3⟩:=HBD.out
       exact ⟨bcs',(b1.keep fun g hg=>HFA.out g (by have:=hg.1;omega) (by have:=hg.1;omega)).mono fun g hg=>⟨by have:=hg.1;omega,by rw [HS3.out];exact hg.2⟩,(b2.keep fun g hg=>HFA.out g (by have:=hg.1;omega) (by have:=hg.1;omega)).mono fun g hg=>⟨by have:=hg.1;omega,by rw [HS3.out];exact hg.2⟩,b3⟩
end
end Go.Proofs.YtgmjpnnblhkbpaaDoor
