/-
  Over any program: a region that draws its order. Its first n operations come in any order that they wait for, and each only makes memory; its last ones come in one forced order behind them. Each of the first ones is looked at once: what it yields holds in whatever world comes behind. No statement of the seat is proved here.
-/
import Derived.Test.YtkmcjjoicpgjfaaDoorWords
import Derived.StillTail
import Derived.Below
namespace Go.Sh
open Go Go.RowKit

theorem getD_set_same' {l : Array Bool} {i : Nat} (h : i < l.size) (d : Bool) : (l.setIfInBounds i true).getD i d = true := by simp [h]
def cntU : Nat → Array Bool → Nat
  | 0, _ => 0
  | n + 1, l => cntU n l + (if l.getD n true then 0 else 1)
theorem cntU_same {l l' : Array Bool} : ∀ n, (∀ j, j < n → l'.getD j true = l.getD j true) → cntU n l' = cntU n l
  | 0, _ => rfl
  | n + 1, h => by rw [cntU, cntU, cntU_same n fun j hj => h j (by omega), h n (by omega)]
theorem cntU_set {l : Array Bool} {i : Nat} (hun : l.getD i true = false) (hi : i < l.size) : ∀ n, i < n → cntU n (l.setIfInBounds i true) + 1 = cntU n l
  | 0, h => by omega
  | n + 1, h => by
    by_cases e : i = n
    · subst e
      rw [cntU, cntU, cntU_same i fun j hj => getD_set_ne true (by omega), getD_set_same' hi, hun]
      simp
    · have ih := cntU_set hun hi n (by omega)
      rw [cntU, cntU, getD_set_ne true (show i ≠ n by omega)]
      omega
theorem cntU_zero {l : Array Bool} : ∀ n, cntU n l = 0 → ∀ i, i < n → l.getD i true = true
  | 0, _, i, hi => by omega
  | n + 1, h, i, hi => by
    rw [cntU] at h
    have h1 : cntU n l = 0 := by omega
    by_cases e : i = n
    · subst e
      cases hq : l.getD i true with
      | true => rfl
      | false => rw [hq] at h; simp at h
    · exact cntU_zero n h1 i (by omega)
theorem cntU_pos {l : Array Bool} : ∀ n, 0 < cntU n l → ∃ i, i < n ∧ l.getD i true = false ∧ ∀ j, j < i → l.getD j true = true
  | 0, h => by simp [cntU] at h
  | n + 1, h => by
    by_cases h0 : 0 < cntU n l
    · obtain ⟨i, h1, h2, h3⟩ := cntU_pos n h0
      exact ⟨i, by omega, h2, h3⟩
    · refine ⟨n, by omega, ?_, fun j hj => cntU_zero n (by omega) j hj⟩
      cases hq : l.getD n true with
      | false => rfl
      | true => rw [cntU, hq] at h; simp at h; omega
theorem cntU_start : ∀ n m, n ≤ m → cntU n (Array.replicate m false) = n
  | 0, _, _ => rfl
  | n + 1, m, h => by
    rw [cntU, cntU_start n m (by omega)]
    have : (Array.replicate m false).getD n true = false := by simp [show n < m by omega]
    rw [this]; rfl
/-- the operations ahead wait for operations ahead of them alone -/
def Region.backB (md : Region.Mode) (ops : Array Oper) (n : Nat) : Bool :=
  (List.range n).all fun i => ((ops[i]?).map fun o => o.after.all fun e => !Region.binds md e || decide (e.on < i)).getD true
def Region.headB (md : Region.Mode) (ops : Array Oper) (n : Nat) : Bool :=
  decide (n < ops.size) && Region.sinkB md ops n && Region.chainB md ops n && Region.backB md ops n && Region.seqB md ops (ops.size - n) n (Array.replicate n true ++ Array.replicate (ops.size - n) false)
section
variable {P : Program} {ops : Array Oper} {md : Region.Mode} {Q' : Exit → Act → World → Prop}
/-- where the region stands, some of its first operations carried out -/
structure HI (md : Region.Mode) (ops : Array Oper) (n : Nat) (ds : List Nat) (A : Act) (V : Nat → Value → World → Prop) (own : Nat → Value → Option Nat) (w0 : World) (listed : Array Bool) (a : Act) (w : World) : Prop where
  inv : HeadInv md ops n listed
  dfr : a.defers = A.defers
  size : a.tmps.size = A.tmps.size
  old : ∀ s, s ∉ ds → a.tmps.getD s undef = A.tmps.getD s undef
  ext : Below w0.heap.size w0 w
  val : ∀ i d, ds[i]? = some d → listed.getD i false = true → V i (a.tmps.getD d undef) w
  lt : ∀ i d b, ds[i]? = some d → listed.getD i false = true → own i (a.tmps.getD d undef) = some b → w0.heap.size ≤ b ∧ b < w.heap.size
  apart : ∀ i j d e b, ds[i]? = some d → ds[j]? = some e → i ≠ j → listed.getD i false = true → listed.getD j false = true → own i (a.tmps.getD d undef) = some b → own j (a.tmps.getD e undef) ≠ some b
theorem tmps_put {a : Act} {d s : Nat} (v : Value) (hd : d < a.tmps.size) : (a.put (some d) v).tmps.getD s undef = if s = d then v else a.tmps.getD s undef := by
  by_cases h : s = d
  · subst h; simp [Act.put, hd]
  · have : d ≠ s := fun e => h e.symm
    simp [Act.put, h, this]
set_option maxRecDepth 100000 in
theorem wpAny_of_HI {n : Nat} {ds : List Nat} {A : Act} {V : Nat → Value → World → Prop} {own : Nat → Value → Option Nat} {w0 : World}
    (hn : n < ops.size) (hs : Region.sinkB md ops n = true) (hc : Region.chainB md ops n = true) (hb : Region.backB md ops n = true)
    (hq : Region.seqB md ops (ops.size - n) n (Array.replicate n true ++ Array.replicate (ops.size - n) false) = true)
    (hdl : ds.length = n) (hds : ∀ i o, i < n → ops[i]? = some o → o.dst = ds[i]?) (hnd : ds.Nodup) (hsz : ∀ d ∈ ds, d < A.tmps.size) (hgu : ∀ i o, i < n → ops[i]? = some o → o.guard = none)
    (hV : ∀ i v w w', V i v w → Below w.heap.size w w' → V i v w')
    (hop : ∀ i o, i < n → ops[i]? = some o → ∀ a w, (∀ s, s ∉ ds → a.tmps.getD s undef = A.tmps.getD s undef) →
      (∀ e ∈ o.after, Region.binds md e = true → ∀ d, ds[e.on]? = some d → V e.on (a.tmps.getD d undef) w) → Below w0.heap.size w0 w →
      o.wp P a w (fun a' w' => ∃ v, a' = a.put o.dst v ∧ Below w.heap.size w w' ∧ V i v w' ∧ ∀ b, own i v = some b → w.heap.size ≤ b ∧ b < w'.heap.size) Q')
    (hend : ∀ listed a w, (∀ i, i < n → listed.getD i false = true) → HI md ops n ds A V own w0 listed a w → wpList P ops Q' (ops.toList.drop n) a w) :
    ∀ (f : Nat) (listed : Array Bool) (a : Act) (w : World), cntU n listed = f → HI md ops n ds A V own w0 listed a w → wpAny P md ops Q' (f + (ops.size - n)) listed a w := by
  intro f
  induction f with
  | zero =>
    intro listed a w hcn hI
    have hall := cntU_zero n hcn
    have hsize := hI.inv.size
    have hall' : ∀ i, i < n → listed.getD i false = true := fun i hi => by
      have := hall i hi
      have hl : i < listed.size := by omega
      simp [hl] at this ⊢; exact this
    have he : listed = Array.replicate n true ++ Array.replicate (ops.size - n) false := by
      apply Array.ext
      · simp; omega
      · intro i h1 h2
        by_cases hi : i < n
        · have := hall' i hi
          rw [Array.getElem_append_left (by simpa using hi)]
          simp [h1] at this
          simp [this]
        · have := hI.inv.tail i (by omega) (by omega)
          rw [Array.getElem_append_right (by simpa using hi)]
          simp [h1] at this
          simp [this]
    have hw := hend listed a w hall' hI
    have hlen : (ops.toList.drop n).length = ops.size - n := by simp
    have := wpAny_of_seq (md := md) (Q' := Q') (ops.toList.drop n) n listed a w (fun j => by simp [List.getElem?_drop]) (by rw [hlen, he]; exact hq) hw
    rw [hlen] at this
    simpa using this
  | succ f ih =>
    intro listed a w hcn hI
    obtain ⟨i0, hi0, hun0, hle0⟩ := cntU_pos n (by omega : 0 < cntU n listed)
    have hsize := hI.inv.size
    have hr0 : i0 ∈ Region.ready md ops listed := by
      refine mem_ready.2 ⟨hun0, ops[i0]'(by omega), Array.getElem?_eq_getElem _, fun e he hbi => ?_⟩
      have h1 := List.all_eq_true.1 hb i0 (List.mem_range.2 hi0)
      rw [Array.getElem?_eq_getElem (by omega), Option.map_some, Option.getD_some, Array.all_eq_true_iff_forall_mem] at h1
      have h2 := h1 e he
      rw [hbi] at h2
      simp only [Bool.not_true, Bool.false_or, decide_eq_true_eq] at h2
      have h3 := hle0 e.on h2
      have hl : e.on < listed.size := by omega
      simp [hl] at h3 ⊢; exact h3
    rw [show f + 1 + (ops.size - n) = (f + (ops.size - n)) + 1 by omega]
    refine ⟨fun h0 => (by rw [h0] at hr0; cases hr0), fun i hi => ?_⟩
    have hin : i < n := (Nat.lt_or_ge i n).elim id fun h => absurd hi (tail_waits hs hc hn hI.inv _ i0 rfl hi0 hun0 i h)
    obtain ⟨hun, o, ho, hall⟩ := mem_ready.1 hi
    obtain ⟨d, hd⟩ : ∃ d, ds[i]? = some d := ⟨_, List.getElem?_eq_getElem (by omega)⟩
    have hod : o.dst = some d := (hds i o hin ho).trans hd
    have hdm : d ∈ ds := List.mem_of_getElem? hd
    have hdz : d < a.tmps.size := by rw [hI.size]; exact hsz d hdm
    have hwant : Region.wanted o (yielded ops a.tmps) = true := by unfold Region.wanted; rw [hgu i o hin ho]
    have hstep := hop i o hin ho a w hI.old (fun e he hbi d' hd' => hI.val e.on d' hd' (hall e he hbi)) hI.ext
    unfold wpOp
    simp only [ho, hwant, if_true]
    refine Or.inl (Oper.wp_mono ?_ hstep)
    rintro a' w' ⟨v, rfl, hbw, hVi, hown⟩
    rw [hod]
    have hne : ∀ j e, ds[j]? = some e → j ≠ i → e ≠ d := fun j e hj hji hed => by
      subst hed
      exact hji ((List.getElem?_inj (List.getElem?_eq_some_iff.1 hj).1 hnd).1 (hj.trans hd.symm))
    have hold : ∀ j, (listed.setIfInBounds i true).getD j false = true → j ≠ i → listed.getD j false = true := fun j hj hji => by
      rw [getD_set_ne false (fun e => hji e.symm)] at hj; exact hj
    refine ih _ _ _ (by have := cntU_set hun (by rw [hsize]; omega) n hin; omega) ⟨hI.inv.set hi hin, by simp [Act.put, hI.dfr], by simp [Act.put, hI.size], fun s hs' => ?_, hI.ext.trans (hbw.mono hI.ext.size), fun j e hj hlj => ?_, fun j e b hj hlj hb' => ?_, fun j k e g b hj hk hjk hlj hlk hb' => ?_⟩
    · rw [tmps_put v hdz, if_neg (show ¬ s = d from fun e => hs' (by rw [e]; exact hdm))]
      exact hI.old s hs'
    · rw [tmps_put v hdz]
      by_cases hji : j = i
      · subst hji
        rw [hd] at hj
        obtain rfl := Option.some.inj hj
        rw [if_pos rfl]; exact hVi
      · rw [if_neg (hne j e hj hji)]
        exact hV j _ w w' (hI.val j e hj (hold j hlj hji)) hbw
    · rw [tmps_put v hdz] at hb'
      by_cases hji : j = i
      · subst hji
        rw [hd] at hj
        obtain rfl := Option.some.inj hj
        rw [if_pos rfl] at hb'
        have := hown b hb'
        have := hI.ext.size
        omega
      · rw [if_neg (hne j e hj hji)] at hb'
        have := hI.lt j e b hj (hold j hlj hji) hb'
        have := hbw.size
        omega
    · rw [tmps_put v hdz] at hb' ⊢
      by_cases hji : j = i
      · subst hji
        rw [hd] at hj
        obtain rfl := Option.some.inj hj
        rw [if_pos rfl] at hb'
        rw [if_neg (hne k g hk (fun e => hjk e.symm))]
        intro h2
        have h3 := hI.lt k g b hk (hold k hlk (fun e => hjk e.symm)) h2
        have h4 := hown b hb'
        omega
      · rw [if_neg (hne j e hj hji)] at hb'
        by_cases hki : k = i
        · subst hki
          rw [hd] at hk
          obtain rfl := Option.some.inj hk
          rw [if_pos rfl]
          intro h2
          have h3 := hI.lt j e b hj (hold j hlj hji) hb'
          have h4 := hown b h2
          omega
        · rw [if_neg (hne k g hk hki)]
          exact hI.apart j k e g b hj hk hjk (hold j hlj hji) (hold k hlk hki) hb'
set_option maxRecDepth 100000 in
theorem ev_get {a : Act} {t : Nat} {v : Value} (h : a.eval (.tmp t) = v) : a.tmps[t]?.getD undef = v := by simpa [Act.eval] using h
/-- the slots ds take the values x i, x (i + 1), .. -/
def setAll : Array Value → List Nat → Nat → (Nat → Value) → Array Value
  | T, [], _, _ => T
  | T, d :: ds, i, x => setAll (T.setIfInBounds d (x i)) ds (i + 1) x
theorem setAll_size : ∀ (ds : List Nat) (T : Array Value) (i : Nat) (x : Nat → Value), (setAll T ds i x).size = T.size
  | [], _, _, _ => rfl
  | d :: ds, T, i, x => by rw [setAll, setAll_size ds]; simp
theorem setAll_out : ∀ (ds : List Nat) (T : Array Value) (i : Nat) (x : Nat → Value) (s : Nat), s ∉ ds → (setAll T ds i x).getD s undef = T.getD s undef
  | [], _, _, _, _, _ => rfl
  | d :: ds, T, i, x, s, h => by
    rw [setAll, setAll_out ds _ _ _ _ (fun hm => h (List.mem_cons_of_mem _ hm))]
    have : d ≠ s := fun e => h (e ▸ List.mem_cons_self ..)
    simp [this]
set_option maxRecDepth 100000 in
theorem setAll_in : ∀ (ds : List Nat) (T : Array Value) (i : Nat) (x : Nat → Value) (k d : Nat), ds.Nodup → ds[k]? = some d → d < T.size → (setAll T ds i x).getD d undef = x (i + k)
  | [], _, _, _, _, _, _, h, _ => by simp at h
  | e :: ds, T, i, x, 0, d, hn, h, hs => by
    obtain rfl : e = d := by simpa using h
    rw [setAll, setAll_out ds _ _ _ _ (List.nodup_cons.1 hn).1]
    simp [hs]
  | e :: ds, T, i, x, k + 1, d, hn, h, hs => by
    rw [setAll, setAll_in ds _ _ _ k d (List.nodup_cons.1 hn).2 (by simpa using h) (by simpa using hs)]
    congr 1; omega
theorem setAll_eq {T T0 : Array Value} {ds : List Nat} (hn : ds.Nodup) (hs : T.size = T0.size) (hz : ∀ d ∈ ds, d < T0.size) (ho : ∀ s, s ∉ ds → T.getD s undef = T0.getD s undef) (x : Nat → Value) (hx : ∀ i d, ds[i]? = some d → T.getD d undef = x i) : T = setAll T0 ds 0 x := by
  apply Array.ext
  · rw [setAll_size, hs]
  · intro s h1 h2
    have e1 : T.getD s undef = T[s] := by simp [h1]
    have e2 : (setAll T0 ds 0 x).getD s undef = (setAll T0 ds 0 x)[s] := by simp [h2]
    rw [← e1, ← e2]
    by_cases hm : s ∈ ds
    · obtain ⟨k, hk, he⟩ := List.mem_iff_getElem.1 hm
      have hk' : ds[k]? = some s := by rw [List.getElem?_eq_getElem hk, he]
      rw [hx k s hk', setAll_in ds T0 0 x k s hn hk' (hz s hm), Nat.zero_add]
    · rw [ho s hm, setAll_out ds T0 0 x s hm]
set_option maxRecDepth 100000 in
/-- a region whose first operations only make memory -/
theorem wp_region_head {id : Nat} {Q : Exit → Act → World → Prop} {A : Act} {w : World} {l : List Oper} (n : Nat) (ds : List Nat) (V : Nat → Value → World → Prop) (own : Nat → Value → Option Nat) (hm : P.follows .mixedOrders = true) (hB : Region.headB .any l.toArray n = true)
    (hdl : ds.length = n) (hds : (l.take n).map (·.dst) = ds.map some) (hnd : ds.Nodup) (hsz : ∀ d ∈ ds, d < A.tmps.size) (hgu : (l.take n).all (fun o => o.guard.isNone) = true)
    (hV : ∀ i v w w', V i v w → Below w.heap.size w w' → V i v w')
    (hop : ∀ (i : Nat) (o : Oper), (l.take n)[i]? = some o → ∀ (a : Act) (w1 : World), (∀ s, s ∉ ds → a.eval (.tmp s) = A.eval (.tmp s)) →
      (∀ e ∈ o.after, Region.binds .any e = true → ∀ d, ds[e.on]? = some d → V e.on (a.eval (.tmp d)) w1) → Below w.heap.size w w1 →
      o.wp P a w1 (fun a' w' => ∃ v, a' = a.put o.dst v ∧ Below w1.heap.size w1 w' ∧ V i v w' ∧ ∀ b, own i v = some b → w1.heap.size ≤ b ∧ b < w'.heap.size) Q)
    (hend : ∀ (x : Nat → Value) (w' : World), (∀ i, i < n → V i (x i) w') → (∀ i b, i < n → own i (x i) = some b → w.heap.size ≤ b ∧ b < w'.heap.size) → (∀ i j b, i < n → j < n → i ≠ j → own i (x i) = some b → own j (x j) ≠ some b) → Below w.heap.size w w' →
      wpList P l.toArray Q (l.drop n) ⟨setAll A.tmps ds 0 x, A.defers⟩ w') : (Code.region id l.toArray true).wp P Q A w := by
  simp only [Region.headB, Bool.and_eq_true, decide_eq_true_eq] at hB
  obtain ⟨⟨⟨⟨hn, hs⟩, hc⟩, hb⟩, hq⟩ := hB
  have hn' : n < l.length := by simpa using hn
  have htk : ∀ i o, i < n → l.toArray[i]? = some o → (l.take n)[i]? = some o := fun i o hi ho => by
    rw [List.getElem?_take, if_pos hi]; simpa using ho
  have inv0 : HeadInv .any l.toArray n (Array.replicate l.toArray.size false) :=
    ⟨by simp, fun j oj _ hl => (by rw [getD_replicate_false] at hl; cases hl), fun t _ ht => getD_in (by simpa using ht) (getD_replicate_false _ _)⟩
  have no : ∀ i, ¬ (Array.replicate l.toArray.size false).getD i false = true := fun i h => by rw [getD_replicate_false] at h; cases h
  refine wp_region_any hm ?_
  have key := wpAny_of_HI (P := P) (Q' := Q) (md := .any) (ops := l.toArray) (n := n) (ds := ds) (A := A) (V := V) (own := own) (w0 := w) hn hs hc hb hq hdl (fun i o hi ho => by
      have h1 := congrArg (·[i]?) hds
      simp only [List.getElem?_map, htk i o hi ho, Option.map_some] at h1
      cases hq : ds[i]? with
      | none => rw [hq] at h1; cases h1
      | some d => rw [hq] at h1; exact Option.some.inj h1) hnd hsz (fun i o hi ho => by
      have := List.all_eq_true.1 hgu o (List.mem_of_getElem? (htk i o hi ho))
      simpa using this) hV (fun i o hi ho a w1 h1 h2 h3 => hop i o (htk i o hi ho) a w1 h1 h2 h3)
    (fun listed a w1 hall hI => by
      have ha : a = ⟨setAll A.tmps ds 0 (fun i => a.tmps.getD (ds.getD i 0) undef), A.defers⟩ := by
        have := setAll_eq (T := a.tmps) (T0 := A.tmps) hnd hI.size hsz hI.old (fun i => a.tmps.getD (ds.getD i 0) undef) (fun i d hd => by simp [List.getD_eq_getElem?_getD, hd])
        rw [← this, ← hI.dfr]
      have hgd : ∀ i, i < n → ds[i]? = some (ds.getD i 0) := fun i hi => by
        rw [List.getD_eq_getElem?_getD, List.getElem?_eq_getElem (by omega), Option.getD_some]
      have := hend (fun i => a.tmps.getD (ds.getD i 0) undef) w1 (fun i hi => hI.val i _ (hgd i hi) (hall i hi)) (fun i b hi h => hI.lt i _ b (hgd i hi) (hall i hi) h)
        (fun i j b hi hj hij h => hI.apart i j _ _ b (hgd i hi) (hgd j hj) hij (hall i hi) (hall j hj) h) hI.ext
      rw [← ha] at this
      exact this) n (Array.replicate l.toArray.size false) A { w with drawn := w.drawn + 1 } (cntU_start n _ (by omega))
    ⟨inv0, rfl, rfl, fun _ _ => rfl, ⟨rfl, rfl, rfl, Nat.le_refl _, fun _ _ => rfl⟩, fun i d _ h => absurd h (no i), fun i d b _ h => absurd h (no i), fun i j d e b _ _ _ h => absurd h (no i)⟩
  rw [show n + (l.toArray.size - n) = l.toArray.size by omega] at key
  exact key
end
end Go.Sh
