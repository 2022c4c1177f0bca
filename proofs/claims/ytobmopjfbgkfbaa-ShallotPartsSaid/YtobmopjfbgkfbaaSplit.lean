/-
  Contracts of frame.Split and shallotref11.Split: both cut a message into the same parts in new memory, or say the same error's number. Conditions: the sizes that slices can have; the number fits its type.
-/
import Derived.Test.YtobmopjfbgkfbaaParts
namespace Go.Proofs.Ytobmopjfbgkfbaa
open Go Go.RowKit Go.Sh

/-- an owned row that is not nil, its block laid open -/
theorem own_blk {w : World} {base e size n c g : Nat} {xs : List Value} (h : w.ownsRow base e size (.slice (some ⟨g, 0, none⟩) n c) n xs) :
    ∃ cur : Array Value, w.heap[g]? = some (.cells cur e (0, 0)) ∧ base ≤ g ∧ n ≤ c ∧ c ≤ maxLen ∧ cur.size = c * size ∧ cur.toList.take (n * size) = xs := by
  rcases h.2 with ⟨h, _⟩ | ⟨g', cap, cur, h, h1, h2, h3, h4, h5, h6⟩
  · cases h
  · injection h with ha _ hc
    injection ha with ha
    injection ha with ha
    subst ha hc
    exact ⟨cur, h2, h1, h3, h4, h5, h6⟩
theorem OP.put {w : World} {base m c g k : Nat} {ps : List Pt} {ss : List Value} (h : OP w base (.slice (some ⟨g, 0, none⟩) m c) m ps ss) (hk : k < m) {cur : Array Value} (hcur : w.heap[g]? = some (.cells cur 56 (0, 0)))
    {Ai : Option Addr} {ni ci : Nat} {p : Pt} (hx : w.ownsRow base 5 1 (.slice Ai ni ci) ni (bv p.d)) :
    OP (w.setRow g (cur.toList.take (k * 5) ++ pcell p (.slice Ai ni ci) ++ cur.toList.drop (k * 5 + 5)).toArray) base (.slice (some ⟨g, 0, none⟩) m c) m (ps.set k p) (ss.set k (.slice Ai ni ci)) := by
  obtain ⟨h1, h2, h3, h4⟩ := h
  obtain ⟨cur', hc, b1, b2, b3, b4, b5⟩ := own_blk h3
  rw [hcur] at hc
  obtain rfl : cur = cur' := by simpa using hc
  have hg := grown_setRow w g (cur.toList.take (k * 5) ++ pcell p (.slice Ai ni ci) ++ cur.toList.drop (k * 5 + 5)).toArray
  have hfar : ∀ {A : Option Addr} {n c : Nat} {xs : List Value}, w.ownsRow base 5 1 (.slice A n c) n xs → (Value.slice A n c).ownBlock = none ∨ (Value.slice A n c).ownBlock ≠ some g := by
    intro A n c xs ho
    rcases own_ne ho h3 (by decide) with h | h
    · exact .inl h
    · exact .inr h
  have hsz : cur.toList.length = c * 5 := by rw [Array.length_toList, b4]
  refine ⟨by simp [h1], by simp [h2], ?_, fun i hi => ?_⟩
  · refine ⟨by rw [length_pcells _ _ (by simp [h1, h2])]; simp [h1], .inr ⟨g, c, _, rfl, b1, setRow_heap w g cur _ _ _ hcur, b2, b3, ?_, ?_⟩⟩
    · simp only [List.size_toArray, List.length_append, List.length_take, List.length_drop, hsz, length_pcell]
      omega
    · rw [← pcells_set ps ss k p _ (by omega) (by omega), ← b5]
      simp only [List.take_take, List.drop_take]
      rw [List.append_assoc, List.append_assoc, List.take_append, List.take_append, List.length_take, hsz, length_pcell, List.take_take, show min (k * 5) (c * 5) = k * 5 by omega, show min (m * 5) (k * 5) = k * 5 by omega, show min (k * 5) (m * 5) = k * 5 by omega,
        List.take_of_length_le (l := pcell p _) (by rw [length_pcell]; omega), show m * 5 - k * 5 - 5 = m * 5 - (k * 5 + 5) by omega]
  · by_cases hik : i = k
    · subst hik
      refine ⟨Ai, ni, ci, by simp [h2, hi], ?_⟩
      have e1 : pat (ps.set i p) i = p := by simp [pat, h1, hi]
      rw [e1]
      exact hx.kept hg (hfar hx)
    · obtain ⟨Aj, nj, cj, h5, h6⟩ := h4 i hi
      refine ⟨Aj, nj, cj, by rw [List.getElem?_set_ne (by omega)]; exact h5, ?_⟩
      have e1 : pat (ps.set k p) i = pat ps i := by simp [pat, Ne.symm hik]
      rw [e1]
      exact h6.kept hg (hfar h6)

/-- part i of a message -/
def splP (id : Int) (l : List UInt8) (m i : Nat) : Pt := ⟨1, id, i, m, (l.drop (i * 450)).take 450⟩
def splN (n : Nat) : Nat := (cntV (n : Int)).toNat
def splL (id : Int) (l : List UInt8) : List Pt := if 7200 < l.length then [] else (List.range (splN l.length)).map (splP id l (splN l.length))
def splE (n : Nat) : Int := if 7200 < n then 2 else 0
theorem splN_facts {n : Nat} (h : n ≤ 7200) : cntE (n : Int) = 0 ∧ cntV (n : Int) = (splN n : Int) ∧ 1 ≤ splN n ∧ splN n ≤ 16 ∧ (splN n - 1) * 450 ≤ n ∧ n ≤ splN n * 450 ∧ (1 < splN n → (splN n - 1) * 450 < n) := by
  have e1 : cntE (n : Int) = 0 := by unfold cntE; rw [if_neg (by omega), if_neg (by omega)]
  have e2 : cntV (n : Int) = if (n : Int) = 0 then 1 else ((n : Int) + 449) / 450 := by unfold cntV; rw [e1, if_pos rfl]
  have e3 : 0 ≤ cntV (n : Int) := by rw [e2]; split <;> omega
  have e4 : cntV (n : Int) = (splN n : Int) := by unfold splN; omega
  refine ⟨e1, e4, ?_⟩
  rw [e2] at e4
  split at e4 <;> omega
def partsTo (id : Int) (l : List UInt8) (m k : Nat) : List Pt := (List.range k).map (splP id l m) ++ List.replicate (m - k) zp
theorem partsTo_succ (id : Int) (l : List UInt8) {m k : Nat} (h : k < m) : (partsTo id l m k).set k (splP id l m k) = partsTo id l m (k + 1) := by
  unfold partsTo
  rw [List.set_append_right _ _ (by simp), List.length_map, List.length_range, Nat.sub_self, show m - k = (m - (k + 1)) + 1 by omega, List.replicate_succ, List.set_cons_zero, List.range_succ, List.map_append, List.append_assoc]
  rfl

/-- parts in new memory and an error's number are handed back; nothing that was there has turned -/
def RetPE (w : World) (ps : List Pt) (er : Int) (e : Ending) (w' : World) : Prop :=
  ∃ A m c ss, e = .returned (.tuple #[.slice A m c, .int .i64 er]) ∧ OP w' w.heap.size (.slice A m c) m ps ss ∧ Below w.heap.size w w'

/-- .. the data apart from one another -/
def RetPS (w : World) (ps : List Pt) (er : Int) (e : Ending) (w' : World) : Prop :=
  ∃ A m c ss, e = .returned (.tuple #[.slice A m c, .int .i64 er]) ∧ OP w' w.heap.size (.slice A m c) m ps ss ∧ Sep ss ∧ Below w.heap.size w w'
theorem OP.lt {w : World} {base m : Nat} {v : Value} {ps : List Pt} {ss : List Value} (h : OP w base v m ps ss) : ∀ (j : Nat) (u : Value), ss[j]? = some u → ∀ k, u.ownBlock = some k → base ≤ k ∧ k < w.heap.size := by
  intro j u hu k hk
  have hj : j < m := by rw [← h.2.1]; exact (List.getElem?_eq_some_iff.1 hu).1
  obtain ⟨A, n, c, h5, h6⟩ := h.2.2.2 j hj
  rw [hu] at h5
  rw [Option.some.inj h5] at hk
  exact h6.lt k hk
theorem Sep.put {vs : List Value} (h : Sep vs) {k : Nat} {x : Value} (hx : ∀ (j : Nat) (u : Value), vs[j]? = some u → ∀ q, u.ownBlock = some q → x.ownBlock ≠ some q) : Sep (vs.set k x) := by
  intro i j u v hij hu hv
  by_cases hi : k = i
  · subst hi
    have hk : k < vs.length := by
      have := (List.getElem?_eq_some_iff.1 hu).1
      simpa using this
    obtain rfl : x = u := by simpa [hk] using hu
    rw [List.getElem?_set_ne (by omega)] at hv
    cases hvb : v.ownBlock with
    | none => cases x.ownBlock <;> simp
    | some q => exact .inr (hx j v hv q hvb)
  · rw [List.getElem?_set_ne hi] at hu
    by_cases hj : k = j
    · subst hj
      have hk : k < vs.length := by
        have := (List.getElem?_eq_some_iff.1 hv).1
        simpa using this
      obtain rfl : x = v := by simpa [hk] using hv
      cases hub : u.ownBlock with
      | none => exact .inl rfl
      | some q => exact .inr (fun e => hx i u hu q hub e.symm)
    · rw [List.getElem?_set_ne hj] at hv
      exact h i j u v hij hu hv
theorem Sep.nils (n : Nat) : Sep (List.replicate n (.slice none 0 0)) := by
  intro i j u v _ hu _
  have : u = .slice none 0 0 := by
    rw [List.getElem?_replicate] at hu
    split at hu
    · exact (Option.some.inj hu).symm
    · cases hu
  rw [this]
  exact .inl rfl

set_option maxHeartbeats 2000000 in
set_option maxRecDepth 100000 in
theorem Split_sep (id : Int) (A : Option Addr) (n c : Nat) (l : List UInt8) (w : World) (B : Nat) (hr : RB w B A n l) (hB : B ≤ w.heap.size) (hc : n ≤ c) (hn : n ≤ 140737488355328) :
    Calls Try.prog 23 #[.int .u64 id, .slice A n c] w (RetPS w (splL id l) (splE n)) := by
  have HL := Lib.hid hr.len
  have HR := Lib.hid hr
  clear hr
  by_cases hbig : 7200 < n
  · have E1 := Lib.hid (show splL id l = [] by rw [splL, HL.out, if_pos hbig])
    have E2 := Lib.hid (show splE n = 2 by rw [splE, if_pos hbig])
    have hcnt := Count_any (n : Int) w
    have e1 : cntE (n : Int) = 2 := by unfold cntE; rw [if_neg (by omega), if_pos (by omega)]
    have e2 : cntV (n : Int) = 0 := by unfold cntV; rw [e1]; rfl
    rw [e1, e2] at hcnt
    have HC := Lib.hid hcnt
    clear hcnt e1 e2 hbig
    go_enter Try.func23, Try.ntmps23
    go_wp2_with fail
    refine HC.out.mono ?_
    rintro e w1 ⟨rfl, rfl⟩
    go_wp2_with fail
    go_ret2
    rw [E1.out, E2.out]
    exact ⟨none, 0, 0, [], rfl, OP.nil _ _, Sep.nils 0, Below.refl _ _⟩
  · have E2 := Lib.hid (show splE n = 0 by rw [splE, if_neg hbig])
    obtain ⟨f1, f2, f3, f4, f5, f6, f7⟩ := splN_facts (n := n) (by omega)
    have E1 := Lib.hid (show splL id l = (List.range (splN n)).map (splP id l (splN n)) by rw [splL, HL.out, if_neg hbig])
    have hcnt := Count_any (n : Int) w
    rw [f1, f2] at hcnt
    have HC := Lib.hid hcnt
    generalize splN n = m at *
    clear hcnt f1 f2
    go_enter Try.func23, Try.ntmps23
    go_wp2_with fail
    refine HC.out.mono ?_
    rintro e w1 ⟨rfl, rfl⟩
    go_wp2_with (at_make; refine wl_make TP rfl (.tmp 21) (.tmp 21) rfl .i64 .i64 _ _ rfl rfl m rfl rfl (by omega) (by omega) w.heap.size (Nat.le_refl _) ?m5)
    case m5 =>
      intro w1 hown hg hlt
      rw [made_parts] at hown
      have HO := Lib.hid (show OP w1 w.heap.size (.slice (some ⟨w.heap.size, 0, none⟩) m m) m (partsTo id l m 0) (List.replicate m (.slice none 0 0)) from by
        refine ⟨by simp [partsTo], by simp, by simpa [partsTo] using hown, fun i hi => ⟨none, 0, 0, by simp [hi], ?_⟩⟩
        have e1 : pat (partsTo id l m 0) i = zp := by simp [partsTo, pat, hi]
        rw [e1]
        exact World.ownsRow_nil _ _ _ _)
      have HB1 := Lib.hid (show Below w.heap.size w w1 from (Below.refl _ _).grown hg (Nat.le_refl _) (by simp))
      clear hown hg hlt
      generalize hgw : w.heap.size = g at *
      have HG := Lib.hid hgw
      clear hgw
      go_wp2_with fail
      go_loopw [25] (fun i wr => ∃ (k : Nat) (ss : List Value), k ≤ m ∧ i = .int .i64 (k : Int) ∧ OP wr g (.slice (some ⟨g, 0, none⟩) m m) m (partsTo id l m k) ss ∧ Sep ss ∧ Below g w wr) (fun i _ => m - (intOf i).toNat)
      case atStart => exact ⟨0, _, by omega, rfl, HO.out, Sep.nils m, HB1.out⟩
      case round =>
        obtain ⟨k, ss, hk, rfl, o, sp, b⟩ := hrel
        have SP := Lib.hid sp
        have O := Lib.hid o
        have B2 := Lib.hid b
        have hsz := b.size
        rw [HG.out] at hsz
        clear o b sp HO HB1
        by_cases hlt : k < m
        · have hfrom : k * 450 ≤ n := by omega
          obtain ⟨cur, hcur, c1, c2, c3, c4, c5⟩ := own_blk O.out.2.2.1
          have HCUR := Lib.hid hcur
          have HRW := Lib.hid (HR.out.below (B2.out.mono hB))
          have HSP := Lib.hid (partsTo_succ id l hlt)
          by_cases hfull : k * 450 + 450 ≤ n
          · have htk : (l.drop (k * 450)).take 450 = (l.drop (k * 450)).take 450 := rfl
            have HTK := Lib.hid htk
            have hfi : (k : Int) * 450 + 450 ≤ (n : Int) := by omega
            have HHI := Lib.hid (show (k : Int) * 450 + 450 = ((k * 450 + 450 : Nat) : Int) by omega)
            have HLO := Lib.hid (show (k : Int) * 450 = ((k * 450 : Nat) : Int) by omega)
            have HLE := Lib.hid (show k * 450 + 450 ≤ n by omega)
            have HZ := Lib.hid (show 450 ≤ 450 by omega)
            clear hcur c5 htk
            go_wp2_with (refine wl_sliceB TB rfl (.tmp 40) (.tmp 41) (.tmp 42) rfl A n c rfl .i64 .i64 _ _ rfl rfl (k * 450) 450 HLO.out HHI.out B l HRW.out HLE.out hc ?_; intro A5 hr5; rw [HTK.out] at hr5)
            have HR5 := Lib.hid hr5
            clear hr5 hfull hfi HHI HLO HLE HTK
            refine (copied_any A5 450 _ _ wr B HR5.out (by omega) (by have := HZ.out; omega)).mono ?_
            rintro e w2 ⟨g2, c6, rfl, ho2, hb2⟩
            have hgc : g < wr.heap.size := (Array.getElem?_eq_some_iff.1 HCUR.out).1
            have HCUR2 := Lib.hid (show w2.heap[g]? = some (.cells cur 56 (0, 0)) by rw [hb2.block g hgc]; exact HCUR.out)
            have HX2 := Lib.hid (own_base ho2 hsz)
            have HLT := Lib.hid (show ∀ (j : Nat) (u : Value), ss[j]? = some u → ∀ q, u.ownBlock = some q → (Value.slice (some ⟨g2, 0, none⟩) 450 c6).ownBlock ≠ some q from fun j u hu q hq e => by
              have h1 := (O.out.lt j u hu q hq).2
              have h2 := (ho2.lt g2 rfl).1
              have h3 : g2 = q := by simpa [Value.ownBlock] using e
              omega)
            have O2 := Lib.hid (O.out.later hb2)
            have B3 := Lib.hid (B2.out.trans (hb2.mono hsz))
            clear ho2 hb2 O B2 HCUR HRW HR5
            go_wp2_with (refine wl_store_blk rfl 56 (.tmp 46) (.tmp 45) rfl g (k * 5) (pcell (splP id l m k) (.slice (some ⟨g2, 0, none⟩) 450 c6)).toArray rfl rfl cur 56 HCUR2.out (by rw [c4]; show k * 5 + 5 ≤ m * 5; omega) infoP (pcell_one _ _ _ _) ?_)
            have hput := O2.out.put hlt HCUR2.out (p := splP id l m k) HX2.out
            rw [HSP.out, List.append_assoc] at hput
            exact ⟨⟨k + 1, _, by omega, by go_num, hput, Sep.put SP.out HLT.out, below_setRow B3.out (Nat.le_refl _) _⟩, by simp [intOf]; omega⟩
          · have htk : (l.drop (k * 450)).take (n - k * 450) = (l.drop (k * 450)).take 450 := by rw [List.take_of_length_le (by rw [List.length_drop, HL.out]; exact Nat.le_refl _), List.take_of_length_le (by rw [List.length_drop, HL.out]; omega)]
            have HTK := Lib.hid htk
            have hfi : (n : Int) < (k : Int) * 450 + 450 := by omega
            have HHI := Lib.hid (show (n : Int) = ((k * 450 + (n - k * 450) : Nat) : Int) by omega)
            have HLO := Lib.hid (show (k : Int) * 450 = ((k * 450 : Nat) : Int) by omega)
            have HLE := Lib.hid (show k * 450 + (n - k * 450) ≤ n by omega)
            have HZ := Lib.hid (show (n - k * 450) ≤ 450 by omega)
            clear hcur c5 htk
            go_wp2_with (refine wl_sliceB TB rfl (.tmp 40) (.tmp 41) (.tmp 42) rfl A n c rfl .i64 .i64 _ _ rfl rfl (k * 450) (n - k * 450) HLO.out HHI.out B l HRW.out HLE.out hc ?_; intro A5 hr5; rw [HTK.out] at hr5)
            have HR5 := Lib.hid hr5
            clear hr5 hfull hfi HHI HLO HLE HTK
            refine (copied_any A5 (n - k * 450) _ _ wr B HR5.out (by omega) (by have := HZ.out; omega)).mono ?_
            rintro e w2 ⟨g2, c6, rfl, ho2, hb2⟩
            have hgc : g < wr.heap.size := (Array.getElem?_eq_some_iff.1 HCUR.out).1
            have HCUR2 := Lib.hid (show w2.heap[g]? = some (.cells cur 56 (0, 0)) by rw [hb2.block g hgc]; exact HCUR.out)
            have HX2 := Lib.hid (own_base ho2 hsz)
            have HLT := Lib.hid (show ∀ (j : Nat) (u : Value), ss[j]? = some u → ∀ q, u.ownBlock = some q → (Value.slice (some ⟨g2, 0, none⟩) (n - k * 450) c6).ownBlock ≠ some q from fun j u hu q hq e => by
              have h1 := (O.out.lt j u hu q hq).2
              have h2 := (ho2.lt g2 rfl).1
              have h3 : g2 = q := by simpa [Value.ownBlock] using e
              omega)
            have O2 := Lib.hid (O.out.later hb2)
            have B3 := Lib.hid (B2.out.trans (hb2.mono hsz))
            clear ho2 hb2 O B2 HCUR HRW HR5
            go_wp2_with (refine wl_store_blk rfl 56 (.tmp 46) (.tmp 45) rfl g (k * 5) (pcell (splP id l m k) (.slice (some ⟨g2, 0, none⟩) (n - k * 450) c6)).toArray rfl rfl cur 56 HCUR2.out (by rw [c4]; show k * 5 + 5 ≤ m * 5; omega) infoP (pcell_one _ _ _ _) ?_)
            have hput := O2.out.put hlt HCUR2.out (p := splP id l m k) HX2.out
            rw [HSP.out, List.append_assoc] at hput
            exact ⟨⟨k + 1, _, by omega, by go_num, hput, Sep.put SP.out HLT.out, below_setRow B3.out (Nat.le_refl _) _⟩, by simp [intOf]; omega⟩
        · obtain rfl : k = m := by omega
          go_wp2_with fail
          go_ret2
          rw [E1.out, E2.out]
          refine ⟨_, k, k, ss, rfl, ?_, SP.out, ?_⟩
          · rw [HG.out]
            have h := O.out
            simp only [partsTo, Nat.sub_self, List.replicate_zero, List.append_nil] at h
            exact h
          · rw [HG.out]
            exact B2.out

theorem Split_any (id : Int) (A : Option Addr) (n c : Nat) (l : List UInt8) (w : World) (B : Nat) (hr : RB w B A n l) (hB : B ≤ w.heap.size) (hc : n ≤ c) (hn : n ≤ 140737488355328) :
    Calls Try.prog 23 #[.int .u64 id, .slice A n c] w (RetPE w (splL id l) (splE n)) :=
  (Split_sep id A n c l w B hr hB hc hn).mono fun _ _ ⟨A, m, c, ss, h1, h2, _, h3⟩ => ⟨A, m, c, ss, h1, h2, h3⟩

end Go.Proofs.Ytobmopjfbgkfbaa
