/-
  Contracts of shallotlaw08.acks, tape.NewAcks, Acks.First, Acks.Acked, shallotref08.Acks and shallotref08.First: lists of acknowledgements, copied, refused or asked alike. Conditions: the sizes that slices can have.
-/
import Derived.Test.YtcjpfjmmnnfieaaCopy
import Derived.Test.YtcjpfjmmnnfieaaOpen
namespace Go.Proofs.Ytcjpfjmmnnfieaa
open Go Go.RowKit Go.Sh

theorem cell_alloc_old {w : World} {p : Addr} (h : p.block < w.heap.size) (o : Obj) : (w.alloc o).cell? p = w.cell? p := ((Below.refl w.heap.size w).alloc (Nat.le_refl _) o).cell h

/-- acknowledgements as cells -/
def ackv : List (Int × Int) → List Value
  | [] => []
  | a :: l => .int .i64 a.1 :: .int .u64 a.2 :: ackv l
def aat (l : List (Int × Int)) (k : Nat) : Int := (l.getD k (0, 0)).1
def aid (l : List (Int × Int)) (k : Nat) : Int := (l.getD k (0, 0)).2
theorem length_ackv (l : List (Int × Int)) : (ackv l).length = l.length * 2 := by
  induction l with
  | nil => rfl
  | cons a l ih => simp only [ackv, List.length_cons, ih]; omega
theorem ackv_at (l : List (Int × Int)) : ∀ k, k < l.length → (ackv l)[k * 2]? = some (.int .i64 (aat l k)) ∧ (ackv l)[k * 2 + 1]? = some (.int .u64 (aid l k)) := by
  induction l with
  | nil => intro k h; simp at h
  | cons a l ih =>
    intro k h
    cases k with
    | zero => exact ⟨rfl, rfl⟩
    | succ k =>
      have := ih k (by simpa using h)
      rw [show (k + 1) * 2 = k * 2 + 1 + 1 by omega]
      simpa [ackv, aat, aid] using this
theorem ackv_append (l r : List (Int × Int)) : ackv (l ++ r) = ackv l ++ ackv r := by
  induction l with
  | nil => rfl
  | cons a l ih => simp [ackv, ih]
theorem ackv_set (l : List (Int × Int)) : ∀ (k : Nat) (x y : Int), ((ackv l).set (k * 2) (.int .i64 x)).set (k * 2 + 1) (.int .u64 y) = ackv (l.set k (x, y)) := by
  induction l with
  | nil => intro k x y; simp [ackv]
  | cons a l ih =>
    intro k x y
    cases k with
    | zero => simp [ackv]
    | succ k =>
      rw [show (k + 1) * 2 = k * 2 + 1 + 1 by omega]
      simp only [ackv, List.set_cons_succ]
      rw [ih]
theorem ackv_one (l : List (Int × Int)) : ∀ u ∈ ackv l, u.oneCell' = true := by
  induction l with
  | nil => intro u hu; simp [ackv] at hu
  | cons a l ih =>
    intro u hu
    simp only [ackv, List.mem_cons] at hu
    rcases hu with rfl | rfl | hu
    · rfl
    · rfl
    · exact ih u hu
theorem ack_take (l : List (Int × Int)) (k : Nat) (h : k < l.length) : l.take (k + 1) = l.take k ++ [(aat l k, aid l k)] := by
  have e : l[k] = (aat l k, aid l k) := by simp [aat, aid, h]
  rw [List.take_succ_eq_append_getElem h, e]

/-- '.slice A n c' reads as the acknowledgements l, whose ticks fit an int, and lies below block B -/
def RA (w : World) (B : Nat) (A : Option Addr) (n : Nat) (l : List (Int × Int)) : Prop := Reads w B 2 A n (ackv l) ∧ ∀ a ∈ l, -9223372036854775808 ≤ a.1 ∧ a.1 ≤ 9223372036854775807
section
variable {w w' : World} {B B' n : Nat} {A : Option Addr} {l : List (Int × Int)}
theorem RA.len (h : RA w B A n l) : l.length = n := by have := h.1.1; rw [length_ackv] at this; omega
theorem RA.at_ {k : Nat} (h : RA w B A n l) (hk : k < n) : ∃ b off, A = some ⟨b, off, none⟩ ∧ b < B ∧ w.cell? ⟨b, off + k * 2, none⟩ = some (.int .i64 (aat l k)) ∧ w.cell? ⟨b, off + k * 2 + 1, none⟩ = some (.int .u64 (aid l k)) ∧ -9223372036854775808 ≤ aat l k ∧ aat l k ≤ 9223372036854775807 := by
  have hl := h.len
  obtain ⟨⟨b, off, spot⟩, rfl, hb, hc⟩ := h.1.some_ (by rw [length_ackv]; omega)
  obtain ⟨h0, h1⟩ := ackv_at l k (by omega)
  have c0 := hc.get h0
  have c1 := hc.get h1
  have hspot : spot = none := by
    have h00 := (ackv_at l 0 (by omega)).1
    have := World.cell?_spot (hc.get h00)
    simpa [Addr.add] using this
  subst hspot
  rw [add_mk] at c0 c1
  refine ⟨b, off, rfl, hb, c0, c1, ?_⟩
  have : l.getD k (0, 0) ∈ l := by
    rw [List.getD_eq_getElem?_getD, List.getElem?_eq_getElem (by omega)]
    exact List.getElem_mem _
  exact h.2 _ this
theorem RA.below (h : RA w B A n l) (hb : Below B w w') : RA w' B A n l := ⟨h.1.below hb, h.2⟩
theorem RA.keep (h : RA w B A n l) (hk : ∀ p : Addr, p.block < B → w'.cell? p = w.cell? p) : RA w' B A n l := ⟨h.1.keep hk, h.2⟩
theorem RA.more (h : RA w B A n l) (hB : B ≤ B') : RA w B' A n l := ⟨h.1.more hB, h.2⟩
theorem RA.alloc (h : RA w B A n l) (hB : B ≤ w.heap.size) (o : Obj) : RA (w.alloc o) B A n l := ⟨h.1.alloc hB o, h.2⟩
end

theorem TA : STy Try.prog 24 32 (.agg #[.int .i64 0, .int .u64 0]) 2 16 := ⟨Try.underlying24, by kernel_rfl, rfl, by decide⟩

/-- new memory that holds l is handed back; nothing that was there has turned -/
def RetA (w : World) (n : Nat) (l : List (Int × Int)) (e : Ending) (w' : World) : Prop :=
  ∃ A c, e = .returned (.slice A n c) ∧ w'.ownsRow w.heap.size 32 2 (.slice A n c) n (ackv l) ∧ Below w.heap.size w w'

theorem acks_any (A : Option Addr) (n c : Nat) (l : List (Int × Int)) (w : World) (B : Nat) (hr : RA w B A n l) (hB : B ≤ w.heap.size) (hn : n * 16 ≤ 140737488355328) :
    Calls Try.prog 10 #[.slice A n c] w (RetA w n l) := by
  have HL := Lib.hid hr.len
  have HR := Lib.hid hr
  clear hr
  go_enter Try.func10, Try.ntmps10
  go_wp2
  go_loopw [3, 5, 8] (fun v _ i wr => ∃ (k : Nat) (A' : Option Addr) (c' : Nat), k ≤ n ∧ i = .int .i64 k ∧ v = .slice A' k c' ∧ wr.ownsRow w.heap.size 32 2 (.slice A' k c') k (ackv (l.take k)) ∧ Below w.heap.size w wr) (fun _ _ i _ => n - (intOf i).toNat)
  case atStart => exact ⟨0, none, 0, by omega, rfl, rfl, World.ownsRow_nil _ _ _ _, Below.refl _ _⟩
  case round =>
    obtain ⟨k, A', c', hk, rfl, rfl, hown, hb⟩ := hrel
    have HO := Lib.hid hown
    have HB := Lib.hid hb
    clear hown hb
    by_cases hlt : k < n
    · obtain ⟨b, off, rfl, hbB, c0, c1, b1, b2⟩ := HR.out.at_ hlt
      rw [← HB.out.cell (show b < w.heap.size by omega)] at c0 c1
      have HC := Lib.hid (ack_take l k (by rw [HL.out]; exact hlt))
      generalize aat l k = x at *
      generalize aid l k = y at *
      have hz := HB.out.size
      go_wp2_with (at_builtin; refine wl_app TA rfl (.tmp 12) (.tmp 18) rfl (.slice A' k c') rfl (some ⟨wr.heap.size + 1, 0, none⟩) 1 1 rfl w.heap.size k (ackv (l.take k)) ?c1 (wr.heap.size + 1 + 1) [.int .i64 x, .int .u64 y] ?c2 ?c3 ?c4 ?c5 ?c6 ?c7)
      case c1 => exact (HO.out.alloc _).alloc _
      case c2 => exact Reads.lit _ _ [.int .i64 x, .int .u64 y] 1 2 rfl _ (by simp)
      case c3 => simp [Value.oneCell']
      case c4 => omega
      case c5 => omega
      case c6 => simp; omega
      case c7 =>
        intro A2 c2 w2 hown2 hg2 _
        have HO2 := Lib.hid hown2
        have HB2 := Lib.hid (((HB.out.alloc HB.out.size _).alloc (by simp; omega) _).grown hg2 (by simp; omega) (own_drop HO.out))
        clear hown2 hg2 c0 c1
        go_wp2
        refine ⟨⟨k + 1, A2, c2, by omega, by go_num, rfl, ?_, HB2.out⟩, by simp [intOf]; omega⟩
        rw [HC.out, ackv_append]
        exact HO2.out
    · obtain rfl : k = n := by omega
      have e : l.take k = l := List.take_of_length_le (by rw [HL.out]; omega)
      have HO' := Lib.hid (show wr.ownsRow w.heap.size 32 2 (.slice A' k c') k (ackv l) by rw [← e]; exact HO.out)
      clear e HO
      go_wp2
      go_ret
      exact ⟨_, _, rfl, HO'.out, HB.out⟩

/-- the first of the first k acknowledgements of id -/
def firstTo (l : List (Int × Int)) (id : Int) : Nat → Int × Bool
  | 0 => (0, false)
  | k + 1 => if aid l k = id ∧ ((firstTo l id k).2 = false ∨ aat l k < (firstTo l id k).1) then (aat l k, true) else firstTo l id k
/-- is one of the first k ticks below nought? -/
def negA (l : List (Int × Int)) : Nat → Bool
  | 0 => false
  | k + 1 => negA l k || decide (aat l k < 0)
theorem negA_mono {l : List (Int × Int)} {k : Nat} (h : negA l k = true) : ∀ j, k ≤ j → negA l j = true := by
  intro j hj
  induction j with
  | zero => obtain rfl : k = 0 := by omega
            exact h
  | succ j ih =>
    rcases Nat.lt_or_ge k (j + 1) with hlt | hge
    · simp [negA, ih (by omega)]
    · obtain rfl : k = j + 1 := by omega
      exact h
/-- the error of a list -/
def acksE (l : List (Int × Int)) (n : Nat) : Int := if negA l n = true then 1 else if 256 < n then 2 else 0

theorem RefAcks_any (A : Option Addr) (n c : Nat) (l : List (Int × Int)) (w : World) (B : Nat) (hr : RA w B A n l) (hn : n * 16 ≤ 140737488355328) :
    Calls Try.prog 11 #[.slice A n c] w (fun e w' => e = .returned (.int .i64 (acksE l n)) ∧ w = w') := by
  have HR := Lib.hid hr
  clear hr
  go_enter Try.func11, Try.ntmps11
  go_wp2
  go_loop [3] (fun i => ∃ k : Nat, k ≤ n ∧ i = .int .i64 k ∧ negA l k = false) (fun i => n - (intOf i).toNat)
  case atStart => exact ⟨0, by omega, rfl, rfl⟩
  case round =>
    obtain ⟨k, hk, rfl, hneg⟩ := hrel
    have HN := Lib.hid hneg
    clear hneg
    by_cases hlt : k < n
    · obtain ⟨b, off, rfl, hbB, c0, c1, b1, b2⟩ := HR.out.at_ hlt
      by_cases hx : aat l k < 0
      · have HE := Lib.hid (show acksE l n = 1 by simp [acksE, negA_mono (l := l) (k := k + 1) (by simp [negA, hx]) n (by omega)])
        go_wp2
        go_ret
        exact ⟨by rw [HE.out]; rfl, rfl⟩
      · have HN' := Lib.hid (show negA l (k + 1) = false by simp only [negA, HN.out, Bool.false_or]; simpa using hx)
        go_wp2
        exact ⟨⟨k + 1, by omega, by go_num, HN'.out⟩, by simp [intOf]; omega⟩
    · obtain rfl : k = n := by omega
      by_cases h6 : 256 < k
      · have HE := Lib.hid (show acksE l k = 2 by simp [acksE, HN.out, h6])
        go_wp2
        go_ret
        exact ⟨by rw [HE.out]; rfl, rfl⟩
      · have HE := Lib.hid (show acksE l k = 0 by simp [acksE, HN.out, h6])
        go_wp2
        go_ret
        exact ⟨by rw [HE.out]; rfl, rfl⟩

theorem RefFirst_any (A : Option Addr) (n c : Nat) (l : List (Int × Int)) (id : Int) (w : World) (B : Nat) (hr : RA w B A n l) (hn : n * 16 ≤ 140737488355328) :
    Calls Try.prog 13 #[.slice A n c, .int .u64 id] w (fun e w' => e = .returned (.tuple #[.int .i64 (firstTo l id n).1, .bool (firstTo l id n).2]) ∧ w = w') := by
  have HR := Lib.hid hr
  clear hr
  go_enter Try.func13, Try.ntmps13
  go_wp2
  go_loop [6, 7, 8] (fun a o i => ∃ k : Nat, k ≤ n ∧ i = .int .i64 k ∧ a = .int .i64 (firstTo l id k).1 ∧ o = .bool (firstTo l id k).2) (fun _ _ i => n - (intOf i).toNat)
  case atStart => exact ⟨0, by omega, rfl, rfl, rfl⟩
  case round =>
    obtain ⟨k, hk, rfl, rfl, rfl⟩ := hrel
    by_cases hlt : k < n
    · obtain ⟨b, off, rfl, hbB, c0, c1, b1, b2⟩ := HR.out.at_ hlt
      have HF := Lib.hid (show firstTo l id (k + 1) = if aid l k = id ∧ ((firstTo l id k).2 = false ∨ aat l k < (firstTo l id k).1) then (aat l k, true) else firstTo l id k from rfl)
      obtain ⟨⟨a, o⟩, hao⟩ : ∃ q, firstTo l id k = q := ⟨_, rfl⟩
      rw [hao] at HF
      rw [hao]
      clear hao
      generalize aat l k = x at *
      generalize aid l k = y at *
      by_cases hy : y = id
      · subst hy
        cases o
        · have HF' := Lib.hid (show firstTo l y (k + 1) = (x, true) by rw [HF.out]; simp)
          clear HF
          go_wp2
          exact ⟨⟨k + 1, by omega, by go_num, by rw [HF'.out], by rw [HF'.out]⟩, by simp [intOf]; omega⟩
        · by_cases hx : x < a
          · have HF' := Lib.hid (show firstTo l y (k + 1) = (x, true) by rw [HF.out]; simp [hx])
            clear HF
            go_wp2
            exact ⟨⟨k + 1, by omega, by go_num, by rw [HF'.out], by rw [HF'.out]⟩, by simp [intOf]; omega⟩
          · have HF' := Lib.hid (show firstTo l y (k + 1) = (a, true) by rw [HF.out]; simp [hx])
            clear HF
            go_wp2
            exact ⟨⟨k + 1, by omega, by go_num, by rw [HF'.out], by rw [HF'.out]⟩, by simp [intOf]; omega⟩
      · have hb : (y == id) = false := by simpa using hy
        have HF' := Lib.hid (show firstTo l id (k + 1) = (a, o) by rw [HF.out]; simp [hy])
        clear HF hy
        go_wp2
        exact ⟨⟨k + 1, by omega, by go_num, by rw [HF'.out], by rw [HF'.out]⟩, by simp [intOf]; omega⟩
    · obtain rfl : k = n := by omega
      go_wp2
      go_ret2
      exact ⟨rfl, rfl⟩

/-- what NewAcks hands back: the list in new memory, or none and an error -/
def RetAE (w : World) (n : Nat) (l : List (Int × Int)) (e : Ending) (w' : World) : Prop :=
  ∃ A m c, e = .returned (.tuple #[.agg #[.slice A m c], .int .i64 (acksE l n)]) ∧ m = (if acksE l n = 0 then n else 0) ∧ w'.ownsRow w.heap.size 32 2 (.slice A m c) m (ackv (if acksE l n = 0 then l else [])) ∧ Below w.heap.size w w'

set_option maxHeartbeats 400000 in
theorem NewAcks_any (A : Option Addr) (n c : Nat) (l : List (Int × Int)) (w : World) (B : Nat) (hr : RA w B A n l) (hB : B ≤ w.heap.size) (hn : n * 16 ≤ 140737488355328) :
    Calls Try.prog 8 #[.slice A n c] w (RetAE w n l) := by
  have HR := Lib.hid hr
  clear hr
  go_enter Try.func8, Try.ntmps8
  go_wp2
  go_loopw [5, 8] (fun _ i wr => ∃ k : Nat, k ≤ n ∧ i = .int .i64 k ∧ negA l k = false ∧ wr.heap[w.heap.size]? = some (.cells #[.slice none 0 0] 26 (0, 0)) ∧ Below w.heap.size w wr) (fun _ i _ => n - (intOf i).toNat)
  case atStart => exact ⟨0, by omega, rfl, rfl, heap_alloc_new w _, (Below.refl _ _).alloc (Nat.le_refl _) _⟩
  case round =>
    obtain ⟨k, hk, rfl, hneg, hrow, hb⟩ := hrel
    have HN := Lib.hid hneg
    have HW := Lib.hid hrow
    have HB := Lib.hid hb
    have hz : w.heap.size < wr.heap.size := (Array.getElem?_eq_some_iff.1 hrow).1
    have f0 : wr.frozen? ⟨w.heap.size, 0, none⟩ = false := frozen_of_row _ _ 0 _ _ hrow
    have r0 : wr.cell? ⟨w.heap.size, 0, none⟩ = some (.slice none 0 0) := by rw [cell_of_row _ _ 0 _ _ _ hrow]; rfl
    clear hneg hrow hb
    by_cases hlt : k < n
    · obtain ⟨b, off, rfl, hbB, c0, c1, b1, b2⟩ := HR.out.at_ hlt
      rw [← HB.out.cell (show b < w.heap.size by omega)] at c0 c1
      by_cases hx : aat l k < 0
      · have HE := Lib.hid (show acksE l n = 1 by simp [acksE, negA_mono (l := l) (k := k + 1) (by simp [negA, hx]) n (by omega)])
        go_wp2
        (try simp only [Exit.inBlock, Exit.then])
        refine bodyPost_ret (v := .tuple #[.agg #[.slice none 0 0], .int .i64 1]) (by rw [results, Try.results8]; simp [go_sem, r0, cell_alloc_old (w := wr.setCell ⟨w.heap.size, 0, none⟩ (.slice none 0 0)) (p := ⟨w.heap.size, 0, none⟩) (by simpa using hz)]) rfl ?_
        refine ⟨none, 0, 0, by rw [HE.out], by rw [HE.out]; rfl, by rw [HE.out]; exact World.ownsRow_nil _ _ _ _, (HB.out.setCell (Nat.le_refl _) _).alloc (by simpa using HB.out.size) _⟩
      · have HN' := Lib.hid (show negA l (k + 1) = false by simp only [negA, HN.out, Bool.false_or]; simpa using hx)
        go_wp2
        refine ⟨⟨k + 1, by omega, by go_num, HN'.out, ?_, HB.out.alloc HB.out.size _⟩, by simp [intOf]; omega⟩
        rw [heap_alloc_old _ _ hz]
        exact HW.out
    · obtain rfl : k = n := by omega
      by_cases h6 : 256 < k
      · have HE := Lib.hid (show acksE l k = 2 by simp [acksE, HN.out, h6])
        go_wp2
        (try simp only [Exit.inBlock, Exit.then])
        refine bodyPost_ret (v := .tuple #[.agg #[.slice none 0 0], .int .i64 2]) (by simp [results, Try.results8, go_sem, r0]) rfl ?_
        refine ⟨none, 0, 0, by rw [HE.out], by rw [HE.out]; rfl, by rw [HE.out]; exact World.ownsRow_nil _ _ _ _, HB.out.setCell (Nat.le_refl _) _⟩
      · have HE := Lib.hid (show acksE l k = 0 by simp [acksE, HN.out, h6])
        go_wp2_with (at_builtin; refine wl_app TA rfl (.const (.slice none 0 0)) (.tmp 21) rfl (.slice none 0 0) rfl A k c rfl w.heap.size 0 [] ?c1 B (ackv l) ?c2 (ackv_one l) ?c4 ?c5 HB.out.size ?c7)
        case c1 => exact World.ownsRow_nil _ _ _ _
        case c2 => exact (HR.out.below (HB.out.mono hB)).1
        case c4 => omega
        case c5 => omega
        case c7 =>
          intro A2 c2 w2 hown2 hg2 hat
          try simp only [Nat.zero_add, List.nil_append] at hown2
          have HO2 := Lib.hid hown2
          have HB2 := Lib.hid (HB.out.grown hg2 HB.out.size (by simp [Value.ownBlock]))
          have hrow2 : w2.heap[w.heap.size]? = some (.cells #[.slice none 0 0] 26 (0, 0)) := by rw [hg2.block _ hz (by simp [Value.ownBlock])]; exact HW.out
          have f0 : w2.frozen? ⟨w.heap.size, 0, none⟩ = false := frozen_of_row _ _ 0 _ _ hrow2
          have r0 : w2.cell? ⟨w.heap.size, 0, none⟩ = some (.slice none 0 0) := by rw [cell_of_row _ _ 0 _ _ _ hrow2]; rfl
          have hne : (Value.slice A2 k c2).ownBlock = none ∨ (Value.slice A2 k c2).ownBlock ≠ some w.heap.size := by
            rcases hat with h | h
            · exact .inl h
            · right
              intro he
              have := h.symm.trans he
              simp at this
              omega
          clear hown2 hg2 hat hrow2
          go_wp2
          (try simp only [Exit.inBlock, Exit.then])
          refine bodyPost_ret (v := .tuple #[.agg #[.slice A2 k c2], .int .i64 0]) (by simp [results, Try.results8, go_sem, r0]) rfl ?_
          refine ⟨A2, k, c2, by rw [HE.out], by rw [HE.out]; simp, ?_, HB2.out.setCell (Nat.le_refl _) _⟩
          rw [HE.out, if_pos rfl]
          exact HO2.out.kept (row := some w.heap.size) ⟨rfl, rfl, rfl, by simp, fun j _ hj => heap_setCell_other _ _ _ _ (fun e => hj (congrArg some e))⟩ hne

/-- new blocks alone -/
def RetF (w : World) (v : Value) (e : Ending) (w' : World) : Prop := e = .returned v ∧ Below w.heap.size w w'

theorem First_any (A : Option Addr) (n c : Nat) (l : List (Int × Int)) (id : Int) (w : World) (B : Nat) (hr : RA w B A n l) (hB : B ≤ w.heap.size) (hn : n * 16 ≤ 140737488355328) :
    Calls Try.prog 12 #[.agg #[.slice A n c], .int .u64 id] w (RetF w (.tuple #[.int .i64 (firstTo l id n).1, .bool (firstTo l id n).2])) := by
  have HR := Lib.hid hr
  clear hr
  go_enter Try.func12, Try.ntmps12
  go_wp2
  go_loopw [6, 7, 9, 13] (fun a o _ i wr => ∃ k : Nat, k ≤ n ∧ i = .int .i64 k ∧ a = .int .i64 (firstTo l id k).1 ∧ o = .bool (firstTo l id k).2 ∧ Below w.heap.size w wr) (fun _ _ _ i _ => n - (intOf i).toNat)
  case atStart => exact ⟨0, by omega, rfl, rfl, rfl, (Below.refl _ _).alloc (Nat.le_refl _) _⟩
  case round =>
    obtain ⟨k, hk, rfl, rfl, rfl, hb⟩ := hrel
    have HB := Lib.hid hb
    clear hb
    by_cases hlt : k < n
    · obtain ⟨b, off, rfl, hbB, c0, c1, b1, b2⟩ := HR.out.at_ hlt
      rw [← HB.out.cell (show b < w.heap.size by omega)] at c0 c1
      have HF := Lib.hid (show firstTo l id (k + 1) = if aid l k = id ∧ ((firstTo l id k).2 = false ∨ aat l k < (firstTo l id k).1) then (aat l k, true) else firstTo l id k from rfl)
      obtain ⟨⟨a, o⟩, hao⟩ : ∃ q, firstTo l id k = q := ⟨_, rfl⟩
      rw [hao] at HF
      rw [hao]
      clear hao
      generalize aat l k = x at *
      generalize aid l k = y at *
      by_cases hy : y = id
      · subst hy
        cases o
        · have HF' := Lib.hid (show firstTo l y (k + 1) = (x, true) by rw [HF.out]; simp)
          clear HF
          go_wp2
          exact ⟨⟨k + 1, by omega, by go_num, by rw [HF'.out], by rw [HF'.out], HB.out.alloc HB.out.size _⟩, by simp [intOf]; omega⟩
        · by_cases hx : x < a
          · have HF' := Lib.hid (show firstTo l y (k + 1) = (x, true) by rw [HF.out]; simp [hx])
            clear HF
            go_wp2
            exact ⟨⟨k + 1, by omega, by go_num, by rw [HF'.out], by rw [HF'.out], HB.out.alloc HB.out.size _⟩, by simp [intOf]; omega⟩
          · have HF' := Lib.hid (show firstTo l y (k + 1) = (a, true) by rw [HF.out]; simp [hx])
            clear HF
            go_wp2
            exact ⟨⟨k + 1, by omega, by go_num, by rw [HF'.out], by rw [HF'.out], HB.out.alloc HB.out.size _⟩, by simp [intOf]; omega⟩
      · have hbb : (y == id) = false := by simpa using hy
        have HF' := Lib.hid (show firstTo l id (k + 1) = (a, o) by rw [HF.out]; simp [hy])
        clear HF hy
        go_wp2
        exact ⟨⟨k + 1, by omega, by go_num, by rw [HF'.out], by rw [HF'.out], HB.out.alloc HB.out.size _⟩, by simp [intOf]; omega⟩
    · obtain rfl : k = n := by omega
      go_wp2
      go_ret2
      exact ⟨rfl, HB.out⟩

theorem Acked_any (A : Option Addr) (n c : Nat) (l : List (Int × Int)) (id now : Int) (w : World) (B : Nat) (hr : RA w B A n l) (hB : B ≤ w.heap.size) (hn : n * 16 ≤ 140737488355328) :
    Calls Try.prog 9 #[.agg #[.slice A n c], .int .u64 id, .int .i64 now] w (RetF w (.bool ((firstTo l id n).2 && decide ((firstTo l id n).1 ≤ now)))) := by
  have HR := Lib.hid hr
  clear hr
  go_enter Try.func9, Try.ntmps9
  go_wp2_with fail
  refine (First_any _ _ _ l id _ B (HR.out.alloc hB _) (by simp; omega) hn).mono ?_
  rintro e w1 ⟨rfl, hb⟩
  have HB := Lib.hid (((Below.refl _ w).alloc (Nat.le_refl _) _).trans (hb.mono (by simp)))
  clear hb
  obtain ⟨⟨a, o⟩, hao⟩ : ∃ q, firstTo l id n = q := ⟨_, rfl⟩
  rw [hao]
  have HA := Lib.hid hao
  clear hao
  cases o
  · go_wp2
    go_ret
    exact ⟨by rw [HA.out]; rfl, HB.out⟩
  · by_cases h : a ≤ now
    · have hd : decide (a ≤ now) = true := by simpa using h
      go_wp2
      go_ret
      exact ⟨by rw [HA.out]; simp [h], HB.out⟩
    · have hd : decide (a ≤ now) = false := by simpa using h
      go_wp2
      go_ret
      exact ⟨by rw [HA.out]; simp [h], HB.out⟩
end Go.Proofs.Ytcjpfjmmnnfieaa
