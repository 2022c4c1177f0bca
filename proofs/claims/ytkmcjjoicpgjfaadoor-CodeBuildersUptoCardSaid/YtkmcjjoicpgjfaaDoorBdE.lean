/-
  Contracts of bytes.Equal and slices.Equal (numbers, stops): exact. Conditions: the sizes that slices can have.
-/
import Derived.Test.YtkmcjjoicpgjfaaDoorBdD
namespace Go.Proofs.YtkmcjjoicpgjfaaDoor
open Go Go.RowKit Go.Sh

theorem bytes_loop (bs : ByteArray) : ∀ (k i : Nat) (r : List UInt8), bs.size - i = k → ByteArray.toList.loop bs i r = r.reverse ++ bs.data.toList.drop i
  | 0, i, r, h => by
    have hs : bs.data.toList.length = bs.size := rfl
    unfold ByteArray.toList.loop
    rw [if_neg (by omega), List.drop_eq_nil_of_le (by omega), List.append_nil]
  | k + 1, i, r, h => by
    have hs : bs.data.toList.length = bs.size := rfl
    unfold ByteArray.toList.loop
    have hi : i < bs.size := by omega
    rw [if_pos hi, bytes_loop bs k (i + 1) _ (by omega), List.reverse_cons, List.append_assoc, List.drop_eq_getElem_cons (show i < bs.data.toList.length by omega)]
    congr 1
    have e : bs.get! i = bs.data.toList[i]'(by omega) := by
      show bs.data[i]! = _
      rw [getElem!_pos bs.data i hi, Array.getElem_toList]
    rw [e]
    rfl
theorem bytes_toList (bs : ByteArray) : bs.toList = bs.data.toList := by
  unfold ByteArray.toList
  rw [bytes_loop bs bs.size 0 [] (by omega)]
  rfl
theorem bytes_eq (a b : ByteArray) : (a.toList == b.toList) = decide (a = b) := by
  rw [bytes_toList, bytes_toList, Bool.eq_iff_iff, beq_iff_eq, decide_eq_true_iff]
  exact ⟨fun h => WideShapes.bytes_inj h, fun h => by rw [h]⟩
set_option maxRecDepth 100000 in
theorem BytesEqual_any (A A' : Option Addr) (n n' c c' : Nat) (l r : List UInt8) (w : World) (B B' : Nat) (hl : RB w B A n l) (hr : RB w B' A' n' r) :
    Calls Tryd.prog 55 #[.slice A n c, .slice A' n' c'] w fun e w' => e = .returned (.bool (decide (l = r))) ∧ w = w' := by
  have h1 : (convert 39 9 (.slice A n c)).run Tryd.prog w = .ok (.string ⟨l.toArray⟩) w := run_str Tryd.underlying39 Tryd.underlying5 Tryd.underlying9 w B A n c l hl
  have h2 : (convert 39 9 (.slice A' n' c')).run Tryd.prog w = .ok (.string ⟨r.toArray⟩) w := run_str Tryd.underlying39 Tryd.underlying5 Tryd.underlying9 w B' A' n' c' r hr
  have he : decide ((⟨l.toArray⟩ : ByteArray) = ⟨r.toArray⟩) = decide (l = r) := by
    congr 1
    simp
  obtain ⟨s, hs⟩ : ∃ s : ByteArray, s = ⟨l.toArray⟩ := ⟨_, rfl⟩
  obtain ⟨u, hu⟩ : ∃ s : ByteArray, s = ⟨r.toArray⟩ := ⟨_, rfl⟩
  rw [← hs] at h1 he
  rw [← hu] at h2 he
  rw [← he]
  clear hl hr hs hu he
  go_enter Tryd.func55, Tryd.ntmps55
  go_wp2_with fail
  go_ret
  exact ⟨by rw [← bytes_eq]; rfl, rfl⟩
theorem it_take_succ {l : List Int} {k : Nat} (h : k < l.length) : l.take (k + 1) = l.take k ++ [it l k] := by
  rw [List.take_add_one, List.getElem?_eq_getElem h, it, List.getD_eq_getElem?_getD, List.getElem?_eq_getElem h]
  rfl
theorem ne_at {α : Type} {l r : List α} {k : Nat} {x y : α} (hl : l[k]? = some x) (hr : r[k]? = some y) (h : x ≠ y) : l ≠ r := fun e => by
  subst e
  rw [hl] at hr
  exact h (Option.some.inj hr)
theorem it_get {l : List Int} {k : Nat} (h : k < l.length) : l[k]? = some (it l k) := by
  rw [it, List.getD_eq_getElem?_getD, List.getElem?_eq_getElem h]
  rfl
set_option maxHeartbeats 2000000 in
set_option maxRecDepth 100000 in
theorem SlEqInt_any (A A' : Option Addr) (n n' c c' : Nat) (l r : List Int) (w : World) (B B' : Nat) (hl : RI w B A n l) (hr : RI w B' A' n' r) (hn : n ≤ 140737488355328) (hn' : n' ≤ 140737488355328) :
    Calls Tryd.prog 62 #[.slice A n c, .slice A' n' c'] w (EqPost w (decide (l = r))) := by
  have HL := Lib.hid hl
  have HR := Lib.hid hr
  have hll := hl.len
  have hrl := hr.len
  clear hl hr
  by_cases hnn : n = n'
  · subst hnn
    have dnn : ((n : Int) != (n : Int)) = false := by simp
    obtain ⟨R, hR⟩ : ∃ R, decide (l = r) = R := ⟨_, rfl⟩
    rw [hR]
    have HRR := Lib.hid hR
    clear hR
    go_enter Tryd.func62, Tryd.ntmps62
    go_wp2_with fail
    go_loopw [13, 5] (fun i _ wr => ∃ k d : Nat, k ≤ n ∧ i = .int .i64 (k : Int) ∧ wr = w.drewN d ∧ l.take k = r.take k) (fun i _ _ => n - (intOf i).toNat)
    case atStart => exact ⟨0, 0, by omega, rfl, rfl, rfl⟩
    case round =>
      obtain ⟨k, d, hk, rfl, rfl, ht⟩ := hrel
      have HT := Lib.hid ht
      clear ht
      by_cases hlt : k < n
      · obtain ⟨ad, rfl, _, he, _⟩ := HL.out.at_ hlt
        obtain ⟨ad', rfl, _, he', _⟩ := HR.out.at_ hlt
        have hki : (k : Int) < (n : Int) := by omega
        have HE := Lib.hid (it_take_succ (l := l) (k := k) (by omega))
        have HE' := Lib.hid (it_take_succ (l := r) (k := k) (by omega))
        have HG := Lib.hid (it_get (l := l) (k := k) (by omega))
        have HG' := Lib.hid (it_get (l := r) (k := k) (by omega))
        generalize it l k = x at *
        generalize it r k = y at *
        by_cases hxy : x = y
        · subst hxy
          have hxx : (x != x) = false := by simp
          go_wp2_with fail
          go_quiet (fail)
          go_wp2_with fail
          exact ⟨⟨k + 1, d + nq, by omega, by go_num, by first | rfl | simp, by rw [HE.out, HE'.out, HT.out]⟩, by simp [intOf]; omega⟩
        · have hxx : (x != y) = true := by simp only [bne_iff_ne, ne_eq]; exact hxy
          have HN := Lib.hid (ne_at HG.out HG'.out hxy)
          clear hxy
          go_wp2_with fail
          go_quiet (fail)
          go_wp2_with fail
          go_ret
          exact ⟨by rw [← HRR.out, decide_eq_false HN.out]; rfl, d + nq, by first | rfl | simp⟩
      · obtain rfl : k = n := by omega
        have HEQ := Lib.hid (show l = r by have h := HT.out; rwa [List.take_of_length_le (by omega), List.take_of_length_le (by omega)] at h)
        go_wp2_with fail
        go_ret
        exact ⟨by rw [← HRR.out, decide_eq_true HEQ.out]; rfl, d, rfl⟩
  · have hne : ((n : Int) != (n' : Int)) = true := by simp only [bne_iff_ne, ne_eq]; omega
    have hd : decide (l = r) = false := decide_eq_false fun e => hnn (by rw [← hll, ← hrl, e])
    rw [hd]
    go_enter Tryd.func62, Tryd.ntmps62
    go_wp2_with fail
    go_ret
    exact ⟨rfl, 0, rfl⟩
theorem sat_take_succ {l : List Sp} {k : Nat} (h : k < l.length) : l.take (k + 1) = l.take k ++ [sat l k] := by
  rw [List.take_add_one, sat_eq h]
  rfl
set_option maxHeartbeats 2000000 in
set_option maxRecDepth 100000 in
theorem SlEqStop_any (A A' : Option Addr) (n n' c c' : Nat) (l r : List Sp) (w : World) (B B' : Nat) (hl : RR w B 3 A n (l.map Sp.cells)) (hr : RR w B' 3 A' n' (r.map Sp.cells)) (hn : n ≤ 140737488355328) (hn' : n' ≤ 140737488355328) (R : Bool) (hR : R = true ↔ l = r) :
    Calls Tryd.prog 58 #[.slice A n c, .slice A' n' c'] w (EqPost w R) := by
  have HL := Lib.hid hl
  have HR := Lib.hid hr
  have hll := hl.len
  have hrl := hr.len
  rw [List.length_map] at hll hrl
  clear hl hr
  by_cases hnn : n = n'
  · subst hnn
    have dnn : ((n : Int) != (n : Int)) = false := by simp
    have HRR := Lib.hid hR
    clear hR
    go_enter Tryd.func58, Tryd.ntmps58
    go_wp2_with fail
    go_loopw [13, 5] (fun i _ wr => ∃ k d : Nat, k ≤ n ∧ i = .int .i64 (k : Int) ∧ wr = w.drewN d ∧ l.take k = r.take k) (fun i _ _ => n - (intOf i).toNat)
    case atStart => exact ⟨0, 0, by omega, rfl, rfl, rfl⟩
    case round =>
      obtain ⟨k, d, hk, rfl, rfl, ht⟩ := hrel
      have HT := Lib.hid ht
      clear ht
      by_cases hlt : k < n
      · obtain ⟨b1, o1, rfl, _, e0, e1, e2⟩ := stop_at HL.out hlt
        obtain ⟨b2, o2, rfl, _, f0, f1, f2⟩ := stop_at HR.out hlt
        have hki : (k : Int) < (n : Int) := by omega
        have HE := Lib.hid (sat_take_succ (l := l) (k := k) (by omega))
        have HE' := Lib.hid (sat_take_succ (l := r) (k := k) (by omega))
        have HG := Lib.hid (sat_eq (ss := l) (k := k) (by omega))
        have HG' := Lib.hid (sat_eq (ss := r) (k := k) (by omega))
        generalize sat l k = x at *
        generalize sat r k = y at *
        by_cases hxy : x = y
        · subst hxy
          obtain ⟨nm, dl, fl⟩ := x
          simp only at e0 e1 e2 f0 f1 f2
          go_wp2_with fail
          go_quiet (fail)
          go_wp2_with fail
          exact ⟨⟨k + 1, d + nq, by omega, by go_num, by first | rfl | simp, by rw [HE.out, HE'.out, HT.out]⟩, by simp [intOf]; omega⟩
        · have HN := Lib.hid (ne_at HG.out HG'.out hxy)
          obtain ⟨nm, dl, fl⟩ := x
          obtain ⟨nm', dl', fl'⟩ := y
          simp only at e0 e1 e2 f0 f1 f2
          by_cases q1 : nm = nm'
          · subst q1
            by_cases q2 : dl = dl'
            · subst q2
              have q3 : ¬ fl = fl' := fun e => hxy (by rw [e])
              have t3 : (fl == fl') = false := by rw [beq_eq_false_iff_ne]; exact q3
              clear hxy q3
              go_wp2_with fail
              go_quiet (fail)
              go_wp2_with fail
              go_ret
              exact ⟨by rw [show R = false from by cases R with | false => rfl | true => exact absurd (HRR.out.1 rfl) HN.out]; rfl, d + nq, by first | rfl | simp⟩
            · have t2 : (dl == dl') = false := by rw [beq_eq_false_iff_ne]; exact q2
              clear hxy q2
              go_wp2_with fail
              go_quiet (fail)
              go_wp2_with fail
              go_ret
              exact ⟨by rw [show R = false from by cases R with | false => rfl | true => exact absurd (HRR.out.1 rfl) HN.out]; rfl, d + nq, by first | rfl | simp⟩
          · have t1 : (nm.toList == nm'.toList) = false := by rw [bytes_eq]; exact decide_eq_false q1
            clear hxy q1
            go_wp2_with fail
            go_quiet (fail)
            go_wp2_with fail
            go_ret
            exact ⟨by rw [show R = false from by cases R with | false => rfl | true => exact absurd (HRR.out.1 rfl) HN.out]; rfl, d + nq, by first | rfl | simp⟩
      · obtain rfl : k = n := by omega
        have HEQ := Lib.hid (show l = r by have h := HT.out; rwa [List.take_of_length_le (by omega), List.take_of_length_le (by omega)] at h)
        go_wp2_with fail
        go_ret
        exact ⟨by rw [show R = true from HRR.out.2 HEQ.out]; rfl, d, rfl⟩
  · have hne : ((n : Int) != (n' : Int)) = true := by simp only [bne_iff_ne, ne_eq]; omega
    obtain rfl : R = false := by cases R with | false => rfl | true => exact absurd (by rw [← hll, ← hrl, hR.1 rfl]) hnn
    clear hR
    go_enter Tryd.func58, Tryd.ntmps58
    go_wp2_with fail
    go_ret
    exact ⟨rfl, 0, rfl⟩
end Go.Proofs.YtkmcjjoicpgjfaaDoor
