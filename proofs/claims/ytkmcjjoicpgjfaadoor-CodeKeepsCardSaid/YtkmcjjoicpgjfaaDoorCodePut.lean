/-
  Contract of code.put: a number of so many bytes, the most significant first, behind a row of the call's own. Conditions: the sizes that slices can have.
-/
import Derived.Test.YtkmcjjoicpgjfaaDoorAppE
namespace Go.Proofs.YtkmcjjoicpgjfaaDoor
open Go Go.RowKit Go.Sh

/-- byte number k of a number, from the right -/
def beK (n : Int) (k : Nat) : UInt8 := UInt8.ofNat (n / 2 ^ (8 * k) % 256).toNat
/-- the last d bytes of a number -/
def beB : Nat → Int → List UInt8
  | 0, _ => []
  | d + 1, n => beK n d :: beB d n
theorem beK_int (n : Int) (k : Nat) : ((beK n k).toNat : Int) = n / 2 ^ (8 * k) % 256 := by
  unfold beK
  rw [UInt8.toNat_ofNat']
  generalize n / 2 ^ (8 * k) = x
  omega
theorem beB_len : ∀ (d : Nat) (n : Int), (beB d n).length = d
  | 0, _ => rfl
  | d + 1, n => by show (beB d n).length + 1 = _; rw [beB_len d n]
set_option maxRecDepth 100000 in
set_option maxHeartbeats 2000000 in
theorem put_any (d : Nat) (n : Int) (hd0 : 1 ≤ d) (hd : d ≤ 4) (A : Option Addr) (m c : Nat) (l : List UInt8) (w : World) (base : Nat) (ho : EO base w A m c l) (hB : base ≤ w.heap.size) (hm : m ≤ 140737488355000) :
    Calls Tryd.prog 51 #[.slice A m c, .int .i64 (d : Int), .int .i64 n] w (fun e w' => ∃ A' c', e = .returned (.slice A' (m + d) c') ∧ w'.ownsRow base 5 1 (.slice A' (m + d) c') (m + d) (bv (l ++ beB d n)) ∧ Below base w w' ∧ Far w w' (.slice A m c) (.slice A' (m + d) c')) := by
  have HO0 := Lib.hid ho
  have w1 : IntKind.i64.wrap ((d : Int) - 1) = (d : Int) - 1 := by rw [IntKind.wrap_i64]; omega
  have w2 : IntKind.i64.wrap (8 * ((d : Int) - 1)) = 8 * ((d : Int) - 1) := by rw [IntKind.wrap_i64]; omega
  have hml : l.length = m := ho.len
  clear ho
  go_enter Tryd.func51, Tryd.ntmps51
  go_wp2_with fail
  go_loopw [0, 7] (fun o s wr => ∃ (j : Nat) (A' : Option Addr) (c' : Nat) (r : List UInt8), j ≤ d ∧ s = .int .i64 (8 * ((j : Int) - 1)) ∧ o = .slice A' (m + (d - j)) c' ∧ r ++ beB j n = l ++ beB d n ∧ EO base wr A' (m + (d - j)) c' r ∧ (j < d → wr.ownsRow base 5 1 (.slice A' (m + (d - j)) c') (m + (d - j)) (bv r)) ∧ Below base w wr ∧ Far w wr (.slice A m c) (.slice A' (m + (d - j)) c')) (fun _ s _ => ((intOf s) + 8).toNat)
  case atStart => exact ⟨d, A, c, l, by omega, rfl, by rw [Nat.sub_self]; rfl, rfl, by rw [Nat.sub_self]; exact HO0.out, fun h => absurd h (by omega), Below.refl _ _, by rw [Nat.sub_self]; exact Far.refl _ _⟩
  case round =>
    obtain ⟨j, A', c', r, hj, rfl, rfl, hr, ho, how, hb, hfar⟩ := hrel
    have HOW := Lib.hid how
    have HF := Lib.hid hfar
    clear how hfar
    have HR := Lib.hid hr
    have HO := Lib.hid ho
    have HB := Lib.hid hb
    have hs := hb.size
    clear hr ho hb w1 w2
    rcases j with _ | p
    · have HRR := Lib.hid (show r = l ++ beB d n by have := HR.out; rwa [show beB 0 n = [] from rfl, List.append_nil] at this)
      have e1 : (8 * (((0 : Nat) : Int) - 1)) = -8 := by omega
      rw [Nat.sub_zero] at HOW
      have HF0 := Lib.hid (show Far w wr (.slice A m c) (.slice A' (m + d) c') from HF.out)
      rw [e1, Nat.sub_zero]
      have HO1 := Lib.hid (show wr.ownsRow base 5 1 (.slice A' (m + d) c') (m + d) (bv (l ++ beB d n)) by rw [← HRR.out]; exact HOW.out (by omega))
      clear HO HR HRR e1 HOW
      go_wp2_with fail
      go_ret
      exact ⟨A', c', rfl, HO1.out, HB.out, HF0.out⟩
    · have hsh : (8 * (((p + 1 : Nat) : Int) - 1)) = ((8 * p : Nat) : Int) := by omega
      rw [hsh]
      have hp : p ≤ 3 := by omega
      have HRR := Lib.hid (show (r ++ [beK n p]) ++ beB p n = l ++ beB d n by rw [← HR.out, List.append_assoc]; rfl)
      have HBK := Lib.hid (show [Value.int .u8 (n / 2 ^ (8 * p) % 256)] = bv [beK n p] by show _ = [Value.int .u8 ((beK n p).toNat : Int)]; rw [beK_int])
      obtain ⟨k, hk⟩ : ∃ k, m + (d - (p + 1)) = k := ⟨_, rfl⟩
      have hk2 : m + (d - p) = k + 1 := by omega
      rw [hk] at HO HF ⊢
      clear HR hsh HOW
      go_wp2_with (at_builtin; refine wl_appE rfl (.tmp 15) (.tmp 20) rfl A' k c' rfl (some ⟨wr.heap.size, 0, none⟩) 1 1 rfl base r (HO.out.later ((Below.refl _ _).alloc (Nat.le_refl _) _)) (wr.heap.size + 1) [beK n p] ?ha0 (Nat.one_pos) ?ha2 ?ha4 ?ha5)
      case ha0 =>
        unfold RB
        rw [← HBK.out]
        exact Reads.lit wr _ _ 1 1 rfl _ rfl
      case ha2 => omega
      case ha4 => simp; omega
      case ha5 =>
        intro A2 c2 w2 hown2 hb2 hf2
        have HF2 := Lib.hid (HF.out.trans ((Far.of_below _ ((Below.refl _ _).alloc (Nat.le_refl _) _)).trans hf2 (by simp)) hs)
        have HB2 := Lib.hid ((HB.out.alloc (by omega) _).trans hb2)
        have HO2 := Lib.hid hown2
        clear hown2 hb2 hf2
        go_wp2_with fail
        refine ⟨⟨p, A2, c2, r ++ [beK n p], by omega, ?_, by rw [hk2], HRR.out, by rw [hk2]; exact .inl HO2.out, fun _ => by rw [hk2]; exact HO2.out, HB2.out, by rw [hk2]; exact HF2.out⟩, ?_⟩
        · congr 1; omega
        · simp [intOf]; omega
/-- what a call has written so far, and what is still to come -/
def EOr (base : Nat) (w : World) (A : Option Addr) (m c : Nat) (rest E : List UInt8) : Prop := ∃ l, EO base w A m c l ∧ l ++ rest = E
def OWr (base : Nat) (w : World) (A : Option Addr) (m c : Nat) (rest E : List UInt8) : Prop := ∃ l, w.ownsRow base 5 1 (.slice A m c) m (bv l) ∧ l ++ rest = E
theorem OWr.eo {base : Nat} {w : World} {A : Option Addr} {m c : Nat} {rest E : List UInt8} (h : OWr base w A m c rest E) : EOr base w A m c rest E := by
  obtain ⟨l, h1, h2⟩ := h
  exact ⟨l, .inl h1, h2⟩
theorem EOr.to {base : Nat} {w : World} {A : Option Addr} {m c : Nat} {rest rest' E : List UInt8} (h : EOr base w A m c rest E) (e : rest = rest') : EOr base w A m c rest' E := e ▸ h
theorem OWr.to {base : Nat} {w : World} {A : Option Addr} {m c : Nat} {rest rest' E : List UInt8} (h : OWr base w A m c rest E) (e : rest = rest') : OWr base w A m c rest' E := e ▸ h
theorem EOr.later {base : Nat} {w w' : World} {A : Option Addr} {m c : Nat} {rest E : List UInt8} (h : EOr base w A m c rest E) (hb : Below w.heap.size w w') : EOr base w' A m c rest E := by
  obtain ⟨l, h1, h2⟩ := h
  exact ⟨l, h1.later hb, h2⟩
theorem OWr.later {base : Nat} {w w' : World} {A : Option Addr} {m c : Nat} {rest E : List UInt8} (h : OWr base w A m c rest E) (hb : Below w.heap.size w w') : OWr base w' A m c rest E := by
  obtain ⟨l, h1, h2⟩ := h
  exact ⟨l, own_later h1 hb, h2⟩
theorem OWr.not_new {base : Nat} {w : World} {A : Option Addr} {m c : Nat} {rest E : List UInt8} (h : OWr base w A m c rest E) {k : Nat} (hk : w.heap.size ≤ k) : (Value.slice A m c).ownBlock ≠ some k := by
  obtain ⟨l, h1, _⟩ := h
  intro e
  have := (h1.lt k e).2
  omega
theorem putR_any (d : Nat) (n : Int) (hd0 : 1 ≤ d) (hd : d ≤ 4) (A : Option Addr) (m c : Nat) (w : World) (base : Nat) (rest E : List UInt8) (ho : EOr base w A m c (beB d n ++ rest) E) (hB : base ≤ w.heap.size) (hE : E.length ≤ 140737488355000) :
    Calls Tryd.prog 51 #[.slice A m c, .int .i64 (d : Int), .int .i64 n] w (fun e w' => ∃ A' m' c', e = .returned (.slice A' m' c') ∧ OWr base w' A' m' c' rest E ∧ Below base w w' ∧ Far w w' (.slice A m c) (.slice A' m' c') ∧ 0 < m') := by
  obtain ⟨l, h1, h2⟩ := ho
  refine (put_any d n hd0 hd A m c l w base h1 hB ?_).mono ?_
  · have := h1.len
    have h3 := congrArg List.length h2
    rw [List.length_append] at h3
    omega
  · rintro e w' ⟨A', c', rfl, h3, h4, h5⟩
    exact ⟨A', m + d, c', rfl, ⟨_, h3, by rw [← h2, List.append_assoc]⟩, h4, h5, by omega⟩
end Go.Proofs.YtkmcjjoicpgjfaaDoor
