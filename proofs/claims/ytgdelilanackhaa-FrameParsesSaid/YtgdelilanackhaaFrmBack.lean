/-
  Bytes that are parsed as a part in form are that part's frame just if the byte that is nought and the tail are noughts. No program in sight.
-/
import Derived.Test.YtgdelilanackhaaParsed
namespace Go.Proofs.Ytgdelilanackhaa
open Go Go.RowKit Go.Sh

theorem val_dg {f : Nat → Nat} (h : ∀ j, f j < 256) : ∀ m j, j < m → val f m / 256 ^ j % 256 = f j := by
  intro m
  induction m with
  | zero => intro j hj; omega
  | succ m ih =>
    intro j hj
    rw [val]
    have hpos : 0 < 256 ^ j := Nat.pow_pos (by decide)
    by_cases hjm : j = m
    · subst hjm
      rw [Nat.add_mul_div_right _ _ hpos, Nat.div_eq_of_lt (val_lt h j), Nat.zero_add, Nat.mod_eq_of_lt (h j)]
    · have e : (256 : Nat) ^ m = 256 ^ (m - j - 1) * 256 * 256 ^ j := by
        rw [← Nat.pow_succ, ← Nat.pow_add]
        congr 1
        omega
      rw [e, ← Nat.mul_assoc, Nat.add_mul_div_right _ _ hpos, ← Nat.mul_assoc, Nat.add_mul_mod_self_right]
      exact ih j (by omega)
/-- bytes that are read as a number and written again -/
theorem put_vl (l : List UInt8) (a d : Nat) (h : a + d ≤ l.length) : putB 2 d (val (fun j => by8 l (a + d - 1 - j)) d) = (l.drop a).take d := by
  rw [show putB 2 d (val (fun j => by8 l (a + d - 1 - j)) d) = rowf d (fun i => pc (val (fun j => by8 l (a + d - 1 - j)) d) (d - 1 - i)) by simp [putB]]
  apply List.ext_getElem
  · rw [length_rowf, List.length_take, List.length_drop]; omega
  · intro i h1 h2
    rw [length_rowf] at h1
    have hp := pc_nat (val (fun j => by8 l (a + d - 1 - j)) d) (d - 1 - i)
    rw [val_dg (fun j => by8_lt _ _) d (d - 1 - i) (by omega), show a + d - 1 - (d - 1 - i) = a + i by omega] at hp
    have e : (rowf d (fun i => pc (val (fun j => by8 l (a + d - 1 - j)) d) (d - 1 - i)))[i] = pc (val (fun j => by8 l (a + d - 1 - j)) d) (d - 1 - i) := by simp [rowf]
    rw [e]
    apply UInt8.toNat_inj.1
    rw [hp]
    unfold by8
    rw [List.getD_eq_getElem?_getD, List.getElem?_eq_getElem (by omega)]
    simp
theorem allZ_eq {l : List UInt8} : allZ l = true ↔ l = zs l.length := by
  rw [allZ_iff]
  constructor
  · intro h
    apply List.ext_getElem
    · rw [length_zs]
    · intro i h1 h2
      have := h i h1
      simp only [bt, List.getD_eq_getElem?_getD, List.getElem?_eq_getElem h1, Option.getD_some] at this
      simp only [zs, List.getElem_replicate]
      exact UInt8.toNat_inj.1 (by rw [show (0 : UInt8).toNat = 0 from rfl]; omega)
  · intro h j hj
    rw [h]
    simp [bt, zs, hj]
theorem b8_bt (l : List UInt8) (k : Nat) : b8 (bt l k) = l.getD k 0 := by simp [b8, bt]
theorem split5 (l : List UInt8) (S : Nat) : l = l.take 16 ++ ((l.drop 16).take 4 ++ ((l.drop 20).take 8 ++ ((l.drop 28).take 2 ++ ((l.drop 30).take S ++ l.drop (30 + S))))) := by
  have e1 := List.take_append_drop S (l.drop 30)
  have e2 := List.take_append_drop 2 (l.drop 28)
  have e3 := List.take_append_drop 8 (l.drop 20)
  have e4 := List.take_append_drop 4 (l.drop 16)
  have e5 := List.take_append_drop 16 l
  rw [List.drop_drop] at e1 e2 e3 e4
  rw [e1, e2, e3, e4, e5]
theorem four (l : List UInt8) (h : l.length = 480) : (l.drop 16).take 4 = [l.getD 16 0, l.getD 17 0, l.getD 18 0, l.getD 19 0] := by
  apply List.ext_getElem
  · simp [h]
  · intro i h1 h2
    have hi : i < 4 := by simpa using h2
    simp only [List.getElem_take, List.getElem_drop]
    rcases (by omega : i = 0 ∨ i = 1 ∨ i = 2 ∨ i = 3) with rfl | rfl | rfl | rfl <;> simp [h]
theorem frm_back {l : List UInt8} (h : l.length = 480) (hz : allZ (l.take 16) = true) (hS : parS l ≤ 450) :
    frmL (parQ l) = l ↔ bt l 19 = 0 ∧ allZ (l.drop (30 + parS l)) = true := by
  have hI : putB 2 8 ((parI l : Int)).toNat = (l.drop 20).take 8 := by
    rw [Int.toNat_natCast, parI, dig_two]
    exact put_vl l 20 8 (by omega)
  have hSS : putB 2 2 (parS l) = (l.drop 28).take 2 := by
    rw [parS, dig_two]
    exact put_vl l 28 2 (by omega)
  have hdl : ((l.drop 30).take (parS l)).length = parS l := by rw [List.length_take, List.length_drop, h]; omega
  have h16 : l.take 16 = zs 16 := by
    have := allZ_eq.1 hz
    rw [List.length_take, h] at this
    exact this
  have hf : frmL (parQ l) = l.take 16 ++ ([l.getD 16 0, l.getD 17 0, l.getD 18 0, 0] ++ ((l.drop 20).take 8 ++ ((l.drop 28).take 2 ++ ((l.drop 30).take (parS l) ++ zs (450 - parS l))))) := by
    show frmH (parQ l) ++ (putB 2 8 ((parI l : Int)).toNat ++ (putB 2 2 ((l.drop 30).take (parS l)).length ++ ((l.drop 30).take (parS l) ++ zs (450 - ((l.drop 30).take (parS l)).length)))) = _
    rw [hdl, hI, hSS, frmH, h16, List.append_assoc]
    show zs 16 ++ ([b8 (bt l 16), b8 (bt l 17), b8 (bt l 18), 0] ++ _) = _
    rw [b8_bt, b8_bt, b8_bt]
  have hs := split5 l (parS l)
  rw [four l h] at hs
  have hdr : (l.drop (30 + parS l)).length = 450 - parS l := by rw [List.length_drop, h]; omega
  constructor
  · intro he
    rw [hf] at he
    have h2 := he.trans hs
    have h3 := List.append_cancel_left h2
    have h4 := List.append_inj h3 (by simp)
    have h5 := List.append_cancel_left (List.append_cancel_left (List.append_cancel_left h4.2))
    constructor
    · have h6 := h4.1
      simp only [List.cons.injEq, and_true, true_and] at h6
      rw [bt, ← h6]
      rfl
    · rw [← h5]
      exact allZ_zs _
  · rintro ⟨h1, h2⟩
    have h19 : l.getD 19 0 = 0 := UInt8.toNat_inj.1 (by have : ((l.getD 19 0).toNat : Int) = 0 := h1; rw [show (0 : UInt8).toNat = 0 from rfl]; omega)
    rw [h19, allZ_eq.1 h2, hdr] at hs
    rw [hf]
    exact hs.symm
end Go.Proofs.Ytgdelilanackhaa
