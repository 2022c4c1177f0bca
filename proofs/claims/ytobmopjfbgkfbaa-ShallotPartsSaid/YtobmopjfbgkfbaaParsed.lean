/-
  A frame is parsed as its part; contract of shallotref11.Twin. Conditions: the part is in form, its fields fit their types.
-/
import Derived.Test.YtobmopjfbgkfbaaParse
namespace Go.Proofs.Ytobmopjfbgkfbaa
open Go Go.RowKit Go.Sh

theorem by8_app (a b : List UInt8) (i : Nat) : by8 (a ++ b) (a.length + i) = by8 b i := by
  unfold by8
  simp only [List.getD_eq_getElem?_getD]
  rw [List.getElem?_append_right (by omega), Nat.add_sub_cancel_left]
theorem by8_left (a b : List UInt8) (i : Nat) (h : i < a.length) : by8 (a ++ b) i = by8 a i := by
  unfold by8
  simp only [List.getD_eq_getElem?_getD]
  rw [List.getElem?_append_left h]
theorem val_digs (v : Nat) : ∀ m, val (fun j => v / 256 ^ j % 256) m = v % 256 ^ m
  | 0 => by simp [val, Nat.mod_one]
  | m + 1 => by
    rw [val, val_digs v m, Nat.pow_succ, Nat.mod_mul, Nat.mul_comm]
theorem val_put (a b : List UInt8) (d v : Nat) (_hd : 1 ≤ d) (hv : v < 256 ^ d) : val (dig 2 (a ++ (putB 2 d v ++ b)) a.length d) d = v := by
  rw [dig_two, val_congr (g := fun j => v / 256 ^ j % 256) d, val_digs, Nat.mod_eq_of_lt hv]
  intro j hj
  rw [show a.length + d - 1 - j = a.length + (d - 1 - j) by omega, by8_app, by8_left _ _ _ (by rw [length_putB]; omega)]
  rw [show putB 2 d v = rowf d (fun i => pc v (d - 1 - i)) by simp [putB], by8_rowf _ (by omega), pc_nat, show d - 1 - (d - 1 - j) = j by omega]
theorem allZ_zs (n : Nat) : allZ (zs n) = true := by simp [allZ, zs]
theorem parse_frm {p : Pt} (hp : p.OK) (h : p.chk = 0) : parE (frmL p) = 0 ∧ parP (frmL p) = p := by
  obtain ⟨⟨k1, k2⟩, d1, ⟨c1, c2⟩, x1, x2⟩ := chk_ok h
  have hl := length_frmL p d1
  have e0 : frmL p = zs 16 ++ ([b8 p.k, b8 p.ix, b8 p.ct, 0] ++ (putB 2 8 p.id.toNat ++ (putB 2 2 p.d.length ++ (p.d ++ zs (450 - p.d.length))))) := by
    rw [frmL, frmH, List.append_assoc]
  have hb : ∀ i, by8 (frmL p) (16 + i) = by8 ([b8 p.k, b8 p.ix, b8 p.ct, 0] ++ (putB 2 8 p.id.toNat ++ (putB 2 2 p.d.length ++ (p.d ++ zs (450 - p.d.length))))) i := by
    intro i
    have := by8_app (zs 16) ([b8 p.k, b8 p.ix, b8 p.ct, 0] ++ (putB 2 8 p.id.toNat ++ (putB 2 2 p.d.length ++ (p.d ++ zs (450 - p.d.length))))) i
    rw [length_zs, ← e0] at this
    exact this
  have b16 : bt (frmL p) 16 = p.k := by
    rw [bt_by8, hb 0]
    exact b8_nat (z := p.k) ⟨by omega, by omega⟩
  have b17 : bt (frmL p) 17 = p.ix := by
    rw [bt_by8, hb 1]
    exact b8_nat (z := p.ix) ⟨by omega, by omega⟩
  have b18 : bt (frmL p) 18 = p.ct := by
    rw [bt_by8, hb 2]
    exact b8_nat (z := p.ct) ⟨by omega, by omega⟩
  have b19 : bt (frmL p) 19 = 0 := by
    rw [bt_by8, hb 3]
    rfl
  have hz : allZ ((frmL p).take 16) = true := by
    rw [e0, List.take_left' (length_zs 16)]
    exact allZ_zs 16
  have hS : parS (frmL p) = p.d.length := by
    have h := val_put (frmH p ++ putB 2 8 p.id.toNat) (p.d ++ zs (450 - p.d.length)) 2 p.d.length (by decide) (by omega)
    rw [List.append_assoc, List.length_append, length_frmH, length_putB] at h
    exact h
  have hI : parI (frmL p) = p.id.toNat := by
    have h := val_put (frmH p) (putB 2 2 p.d.length ++ (p.d ++ zs (450 - p.d.length))) 8 p.id.toNat (by decide) (by have := hp.id; omega)
    rw [length_frmH] at h
    exact h
  have e30 : frmL p = (frmH p ++ (putB 2 8 p.id.toNat ++ putB 2 2 p.d.length)) ++ (p.d ++ zs (450 - p.d.length)) := by
    rw [frmL, List.append_assoc, List.append_assoc]
  have hl30 : (frmH p ++ (putB 2 8 p.id.toNat ++ putB 2 2 p.d.length)).length = 30 := by
    simp only [List.length_append, length_frmH, length_putB]
  have hD : ((frmL p).drop 30).take p.d.length = p.d := by
    rw [e30, List.drop_left' hl30, List.take_left' rfl]
  have hT : (frmL p).drop (30 + p.d.length) = zs (450 - p.d.length) := by
    rw [← List.drop_drop, e30, List.drop_left' hl30, List.drop_left' rfl]
  have hQ : parQ (frmL p) = p := by
    unfold parQ
    rw [b16, b17, b18, hS, hI, hD]
    have : ((p.id.toNat : Nat) : Int) = p.id := by have := hp.id; omega
    rw [this]
  have hE : parE (frmL p) = 0 := by
    rw [parE, if_neg (by rw [hl]; decide), if_neg (by rw [hz]; decide), b16, if_neg (by omega), b19, hS, if_neg (by omega), hQ, hT, allZ_zs, h, if_neg (by simp)]
  exact ⟨hE, by rw [parP, if_pos hE, hQ]⟩

/-- a part of its own -/
def TwinPost (w : World) (p : Pt) (n : Nat) (e : Ending) (w' : World) : Prop :=
  ∃ g c, e = .returned (.agg #[.int .u8 p.k, .int .u64 p.id, .int .i64 p.ix, .int .i64 p.ct, .slice (some ⟨g, 0, none⟩) n c]) ∧ w'.ownsRow w.heap.size 5 1 (.slice (some ⟨g, 0, none⟩) n c) n (bv p.d) ∧ Below w.heap.size w w'
theorem results_cell1 {fn : Func} {p : Tmp} {ty : TypeId} (h : fn.results = #[.cell p ty]) (tmps : Array Value) (P : Program) (w : World) (a : Addr) (v : Value) (h2 : tmps.getD p undef = .pointer (some a)) (hl : (loadVar ty a).run P w = .ok v w) :
    (results fn tmps).run P w = .ok v w := by
  have h3 : tmps[p]?.getD undef = .pointer (some a) := by simpa using h2
  simp [results, h, h3, asAddr, hl]

end Go.Proofs.Ytobmopjfbgkfbaa
