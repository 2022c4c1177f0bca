/-
  A block of the stream in plain words: rows of sixteen words, the quarter round at four places, the eighty quarter rounds, the words ahead of them, the bytes behind them. No statement of the seat is proved here.
-/
import Derived.Test.YtkaakgabhhkggaaQuarter
import Derived.Test.YtkaakgabhhkggaaPut
namespace Go.Proofs.Ytkaakgabhhkggaa
open Go Go.RowKit Go.Sh

/-- words of 32 bits as cells -/
def wv (s : List Int) : List Value := s.map fun z => .int .u32 z
theorem length_wv (s : List Int) : (wv s).length = s.length := by simp [wv]
theorem wv_one (s : List Int) : ∀ u ∈ wv s, u.oneCell' = true := by
  intro u hu
  obtain ⟨_, _, rfl⟩ := List.mem_map.1 hu
  rfl
theorem wv_at (s : List Int) (k : Nat) (h : k < s.length) : (wv s)[k]? = some (.int .u32 (it s k)) := by
  simp [wv, it, List.getElem?_eq_getElem h]
theorem wv_append (a b : List Int) : wv (a ++ b) = wv a ++ wv b := by simp [wv]
theorem wv_set (s : List Int) (i : Nat) (x : Int) : (wv s).toArray.setIfInBounds i (.int .u32 x) = (wv (s.set i x)).toArray := by simp [wv, List.map_set]
theorem wv_lset (s : List Int) (i : Nat) (x : Int) : (wv s).set i (.int .u32 x) = wv (s.set i x) := by simp [wv, List.map_set]
/-- all are words of 32 bits -/
def AW (s : List Int) : Prop := ∀ x ∈ s, W32 x
theorem W32_zero : W32 0 := by unfold W32; omega
theorem AW.at_ {s : List Int} (h : AW s) (k : Nat) : W32 (it s k) := by
  unfold it
  by_cases hk : k < s.length
  · simp only [List.getD_eq_getElem?_getD, List.getElem?_eq_getElem hk, Option.getD_some]
    exact h _ (List.getElem_mem hk)
  · simp only [List.getD_eq_getElem?_getD, List.getElem?_eq_none (by omega : s.length ≤ k), Option.getD_none]
    exact W32_zero
theorem AW.set {s : List Int} (h : AW s) {x : Int} (hx : W32 x) (i : Nat) : AW (s.set i x) := by
  intro y hy
  rcases List.mem_or_eq_of_mem_set hy with hy | rfl
  · exact h y hy
  · exact hx
theorem AW.append {a b : List Int} (ha : AW a) (hb : AW b) : AW (a ++ b) := fun x hx => (List.mem_append.1 hx).elim (ha x) (hb x)
theorem quarter_w (a b c d : Int) : W32 (quarter a b c d).1 ∧ W32 (quarter a b c d).2.1 ∧ W32 (quarter a b c d).2.2.1 ∧ W32 (quarter a b c d).2.2.2 :=
  ⟨ad_w _ _, rl_w _ _, ad_w _ _, rl_w _ _⟩
/-- the quarter round at four places -/
def qr (s : List Int) (a b c d : Nat) : List Int :=
  (((s.set a (quarter (it s a) (it s b) (it s c) (it s d)).1).set b (quarter (it s a) (it s b) (it s c) (it s d)).2.1).set c (quarter (it s a) (it s b) (it s c) (it s d)).2.2.1).set d (quarter (it s a) (it s b) (it s c) (it s d)).2.2.2
theorem length_qr (s : List Int) (a b c d : Nat) : (qr s a b c d).length = s.length := by simp [qr]
theorem AW.qr {s : List Int} (h : AW s) (a b c d : Nat) : AW (qr s a b c d) := by
  obtain ⟨h1, h2, h3, h4⟩ := quarter_w (it s a) (it s b) (it s c) (it s d)
  exact (((h.set h1 _).set h2 _).set h3 _).set h4 _
/-- place k of quarter round i -/
def pl (i k : Nat) : Nat := (([[0, 4, 8, 12], [1, 5, 9, 13], [2, 6, 10, 14], [3, 7, 11, 15], [0, 5, 10, 15], [1, 6, 11, 12], [2, 7, 8, 13], [3, 4, 9, 14]] : List (List Nat)).getD i []).getD k 0
/-- i quarter rounds -/
def rnd (s : List Int) : Nat → List Int
  | 0 => s
  | i + 1 => qr (rnd s i) (pl (i % 8) 0) (pl (i % 8) 1) (pl (i % 8) 2) (pl (i % 8) 3)
theorem length_rnd (s : List Int) : ∀ i, (rnd s i).length = s.length
  | 0 => rfl
  | i + 1 => by rw [rnd, length_qr, length_rnd s i]
theorem AW.rnd {s : List Int} (h : AW s) : ∀ i, AW (rnd s i)
  | 0 => h
  | i + 1 => (AW.rnd h i).qr _ _ _ _
theorem rnd_eight (s : List Int) (i : Nat) : rnd s (8 * (i + 1)) =
    qr (qr (qr (qr (qr (qr (qr (qr (rnd s (8 * i)) 0 4 8 12) 1 5 9 13) 2 6 10 14) 3 7 11 15) 0 5 10 15) 1 6 11 12) 2 7 8 13) 3 4 9 14 := by
  have e : 8 * (i + 1) = 8 * i + 1 + 1 + 1 + 1 + 1 + 1 + 1 + 1 := by omega
  have m0 : (8 * i) % 8 = 0 := by omega
  have m1 : (8 * i + 1) % 8 = 1 := by omega
  have m2 : (8 * i + 1 + 1) % 8 = 2 := by omega
  have m3 : (8 * i + 1 + 1 + 1) % 8 = 3 := by omega
  have m4 : (8 * i + 1 + 1 + 1 + 1) % 8 = 4 := by omega
  have m5 : (8 * i + 1 + 1 + 1 + 1 + 1) % 8 = 5 := by omega
  have m6 : (8 * i + 1 + 1 + 1 + 1 + 1 + 1) % 8 = 6 := by omega
  have m7 : (8 * i + 1 + 1 + 1 + 1 + 1 + 1 + 1) % 8 = 7 := by omega
  rw [e]
  simp only [rnd, m0, m1, m2, m3, m4, m5, m6, m7]
  rfl
/-- the four bytes from a place on, the least first -/
def wd (l : List UInt8) (a : Nat) : Int := ((val (fun j => by8 l (a + j)) 4 : Nat) : Int)
theorem wd_w (l : List UInt8) (a : Nat) : W32 (wd l a) := by
  have := val_lt (fun j => by8_lt l (a + j)) 4
  unfold W32 wd
  have h : val (fun j => by8 l (a + j)) 4 < 4294967296 := this
  omega
theorem wd_eq (l : List UInt8) (a : Nat) : wd l a = bt l a + bt l (a + 1) * 256 + bt l (a + 2) * 65536 + bt l (a + 3) * 16777216 := by
  simp only [wd, val, bt_by8, Nat.add_zero]
  omega
/-- m words -/
def wds (l : List UInt8) (m : Nat) : List Int := (List.range m).map fun i => wd l (4 * i)
theorem length_wds (l : List UInt8) (m : Nat) : (wds l m).length = m := by simp [wds]
theorem wds_succ (l : List UInt8) (m : Nat) : wds l (m + 1) = wds l m ++ [wd l (4 * m)] := by simp [wds, List.range_succ]
theorem AW.wds (l : List UInt8) (m : Nat) : AW (wds l m) := by
  intro x hx
  obtain ⟨i, _, rfl⟩ := List.mem_map.1 hx
  exact wd_w _ _
def cst : List Int := [0x61707865, 0x3320646e, 0x79622d32, 0x6b206574]
theorem AW.cst : AW cst := by
  intro x hx
  simp only [Go.Proofs.Ytkaakgabhhkggaa.cst, List.mem_cons, List.not_mem_nil, or_false] at hx
  unfold W32
  omega
/-- the sixteen words ahead of the rounds -/
def ini (key nonce : List UInt8) (ctr : Int) : List Int := cst ++ wds key 8 ++ [ctr] ++ wds nonce 3
theorem length_ini (key nonce : List UInt8) (ctr : Int) : (ini key nonce ctr).length = 16 := by simp [ini, length_wds, cst]
theorem AW.ini (key nonce : List UInt8) {ctr : Int} (h : W32 ctr) : AW (ini key nonce ctr) :=
  ((AW.cst.append (AW.wds key 8)).append (fun x hx => by rw [List.mem_singleton.1 hx]; exact h)).append (AW.wds nonce 3)
/-- the four bytes of a word -/
def fourB (x : Int) : List UInt8 := putB 1 4 x.toNat
theorem length_fourB (x : Int) : (fourB x).length = 4 := length_putB _ _ _
/-- the bytes of the first m words -/
def outB (s b : List Int) (m : Nat) : List UInt8 := ((List.range m).map fun i => fourB (ad (it s i) (it b i))).flatten
theorem outB_succ (s b : List Int) (m : Nat) : outB s b (m + 1) = outB s b m ++ fourB (ad (it s m) (it b m)) := by simp [outB, List.range_succ]
theorem length_outB (s b : List Int) : ∀ m, (outB s b m).length = 4 * m
  | 0 => rfl
  | m + 1 => by rw [outB_succ, List.length_append, length_outB s b m, length_fourB]; omega
/-- 64 bytes of the stream -/
def blk (key nonce : List UInt8) (ctr : Int) : List UInt8 := outB (rnd (ini key nonce ctr) 80) (ini key nonce ctr) 16
theorem length_blk (key nonce : List UInt8) (ctr : Int) : (blk key nonce ctr).length = 64 := length_outB _ _ _
/-- byte i of the stream -/
def strm (key : List UInt8) (i : Nat) : UInt8 := (blk key (zs 12) ((i / 64 : Nat) : Int)).getD (i % 64) 0
/-- n bytes of the stream, from a place on -/
def sbytes (key : List UInt8) (a n : Nat) : List UInt8 := rowf n fun i => strm key (a + i)
theorem length_sbytes (key : List UInt8) (a n : Nat) : (sbytes key a n).length = n := length_rowf _ _
end Go.Proofs.Ytkaakgabhhkggaa
