/-
  What ShallotTags needs of streams and tags in plain Lean. No statement of the seat is proved here.
-/
import Derived.Test.YtkaakgabhhkggaaMac8
import Derived.Test.YtkaakgabhhkggaaChaTurn
import Derived.Test.YtkaakgabhhkggaaChaRefStream
namespace Go.Proofs.Ytkaakgabhhkggaa
open Go Go.RowKit Go.Sh

theorem cturn_ok (key l : List UInt8) (h : l.length ≤ 65536) : cturnL key 32 l = xz l (sbytes key 0 l.length) ∧ cturnE 32 l.length = 0 := by
  constructor
  · rw [cturnL, if_pos rfl, trnL, if_pos (by omega)]
  · rw [cturnE, if_pos rfl, trnE, if_pos (by omega)]
theorem trn_ok (key : List UInt8) (u : Nat) (l : List UInt8) (h : u + l.length ≤ 65536) : trnL key u l = xz l (sbytes key u l.length) ∧ trnE u l.length = 0 ∧ trnU u l.length = u + l.length := by
  refine ⟨?_, ?_, ?_⟩
  · rw [trnL, if_pos h]
  · rw [trnE, if_pos h]
  · rw [trnU, if_pos h]
theorem xz_twice {a b : List UInt8} (h : a.length = b.length) : xz (xz a b) b = a := by
  apply List.ext_getElem
  · rw [length_xz (length_xz h rfl) rfl, h]
  · intro i h1 h2
    simp [xz, UInt8.xor_assoc]
theorem xz_app {a b c d : List UInt8} (h : a.length = c.length) : xz (a ++ b) (c ++ d) = xz a c ++ xz b d := by
  unfold xz
  exact List.zipWith_append h
theorem sbytes_app (key : List UInt8) (u a b : Nat) : sbytes key u a ++ sbytes key (u + a) b = sbytes key u (a + b) := by
  unfold sbytes rowf
  generalize strm key = f
  rw [List.range_add, List.map_append, List.map_map]
  rw [show (List.range b).map (fun i => f (u + a + i)) = (List.range b).map ((fun i => f (u + i)) ∘ fun i => a + i) from List.map_congr_left fun i _ => by simp only [Function.comp]; rw [Nat.add_assoc]]
/-- turned in two pieces, the sealed bytes are the old ones -/
theorem two_pieces (key l s : List UInt8) (hs : s = xz l (sbytes key 0 l.length)) (h : Nat) (hh : h ≤ l.length) :
    xz (s.take h) (sbytes key 0 h) ++ xz (s.drop h) (sbytes key h (l.length - h)) = l := by
  have hl : s.length = l.length := by rw [hs]; exact length_xz rfl (length_sbytes _ _ _)
  rw [← xz_app (by rw [List.length_take, length_sbytes]; omega), List.take_append_drop]
  have e := sbytes_app key 0 h (l.length - h)
  rw [Nat.zero_add] at e
  rw [e, show h + (l.length - h) = l.length by omega, hs]
  exact xz_twice (length_sbytes _ _ _).symm
theorem tagB_fits (key l : List UInt8) : sumB (maskd (mblk key) 92 ++ sumB (maskd (mblk key) 54 ++ l)) = tagB key l := rfl
theorem tag16 (key l : List UInt8) : ((tagB key l).take 16).length = 16 := by rw [List.length_take, length_tagB]; rfl
theorem tag_not_one (key l x : List UInt8) (h : x.length = 1) : decide ((tagB key l).take 16 = x) = false := by
  rw [decide_eq_false_iff_not]
  intro e
  have := tag16 key l
  rw [e, h] at this
  cases this
theorem rb_at {w : World} {ty : TypeId} {g off : Nat} {pre post : List Value} {l : List UInt8} (h : w.heap[g]? = some (.cells (pre ++ bv l ++ post).toArray ty (0, 0))) (ho : pre.length = off) : RB w (g + 1) (some ⟨g, off, none⟩) l.length l := by
  refine ⟨by rw [length_bv, Nat.mul_one], .inr ⟨_, rfl, Nat.lt_succ_self _, fun j hj => ?_⟩⟩
  rw [length_bv] at hj
  rw [add_mk, blk_cell h, List.getElem?_toArray]
  show (pre ++ bv l ++ post)[off + j]? = _
  rw [List.append_assoc, List.getElem?_append_right (by omega), List.getElem?_append_left (by rw [length_bv]; omega), show off + j - pre.length = j by omega]
/-- the two keys of a block of two -/
theorem two_keys {w : World} {ty : TypeId} {g : Nat} {ks : List UInt8} (h : w.heap[g]? = some (.cells (bv ks).toArray ty (0, 0))) (hl : ks.length = 64) :
    RB w (g + 1) (some ⟨g, 0, none⟩) 32 (ks.take 32) ∧ RB w (g + 1) (some ⟨g, 32, none⟩) 32 (ks.drop 32) := by
  have e : bv ks = bv (ks.take 32) ++ bv (ks.drop 32) := by rw [← bv_append, List.take_append_drop]
  have h1 : (ks.take 32).length = 32 := by rw [List.length_take]; omega
  have h2 : (ks.drop 32).length = 32 := by rw [List.length_drop]; omega
  constructor
  · have := rb_at (pre := []) (off := 0) (post := bv (ks.drop 32)) (l := ks.take 32) (w := w) (ty := ty) (g := g) (by rw [List.nil_append, ← e]; exact h) rfl
    rw [h1] at this
    exact this
  · have := rb_at (pre := bv (ks.take 32)) (off := 32) (post := []) (l := ks.drop 32) (w := w) (ty := ty) (g := g) (by rw [List.append_nil, ← e]; exact h) (by rw [length_bv, h1])
    rw [h2] at this
    exact this
theorem bit_u8 (x m : UInt8) : bits .xor .u8 (x.toNat : Int) (m.toNat : Int) = ((x ^^^ m).toNat : Int) := bits_u8_xor x m
end Go.Proofs.Ytkaakgabhhkggaa
