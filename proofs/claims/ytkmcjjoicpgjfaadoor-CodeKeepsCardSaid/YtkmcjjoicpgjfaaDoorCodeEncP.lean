/-
  The bytes of a program in plain Lean, and how many they can be where the program is in form. No statement of the seat is proved here.
-/
import Derived.Test.YtkmcjjoicpgjfaaDoorCodeCheck
import Derived.Test.YtkmcjjoicpgjfaaDoorCodePut
namespace Go.Proofs.YtkmcjjoicpgjfaaDoor
open Go Go.RowKit Go.Sh

/-- what is known of a program in form -/
structure Fm (p : Prg) : Prop where
  ops : ∀ i ∈ p.code, i.op.toNat ≤ 16
  ins : ∀ i ∈ p.code, shB i = true
  msgs : ∀ m ∈ p.msgs, m.length ≤ 7200
  rts : ∀ r ∈ p.rts, 1 ≤ r.length ∧ r.length ≤ 5 ∧ ∀ s ∈ r, wfN s.nm ∧ 0 ≤ s.dl ∧ s.dl ≤ 1000000 ∧ 0 ≤ s.fl ∧ s.fl ≤ 255
  snds : ∀ s ∈ p.snds, 1 ≤ s.rts.length ∧ s.rts.length ≤ 8 ∧ (∀ r ∈ s.rts, 0 ≤ r ∧ r ≤ 63) ∧ 0 ≤ s.msg ∧ s.msg ≤ 63 ∧ -1 ≤ s.blk ∧ s.blk ≤ 15
  n1 : p.code.length ≤ 4000
  n2 : p.msgs.length ≤ 64
  n3 : p.rts.length ≤ 64
  n4 : p.snds.length ≤ 64
  vars : 0 ≤ p.vars ∧ p.vars ≤ 64
  stack : 0 ≤ p.stack ∧ p.stack ≤ 64
  blocks : 0 ≤ p.blocks ∧ p.blocks ≤ 16
  fuel : 0 ≤ p.fuel ∧ p.fuel ≤ 1000000
theorem wi_is {n lo hi : Int} : wi n lo hi = true ↔ lo ≤ n ∧ n ≤ hi := by unfold wi; rw [Bool.and_eq_true, decide_eq_true_eq, decide_eq_true_eq]
theorem fm_of {p : Prg} (h : ckP p = 0) : Fm p := by
  unfold ckP at h
  split at h
  · cases h
  · rename_i h1
    split at h
    · cases h
    · rename_i h2
      split at h
      · cases h
      · rename_i h3
        rw [Bool.not_eq_false] at h1 h2 h3
        unfold fmB at h2
        unfold bdB at h3
        simp only [Bool.and_eq_true, List.all_eq_true, decide_eq_true_eq, wi_is] at h1 h2 h3
        refine ⟨fun i hi => ?_, h2.1.1.1, h2.1.1.2, fun r hr => ?_, fun s hs => ?_, h3.1.1.1.1.1.1.1, h3.1.1.1.1.1.1.2, h3.1.1.1.1.1.2, h3.1.1.1.1.2, h3.1.1.1.2, h3.1.1.2, h3.1.2, h3.2⟩
        · have := h1 i hi
          unfold usB at this
          rw [decide_eq_true_eq] at this
          exact this
        · have := h2.1.2 r hr
          unfold rtB at this
          simp only [Bool.and_eq_true, decide_eq_true_eq, List.all_eq_true] at this
          refine ⟨this.1.1, this.1.2, fun s hs => ?_⟩
          have h5 := this.2 s hs
          unfold stB nmB at h5
          simp only [Bool.and_eq_true, decide_eq_true_eq, wi_is] at h5
          exact ⟨h5.1.1, h5.1.2.1, h5.1.2.2, h5.2.1, h5.2.2⟩
        · have := h2.2 s hs
          unfold sdB at this
          simp only [Bool.and_eq_true, decide_eq_true_eq, List.all_eq_true, wi_is] at this
          exact ⟨this.1.1.1.1, this.1.1.1.2, this.1.1.2, this.1.2.1, this.1.2.2, this.2.1, this.2.2⟩
/-- a name's bytes -/
def nmL (s : ByteArray) : List UInt8 := s.data.toList
def encI (i : Ins) : List UInt8 := i.op :: (beB 4 i.a ++ beB 2 i.b)
def encM (m : List UInt8) : List UInt8 := beB 2 (m.length : Int) ++ m
def encT (s : Sp) : List UInt8 := beB 1 (s.nm.size : Int) ++ (nmL s.nm ++ (beB 4 s.dl ++ beB 1 s.fl))
def encRt (r : List Sp) : List UInt8 := beB 1 (r.length : Int) ++ r.flatMap encT
def encSd (s : Snd) : List UInt8 := beB 1 s.msg ++ (beB 1 (s.rts.length : Int) ++ (s.rts.flatMap (beB 1) ++ beB 1 (s.blk + 1)))
def headsP (p : Prg) : List Int := [p.code.length, p.msgs.length, p.rts.length, p.snds.length, p.vars, p.stack, p.blocks]
def tl3 (p : Prg) : List UInt8 := p.snds.flatMap encSd
def tl2 (p : Prg) : List UInt8 := p.rts.flatMap encRt ++ tl3 p
def tl1 (p : Prg) : List UInt8 := p.msgs.flatMap encM ++ tl2 p
def tl0 (p : Prg) : List UInt8 := beB 4 p.fuel ++ (p.code.flatMap encI ++ tl1 p)
/-- the bytes of a program -/
def encP (p : Prg) : List UInt8 := [115, 104, 108, 49] ++ ((headsP p).flatMap (beB 2) ++ tl0 p)
theorem flat_len {α β : Type} {f : α → List β} {B : Nat} : ∀ {l : List α}, (∀ x ∈ l, (f x).length ≤ B) → (l.flatMap f).length ≤ l.length * B
  | [], _ => by simp
  | x :: l, h => by
    rw [List.flatMap_cons, List.length_append, List.length_cons, Nat.add_mul]
    have h1 := h x (List.mem_cons_self ..)
    have h2 := flat_len (l := l) fun y hy => h y (List.mem_cons_of_mem _ hy)
    omega
theorem drop_flat {α β : Type} {f : α → List β} {l : List α} {k : Nat} {x : α} (h : l[k]? = some x) (R : List β) : (l.drop k).flatMap f ++ R = f x ++ ((l.drop (k + 1)).flatMap f ++ R) := by
  obtain ⟨hk, e⟩ := List.getElem?_eq_some_iff.1 h
  rw [List.drop_eq_getElem_cons hk, List.flatMap_cons, e, List.append_assoc]
theorem drop_end {α β : Type} {f : α → List β} {l : List α} {k : Nat} (h : l.length ≤ k) (R : List β) : (l.drop k).flatMap f ++ R = R := by
  rw [List.drop_eq_nil_of_le h]; rfl
theorem nmL_len (s : ByteArray) : (nmL s).length = s.size := rfl
theorem encP_len {p : Prg} (h : ckP p = 0) : (encP p).length ≤ 1000000 := by
  have hf := fm_of h
  have h1 : (p.code.flatMap encI).length ≤ p.code.length * 7 := flat_len fun i _ => by
    unfold encI; rw [List.length_cons, List.length_append, beB_len, beB_len]; omega
  have h2 : (p.msgs.flatMap encM).length ≤ p.msgs.length * 7202 := flat_len fun m hm => by
    unfold encM; rw [List.length_append, beB_len]; have := hf.msgs m hm; omega
  have h3 : (p.rts.flatMap encRt).length ≤ p.rts.length * 111 := flat_len fun r hr => by
    unfold encRt
    rw [List.length_append, beB_len]
    have h4 : (r.flatMap encT).length ≤ r.length * 22 := flat_len fun s hs => by
      unfold encT
      rw [List.length_append, List.length_append, List.length_append, beB_len, beB_len, beB_len, nmL_len]
      have := ((hf.rts r hr).2.2 s hs).1.2.1
      omega
    have := (hf.rts r hr).2.1
    omega
  have h5 : (p.snds.flatMap encSd).length ≤ p.snds.length * 11 := flat_len fun s hs => by
    unfold encSd
    rw [List.length_append, List.length_append, List.length_append, beB_len, beB_len, beB_len]
    have h4 : (s.rts.flatMap (beB 1)).length ≤ s.rts.length * 1 := flat_len fun r _ => by rw [beB_len]; exact Nat.le_refl _
    have := (hf.snds s hs).2.1
    omega
  have h0 : ((headsP p).flatMap (beB 2)).length ≤ (headsP p).length * 2 := flat_len fun r _ => by rw [beB_len]; exact Nat.le_refl _
  rw [show (headsP p).length = 7 from rfl] at h0
  have g1 := hf.n1
  have g2 := hf.n2
  have g3 := hf.n3
  have g4 := hf.n4
  unfold encP tl0 tl1 tl2 tl3
  simp only [List.length_append, beB_len, List.length_cons, List.length_nil]
  omega
end Go.Proofs.YtkmcjjoicpgjfaaDoor
