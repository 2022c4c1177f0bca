/-
  The plain laws of the ladder: the group of a complete Edwards curve over a field of N elements, the ladder's invariant, two ladders commute; 2^255 - 19 is prime. No program is in sight; no conditions but those that each law states.
-/
namespace Edw
/-- the residues of N form a field: an inverse of each -/
structure Fld (N : Nat) [NeZero N] where
  iv : Fin N → Fin N
  mul_iv : ∀ a, a ≠ 0 → a * iv a = 1
  iv0 : iv 0 = 0
  two : (2 : Fin N) ≠ 0
variable {N : Nat} [NeZero N]
theorem sw1 (a b c : Fin N) : a * (b * c) = (a * b) * c := by grobner
theorem sw2 (a b c : Fin N) : a * (b * c) = (a * c) * b := by grobner
theorem Fld.dom (K : Fld N) {a b : Fin N} (h : a * b = 0) : a = 0 ∨ b = 0 := by
  by_cases ha : a = 0
  · exact Or.inl ha
  · have := K.mul_iv a ha
    exact Or.inr (by grobner)
theorem Fld.one (K : Fld N) : (1 : Fin N) ≠ 0 := fun h => K.two (by grobner)
theorem Fld.mul_ne (K : Fld N) {a b : Fin N} (ha : a ≠ 0) (hb : b ≠ 0) : a * b ≠ 0 := fun h => (K.dom h).elim ha hb
theorem Fld.cancel (K : Fld N) {a b c : Fin N} (hc : c ≠ 0) (h : a * c = b * c) : a = b := by
  have := K.mul_iv c hc
  grobner
/-- d is no square -/
def NS (d : Fin N) : Prop := ∀ r s, r * r = d * (s * s) → s = 0
/-- a point of the curve -/
def On (d : Fin N) (p : Fin N × Fin N) : Prop := p.1 * p.1 + p.2 * p.2 = 1 + d * p.1 * p.1 * p.2 * p.2
/-- the product of all four coordinates and d -/
def tt (d : Fin N) (p q : Fin N × Fin N) : Fin N := d * p.1 * q.1 * p.2 * q.2
def add (K : Fld N) (d : Fin N) (p q : Fin N × Fin N) : Fin N × Fin N :=
  ((p.1 * q.2 + q.1 * p.2) * K.iv (1 + tt d p q), (p.2 * q.2 - p.1 * q.1) * K.iv (1 - tt d p q))
theorem sq_ne (K : Fld N) {d : Fin N} (ns : NS d) {p q : Fin N × Fin N} (hp : On d p) (hq : On d q) : tt d p q * tt d p q ≠ 1 := by
  obtain ⟨x1, y1⟩ := p; obtain ⟨x2, y2⟩ := q
  simp only [On, tt] at *
  intro h
  have e1 : (x1 + d*x1*x2*y1*y2*y1) * (x1 + d*x1*x2*y1*y2*y1) = d * ((x1*y1*(x2+y2)) * (x1*y1*(x2+y2))) := by grobner
  have e2 : (x1 - d*x1*x2*y1*y2*y1) * (x1 - d*x1*x2*y1*y2*y1) = d * ((x1*y1*(x2-y2)) * (x1*y1*(x2-y2))) := by grobner
  have f1 := ns _ _ e1
  have f2 := ns _ _ e2
  have g : (2 * (x1 * y1 * x2)) = 0 := by grobner
  have g2 : x1 * y1 * x2 = 0 := (K.dom g).resolve_left K.two
  exact K.one (by grobner)
theorem den (K : Fld N) {d : Fin N} (ns : NS d) {p q : Fin N × Fin N} (hp : On d p) (hq : On d q) : 1 + tt d p q ≠ 0 ∧ 1 - tt d p q ≠ 0 := by
  have := sq_ne K ns hp hq
  exact ⟨fun h => this (by grobner), fun h => this (by grobner)⟩
theorem add_x (K : Fld N) {d : Fin N} (ns : NS d) {p q : Fin N × Fin N} (hp : On d p) (hq : On d q) : (add K d p q).1 * (1 + tt d p q) = p.1 * q.2 + q.1 * p.2 := by
  have := K.mul_iv _ (den K ns hp hq).1
  simp only [add]; grobner
theorem add_y (K : Fld N) {d : Fin N} (ns : NS d) {p q : Fin N × Fin N} (hp : On d p) (hq : On d q) : (add K d p q).2 * (1 - tt d p q) = p.2 * q.2 - p.1 * q.1 := by
  have := K.mul_iv _ (den K ns hp hq).2
  simp only [add]; grobner
theorem add_on (K : Fld N) {d : Fin N} (ns : NS d) {p q : Fin N × Fin N} (hp : On d p) (hq : On d q) : On d (add K d p q) := by
  have hx := add_x K ns hp hq
  have hy := add_y K ns hp hq
  have hd := den K ns hp hq
  generalize add K d p q = s at *
  obtain ⟨X, Y⟩ := s
  obtain ⟨x1, y1⟩ := p; obtain ⟨x2, y2⟩ := q
  simp only [On, tt] at *
  generalize ht : d * x1 * x2 * y1 * y2 = t at *
  have key : (X*(1+t))*(X*(1+t)) * ((1-t)*(1-t)) + (Y*(1-t))*(Y*(1-t)) * ((1+t)*(1+t)) = (1+t)*(1+t)*((1-t)*(1-t)) + d*((X*(1+t))*(X*(1+t)))*((Y*(1-t))*(Y*(1-t))) := by
    rw [hx, hy]; clear hx hy hd; subst ht; grobner
  have nz : (1+t)*(1+t)*((1-t)*(1-t)) ≠ 0 := K.mul_ne (K.mul_ne hd.1 hd.1) (K.mul_ne hd.2 hd.2)
  refine K.cancel nz ?_
  clear hx hy hd hp hq ht nz
  grobner
theorem add_comm (K : Fld N) (d : Fin N) (p q : Fin N × Fin N) : add K d p q = add K d q p := by
  simp only [add, tt]
  rw [show d * p.1 * q.1 * p.2 * q.2 = d * q.1 * p.1 * q.2 * p.2 by grobner]
  congr 1 <;> grobner
theorem on_zero (d : Fin N) : On d (0, 1) := by simp only [On]; grobner
theorem add_zero (K : Fld N) (d : Fin N) (p : Fin N × Fin N) : add K d p (0, 1) = p := by
  have h1 := K.mul_iv 1 K.one
  have h2 : (1 : Fin N) + tt d p (0, 1) = 1 := by simp only [tt]; grobner
  have h3 : (1 : Fin N) - tt d p (0, 1) = 1 := by simp only [tt]; grobner
  simp only [add, h2, h3]
  obtain ⟨x, y⟩ := p
  simp only [Prod.mk.injEq]
  constructor <;> grobner
theorem add_assoc (K : Fld N) {d : Fin N} (ns : NS d) {p q r : Fin N × Fin N} (hp : On d p) (hq : On d q) (hr : On d r) : add K d (add K d p q) r = add K d p (add K d q r) := by
  have hpq := add_on K ns hp hq
  have hqr := add_on K ns hq hr
  have ax := add_x K ns hp hq
  have ay := add_y K ns hp hq
  have bx := add_x K ns hq hr
  have by' := add_y K ns hq hr
  have Ax := add_x K ns hpq hr
  have Ay := add_y K ns hpq hr
  have Bx := add_x K ns hp hqr
  have By := add_y K ns hp hqr
  have d1 := den K ns hp hq
  have d2 := den K ns hq hr
  have d3 := den K ns hpq hr
  have d4 := den K ns hp hqr
  generalize add K d (add K d p q) r = s1 at *
  generalize add K d p (add K d q r) = s2 at *
  generalize add K d p q = s3 at *
  generalize add K d q r = s4 at *
  obtain ⟨X, Y⟩ := s1; obtain ⟨X', Y'⟩ := s2; obtain ⟨sx, sy⟩ := s3; obtain ⟨ux, uy⟩ := s4
  obtain ⟨x1, y1⟩ := p; obtain ⟨x2, y2⟩ := q; obtain ⟨x3, y3⟩ := r
  simp only [On, tt] at *
  have m1 : (1 + d*x1*x2*y1*y2) * (1 - d*x1*x2*y1*y2) * (1 + d*sx*x3*sy*y3) = (1+d*x1*x2*y1*y2)*(1-d*x1*x2*y1*y2)+d*(x1*y2+x2*y1)*(y1*y2-x1*x2)*x3*y3 := by
    rw [← ax, ← ay]; grobner
  have m1' : (1 + d*x1*x2*y1*y2) * (1 - d*x1*x2*y1*y2) * (1 - d*sx*x3*sy*y3) = (1+d*x1*x2*y1*y2)*(1-d*x1*x2*y1*y2)-d*(x1*y2+x2*y1)*(y1*y2-x1*x2)*x3*y3 := by
    rw [← ax, ← ay]; grobner
  have m2 : (1 + d*x2*x3*y2*y3) * (1 - d*x2*x3*y2*y3) * (1 + d*x1*ux*y1*uy) = (1+d*x2*x3*y2*y3)*(1-d*x2*x3*y2*y3)+d*(x2*y3+x3*y2)*(y2*y3-x2*x3)*x1*y1 := by
    rw [← bx, ← by']; grobner
  have m2' : (1 + d*x2*x3*y2*y3) * (1 - d*x2*x3*y2*y3) * (1 - d*x1*ux*y1*uy) = (1+d*x2*x3*y2*y3)*(1-d*x2*x3*y2*y3)-d*(x2*y3+x3*y2)*(y2*y3-x2*x3)*x1*y1 := by
    rw [← bx, ← by']; grobner
  have n1 : X * ((1 + d*x1*x2*y1*y2) * (1 - d*x1*x2*y1*y2) * (1 + d*sx*x3*sy*y3)) = (x1*y2+x2*y1)*(1-d*x1*x2*y1*y2)*y3 + x3*(y1*y2-x1*x2)*(1+d*x1*x2*y1*y2) := by
    rw [← ax, ← ay]
    have : X * ((1 + d*x1*x2*y1*y2) * (1 - d*x1*x2*y1*y2) * (1 + d*sx*x3*sy*y3)) = (1 + d*x1*x2*y1*y2) * (1 - d*x1*x2*y1*y2) * (X * (1 + d*sx*x3*sy*y3)) := by grobner
    rw [this, Ax]; grobner
  have n1' : Y * ((1 + d*x1*x2*y1*y2) * (1 - d*x1*x2*y1*y2) * (1 - d*sx*x3*sy*y3)) = (y1*y2-x1*x2)*(1+d*x1*x2*y1*y2)*y3 - (x1*y2+x2*y1)*(1-d*x1*x2*y1*y2)*x3 := by
    rw [← ax, ← ay]
    have : Y * ((1 + d*x1*x2*y1*y2) * (1 - d*x1*x2*y1*y2) * (1 - d*sx*x3*sy*y3)) = (1 + d*x1*x2*y1*y2) * (1 - d*x1*x2*y1*y2) * (Y * (1 - d*sx*x3*sy*y3)) := by grobner
    rw [this, Ay]; grobner
  have n2 : X' * ((1 + d*x2*x3*y2*y3) * (1 - d*x2*x3*y2*y3) * (1 + d*x1*ux*y1*uy)) = (x1*(y2*y3-x2*x3)*(1+d*x2*x3*y2*y3) + (x2*y3+x3*y2)*y1*(1-d*x2*x3*y2*y3)) := by
    rw [← bx, ← by']
    have : X' * ((1 + d*x2*x3*y2*y3) * (1 - d*x2*x3*y2*y3) * (1 + d*x1*ux*y1*uy)) = (1 + d*x2*x3*y2*y3) * (1 - d*x2*x3*y2*y3) * (X' * (1 + d*x1*ux*y1*uy)) := by grobner
    rw [this, Bx]; grobner
  have n2' : Y' * ((1 + d*x2*x3*y2*y3) * (1 - d*x2*x3*y2*y3) * (1 - d*x1*ux*y1*uy)) = (y1*(y2*y3-x2*x3)*(1+d*x2*x3*y2*y3) - x1*(x2*y3+x3*y2)*(1-d*x2*x3*y2*y3)) := by
    rw [← bx, ← by']
    have : Y' * ((1 + d*x2*x3*y2*y3) * (1 - d*x2*x3*y2*y3) * (1 - d*x1*ux*y1*uy)) = (1 + d*x2*x3*y2*y3) * (1 - d*x2*x3*y2*y3) * (Y' * (1 - d*x1*ux*y1*uy)) := by grobner
    rw [this, By]; grobner
  have z1 : (1 + d*x1*x2*y1*y2) * (1 - d*x1*x2*y1*y2) * (1 + d*sx*x3*sy*y3) ≠ 0 := K.mul_ne (K.mul_ne d1.1 d1.2) d3.1
  have z1' : (1 + d*x1*x2*y1*y2) * (1 - d*x1*x2*y1*y2) * (1 - d*sx*x3*sy*y3) ≠ 0 := K.mul_ne (K.mul_ne d1.1 d1.2) d3.2
  have z2 : (1 + d*x2*x3*y2*y3) * (1 - d*x2*x3*y2*y3) * (1 + d*x1*ux*y1*uy) ≠ 0 := K.mul_ne (K.mul_ne d2.1 d2.2) d4.1
  have z2' : (1 + d*x2*x3*y2*y3) * (1 - d*x2*x3*y2*y3) * (1 - d*x1*ux*y1*uy) ≠ 0 := K.mul_ne (K.mul_ne d2.1 d2.2) d4.2
  rw [m1] at n1 z1; rw [m1'] at n1' z1'; rw [m2] at n2 z2; rw [m2'] at n2' z2'
  clear m1 m1' m2 m2' d1 d2 d3 d4 Ax Ay Bx By ax ay bx by' hpq hqr
  have kx : ((x1*y2+x2*y1)*(1-d*x1*x2*y1*y2)*y3 + x3*(y1*y2-x1*x2)*(1+d*x1*x2*y1*y2)) * ((1+d*x2*x3*y2*y3)*(1-d*x2*x3*y2*y3)+d*(x2*y3+x3*y2)*(y2*y3-x2*x3)*x1*y1) =
      (x1*(y2*y3-x2*x3)*(1+d*x2*x3*y2*y3) + (x2*y3+x3*y2)*y1*(1-d*x2*x3*y2*y3)) * ((1+d*x1*x2*y1*y2)*(1-d*x1*x2*y1*y2)+d*(x1*y2+x2*y1)*(y1*y2-x1*x2)*x3*y3) := by clear n1 n1' n2 n2' z1 z1' z2 z2'; grobner
  have ky : ((y1*y2-x1*x2)*(1+d*x1*x2*y1*y2)*y3 - (x1*y2+x2*y1)*(1-d*x1*x2*y1*y2)*x3) * ((1+d*x2*x3*y2*y3)*(1-d*x2*x3*y2*y3)-d*(x2*y3+x3*y2)*(y2*y3-x2*x3)*x1*y1) =
      (y1*(y2*y3-x2*x3)*(1+d*x2*x3*y2*y3) - x1*(x2*y3+x3*y2)*(1-d*x2*x3*y2*y3)) * ((1+d*x1*x2*y1*y2)*(1-d*x1*x2*y1*y2)-d*(x1*y2+x2*y1)*(y1*y2-x1*x2)*x3*y3) := by clear n1 n1' n2 n2' z1 z1' z2 z2' kx; grobner
  have ex : X = X' := by
    refine K.cancel (K.mul_ne z1 z2) ?_
    generalize (1+d*x1*x2*y1*y2)*(1-d*x1*x2*y1*y2)+d*(x1*y2+x2*y1)*(y1*y2-x1*x2)*x3*y3 = M1 at *
    generalize (1+d*x2*x3*y2*y3)*(1-d*x2*x3*y2*y3)+d*(x2*y3+x3*y2)*(y2*y3-x2*x3)*x1*y1 = M2 at *
    rw [sw1 X M1 M2, sw2 X' M1 M2, n1, n2, kx]
  have ey : Y = Y' := by
    refine K.cancel (K.mul_ne z1' z2') ?_
    generalize (1+d*x1*x2*y1*y2)*(1-d*x1*x2*y1*y2)-d*(x1*y2+x2*y1)*(y1*y2-x1*x2)*x3*y3 = M1 at *
    generalize (1+d*x2*x3*y2*y3)*(1-d*x2*x3*y2*y3)-d*(x2*y3+x3*y2)*(y2*y3-x2*x3)*x1*y1 = M2 at *
    rw [sw1 Y M1 M2, sw2 Y' M1 M2, n1', n2', ky]
  rw [ex, ey]
/-- a multiple of a point -/
def mul (K : Fld N) (d : Fin N) : Nat → Fin N × Fin N → Fin N × Fin N
  | 0, _ => (0, 1)
  | n + 1, p => add K d (mul K d n p) p
theorem mul_on (K : Fld N) {d : Fin N} (ns : NS d) {p : Fin N × Fin N} (hp : On d p) : ∀ n, On d (mul K d n p)
  | 0 => on_zero d
  | n + 1 => add_on K ns (mul_on K ns hp n) hp
theorem mul_add (K : Fld N) {d : Fin N} (ns : NS d) {p : Fin N × Fin N} (hp : On d p) (m : Nat) : ∀ n, mul K d (m + n) p = add K d (mul K d m p) (mul K d n p)
  | 0 => (add_zero K d _).symm
  | n + 1 => by rw [← Nat.add_assoc, mul, mul_add K ns hp m n, add_assoc K ns (mul_on K ns hp m) (mul_on K ns hp n) hp]; rfl
theorem mul_mul (K : Fld N) {d : Fin N} (ns : NS d) {p : Fin N × Fin N} (hp : On d p) (n : Nat) : ∀ m, mul K d m (mul K d n p) = mul K d (m * n) p
  | 0 => by rw [Nat.zero_mul]; rfl
  | m + 1 => by rw [mul, mul_mul K ns hp n m, Nat.succ_mul, mul_add K ns hp]
theorem mul_one (K : Fld N) (d : Fin N) (p : Fin N × Fin N) : mul K d 1 p = p := by
  rw [mul, mul, add_comm, add_zero]
theorem mul_two (K : Fld N) (d : Fin N) (p : Fin N × Fin N) : mul K d 2 p = add K d p p := by
  rw [mul, mul_one]
end Edw
namespace Edw
variable {N : Nat} [NeZero N]
/-- the two constants of a curve, and which of the two it is: g - h = τ, h = d g -/
structure Cv (K : Fld N) where
  d : Fin N
  g : Fin N
  h : Fin N
  τ : Fin N
  ns : NS d
  hd : h = d * g
  gh : g - h = τ
  t1 : τ * τ = 1
/-- the four numbers stand for a point with the second coordinate y -/
def Rep (τ X Z y : Fin N) : Prop := ∃ k, k ≠ 0 ∧ X = k * (1 + y) ∧ Z = τ * k * (1 - y)
/-- the doubling of the program: c and e are 121665 and 121666 -/
def dblX (X Z : Fin N) : Fin N := (X + Z) * (X + Z) * ((X - Z) * (X - Z))
def dblZ (c X Z : Fin N) : Fin N := ((X + Z) * (X + Z) - (X - Z) * (X - Z)) * ((X + Z) * (X + Z) + c * ((X + Z) * (X + Z) - (X - Z) * (X - Z)))
def addX (X2 Z2 X3 Z3 : Fin N) : Fin N := ((X3 - Z3) * (X2 + Z2) + (X3 + Z3) * (X2 - Z2)) * ((X3 - Z3) * (X2 + Z2) + (X3 + Z3) * (X2 - Z2))
def addZ (x1 X2 Z2 X3 Z3 : Fin N) : Fin N := x1 * (((X3 - Z3) * (X2 + Z2) - (X3 + Z3) * (X2 - Z2)) * ((X3 - Z3) * (X2 + Z2) - (X3 + Z3) * (X2 - Z2)))
theorem Cv.d1 {K : Fld N} (C : Cv K) (y : Fin N) : 1 - C.d * (y * y) ≠ 0 := by
  intro h
  have h2 := C.ns 1 y (by grobner)
  subst h2
  exact K.one (by grobner)
theorem Cv.g0 {K : Fld N} (C : Cv K) : C.g ≠ 0 := by
  intro h
  have := C.hd; have := C.gh; have := C.t1
  exact K.one (by grobner)
theorem Cv.τ0 {K : Fld N} (C : Cv K) : C.τ ≠ 0 := by
  intro h
  have := C.t1
  exact K.one (by grobner)
/-- which two constants the program has: (c + 1, c) with τ = 1, or (c, c + 1) with τ = -1 -/
def Cv.Of {K : Fld N} (C : Cv K) (c : Fin N) : Prop := (C.τ = 1 ∧ C.h = c) ∨ (C.τ = -1 ∧ C.g = c)
theorem dbl_ok {K : Fld N} (C : Cv K) {c : Fin N} (hc : C.Of c) {p : Fin N × Fin N} (hp : On C.d p) {X Z : Fin N} (r : Rep C.τ X Z p.2) :
    Rep C.τ (dblX X Z) (dblZ c X Z) (add K C.d p p).2 := by
  obtain ⟨k, hk, hX, hZ⟩ := r
  have hy := add_y K C.ns hp hp
  have hdn := (den K C.ns hp hp).2
  have g0 := C.g0
  have d1 := C.d1 p.2
  have hh := C.hd; have gh := C.gh
  obtain ⟨d, g, h, τ, ns, _, _, t1⟩ := C
  simp only at *
  generalize add K d p p = s at *
  obtain ⟨sx, sy⟩ := s
  obtain ⟨x, y⟩ := p
  simp only [On, tt, dblX, dblZ] at *
  have E1 : (1 + sy) * ((1 - d * x * x * y * y) * (1 - d * (y * y))) * g = 2 * (y * y) * τ := by clear hdn d1 g0 hX hZ hk; grobner
  have E2 : (1 - sy) * ((1 - d * x * x * y * y) * (1 - d * (y * y))) * g = 2 * (1 - y * y) * (g - h * (y * y)) := by clear hdn d1 g0 hX hZ hk E1; grobner
  refine ⟨τ * 8 * (k * k * (k * k)) * ((1 - d * x * x * y * y) * (1 - d * (y * y))) * g, ?_, ?_, ?_⟩
  · have h8 : (8 : Fin N) ≠ 0 := by
      intro h; have := K.mul_ne (K.mul_ne K.two K.two) K.two; exact this (by grobner)
    have ht : τ ≠ 0 := by intro h; exact K.one (by grobner)
    exact K.mul_ne (K.mul_ne (K.mul_ne (K.mul_ne ht h8) (K.mul_ne (K.mul_ne hk hk) (K.mul_ne hk hk))) (K.mul_ne hdn d1)) g0
  · have e : τ * 8 * (k * k * (k * k)) * ((1 - d * x * x * y * y) * (1 - d * (y * y))) * g * (1 + sy) = 8 * (k * k * (k * k)) * τ * ((1 + sy) * ((1 - d * x * x * y * y) * (1 - d * (y * y))) * g) := by grobner
    rw [e, E1, hX, hZ]; clear hX hZ e E1 E2 hy hp hdn d1 g0 hh gh
    have e2 : 8 * (k * k * (k * k)) * τ * (2 * (y * y) * τ) = 16 * (k * k * (k * k)) * (y * y) * (τ * τ) := by grobner
    rw [e2, t1]
    rcases hc with ⟨rfl, _⟩ | ⟨rfl, _⟩ <;> grobner
  · have e : τ * (τ * 8 * (k * k * (k * k)) * ((1 - d * x * x * y * y) * (1 - d * (y * y))) * g) * (1 - sy) = 8 * (k * k * (k * k)) * (τ * τ) * ((1 - sy) * ((1 - d * x * x * y * y) * (1 - d * (y * y))) * g) := by grobner
    rw [e, E2, hX, hZ, t1]; clear hX hZ e E1 E2 hy hp hdn d1 g0 hh
    rcases hc with ⟨rfl, rfl⟩ | ⟨rfl, rfl⟩ <;> grobner
theorem neg_on {d : Fin N} {p : Fin N × Fin N} (hp : On d p) : On d (-p.1, p.2) := by
  simp only [On] at *; grobner
theorem neg_add (K : Fld N) {d : Fin N} (ns : NS d) {p : Fin N × Fin N} (hp : On d p) : add K d p (-p.1, p.2) = (0, 1) := by
  have hx := add_x K ns hp (neg_on hp)
  have hy := add_y K ns hp (neg_on hp)
  have hd := den K ns hp (neg_on hp)
  generalize add K d p (-p.1, p.2) = s at *
  obtain ⟨X, Y⟩ := s; obtain ⟨x, y⟩ := p
  simp only [On, tt] at *
  have e1 : X = 0 := K.cancel hd.1 (by grobner)
  have e2 : Y = 1 := K.cancel hd.2 (by grobner)
  rw [e1, e2]
theorem sub_of (K : Fld N) {d : Fin N} (ns : NS d) {p q : Fin N × Fin N} (hp : On d p) (hq : On d q) : add K d (add K d p q) (-p.1, p.2) = q := by
  rw [add_comm K d p q, add_assoc K ns hq hp (neg_on hp), neg_add K ns hp, add_zero]
theorem add_ok {K : Fld N} (C : Cv K) {p q : Fin N × Fin N} (hp : On C.d p) (hq : On C.d q) {x1 X2 Z2 X3 Z3 : Fin N} (hx1 : x1 ≠ 0)
    (r1 : Rep C.τ x1 1 q.2) (r2 : Rep C.τ X2 Z2 p.2) (r3 : Rep C.τ X3 Z3 (add K C.d p q).2) :
    Rep C.τ (addX X2 Z2 X3 Z3) (addZ x1 X2 Z2 X3 Z3) (add K C.d p (add K C.d p q)).2 := by
  have hs := add_on K C.ns hp hq
  have hb := sub_of K C.ns hp hq
  have hy5 := add_y K C.ns hp hs
  have hy1 := add_y K C.ns hs (neg_on hp)
  rw [hb] at hy1
  have hdn := den K C.ns hp hs
  have h4 := C.d1 (p.2 * (add K C.d p q).2)
  have h5 := C.d1 p.2
  have h6 := C.d1 (add K C.d p q).2
  have h7 := C.d1 1
  have t1 := C.t1
  generalize C.τ = τ at *
  generalize add K C.d p (add K C.d p q) = s5 at *
  generalize add K C.d p q = s3 at *
  generalize C.d = d at *
  clear hb
  obtain ⟨k1, hk1, hX1, hZ1⟩ := r1
  obtain ⟨k2, hk2, hX2, hZ2⟩ := r2
  obtain ⟨k3, hk3, hX3, hZ3⟩ := r3
  obtain ⟨x5, y5⟩ := s5; obtain ⟨x3, y3⟩ := s3; obtain ⟨x2, y2⟩ := p; obtain ⟨xq, y1⟩ := q
  simp only [On, tt, addX, addZ] at *
  clear hq
  have f1 : y1 * (1 + d * x2 * x3 * y2 * y3) = y2 * y3 + x2 * x3 := by
    clear hX1 hZ1 hX2 hZ2 hX3 hZ3 hp hs hy5 t1; grobner
  clear hy1
  have hw := K.mul_iv _ (K.mul_ne h7 h4)
  have n1 : 1 + y1 ≠ 0 := fun h => hx1 (by rw [hX1, h]; grobner)
  have hτ : τ ≠ 0 := by intro h; exact K.one (by grobner)
  have hw0 : K.iv ((1 - d * (1 * 1)) * (1 - d * (y2 * y3 * (y2 * y3)))) ≠ 0 := by intro h; rw [h] at hw; exact K.one (by grobner)
  generalize K.iv ((1 - d * (1 * 1)) * (1 - d * (y2 * y3 * (y2 * y3)))) = w at *
  have E1 : (1 + y5) * (1 - d * x2 * x3 * y2 * y3) * ((1 + y1) * (1 + d * x2 * x3 * y2 * y3)) * ((1 - d * (y2 * y2)) * (1 - d * (y3 * y3))) = (1 - d * (1 * 1)) * (1 - d * (y2 * y3 * (y2 * y3))) * ((y2 + y3) * (y2 + y3)) := by
    have a1 : (1 + y5) * (1 - d * x2 * x3 * y2 * y3) = 1 - d * x2 * x3 * y2 * y3 + (y2 * y3 - x2 * x3) := by clear hw hX1 hZ1 hX2 hZ2 hX3 hZ3 hp hs f1 t1; grobner
    have a2 : (1 + y1) * (1 + d * x2 * x3 * y2 * y3) = 1 + d * x2 * x3 * y2 * y3 + (y2 * y3 + x2 * x3) := by clear a1 hw hX1 hZ1 hX2 hZ2 hX3 hZ3 hp hs hy5 t1; grobner
    rw [a1, a2]; clear a1 a2 hw hX1 hZ1 hX2 hZ2 hX3 hZ3 hy5 f1; grobner
  have E2 : (1 - y5) * (1 - d * x2 * x3 * y2 * y3) * ((1 - y1) * (1 + d * x2 * x3 * y2 * y3)) * ((1 - d * (y2 * y2)) * (1 - d * (y3 * y3))) = (1 - d * (1 * 1)) * (1 - d * (y2 * y3 * (y2 * y3))) * ((y2 - y3) * (y2 - y3)) := by
    have a1 : (1 - y5) * (1 - d * x2 * x3 * y2 * y3) = 1 - d * x2 * x3 * y2 * y3 - (y2 * y3 - x2 * x3) := by clear E1 hw hX1 hZ1 hX2 hZ2 hX3 hZ3 hp hs f1 t1; grobner
    have a2 : (1 - y1) * (1 + d * x2 * x3 * y2 * y3) = 1 + d * x2 * x3 * y2 * y3 - (y2 * y3 + x2 * x3) := by clear E1 a1 hw hX1 hZ1 hX2 hZ2 hX3 hZ3 hp hs hy5 t1; grobner
    rw [a1, a2]; clear a1 a2 hw hX1 hZ1 hX2 hZ2 hX3 hZ3 hy5 f1 E1; grobner
  clear hp hs hy5 f1
  generalize (1 - d * (1 * 1)) * (1 - d * (y2 * y3 * (y2 * y3))) = W at *
  generalize 1 - d * x2 * x3 * y2 * y3 = D1 at *
  generalize 1 + d * x2 * x3 * y2 * y3 = D2 at *
  generalize 1 - d * (y2 * y2) = G1 at *
  generalize 1 - d * (y3 * y3) = G2 at *
  refine ⟨16 * (k2 * k2) * (k3 * k3) * (1 + y1) * (D1 * D2) * (G1 * G2) * w, ?_, ?_, ?_⟩
  · have h16 : (16 : Fin N) ≠ 0 := by
      intro h; have := K.mul_ne (K.mul_ne K.two K.two) (K.mul_ne K.two K.two); exact this (by grobner)
    exact K.mul_ne (K.mul_ne (K.mul_ne (K.mul_ne (K.mul_ne (K.mul_ne h16 (K.mul_ne hk2 hk2)) (K.mul_ne hk3 hk3)) n1) (K.mul_ne hdn.2 hdn.1)) (K.mul_ne h5 h6)) hw0
  · have e : 16 * (k2 * k2) * (k3 * k3) * (1 + y1) * (D1 * D2) * (G1 * G2) * w * (1 + y5) = 16 * (k2 * k2) * (k3 * k3) * w * ((1 + y5) * D1 * ((1 + y1) * D2) * (G1 * G2)) := by clear E1 E2 hw hX1 hZ1 hX2 hZ2 hX3 hZ3 t1; grobner
    rw [e, E1]; clear e E1 E2 hX1 hZ1
    have e2 : 16 * (k2 * k2) * (k3 * k3) * w * (W * ((y2 + y3) * (y2 + y3))) = 16 * (k2 * k2) * (k3 * k3) * ((y2 + y3) * (y2 + y3)) * (W * w) := by clear hw hX2 hZ2 hX3 hZ3 t1; grobner
    rw [e2, hw, hX2, hZ2, hX3, hZ3]; clear e2 hw hX2 hZ2 hX3 hZ3
    grobner
  · have e : τ * (16 * (k2 * k2) * (k3 * k3) * (1 + y1) * (D1 * D2) * (G1 * G2) * w) * (1 - y5) * (1 * k1) = 16 * (k2 * k2) * (k3 * k3) * w * (k1 * (1 + y1)) * (τ * ((1 - y5) * D1 * D2 * (G1 * G2))) := by clear E1 E2 hw hX1 hZ1 hX2 hZ2 hX3 hZ3 t1; grobner
    refine K.cancel hk1 ?_
    rw [← hX1] at e
    have e3 : 16 * (k2 * k2) * (k3 * k3) * w * x1 * (τ * ((1 - y5) * D1 * D2 * (G1 * G2))) = 16 * (k2 * k2) * (k3 * k3) * x1 * k1 * ((y2 - y3) * (y2 - y3)) := by
      have a3 : 16 * (k2 * k2) * (k3 * k3) * w * x1 * (τ * ((1 - y5) * D1 * D2 * (G1 * G2))) * (τ * k1 * (1 - y1)) = 16 * (k2 * k2) * (k3 * k3) * w * x1 * k1 * (τ * τ) * ((1 - y5) * D1 * ((1 - y1) * D2) * (G1 * G2)) := by clear e E1 E2 hw hX1 hZ1 hX2 hZ2 hX3 hZ3 t1; grobner
      rw [← hZ1, E2, t1] at a3
      have a4 : 16 * (k2 * k2) * (k3 * k3) * w * x1 * k1 * 1 * (W * ((y2 - y3) * (y2 - y3))) = 16 * (k2 * k2) * (k3 * k3) * x1 * k1 * ((y2 - y3) * (y2 - y3)) * (W * w) := by clear a3 e E1 E2 hw hX1 hZ1 hX2 hZ2 hX3 hZ3 t1; grobner
      rw [a4, hw] at a3
      clear a4 e E1 E2 hw hX1 hZ1 hX2 hZ2 hX3 hZ3 t1
      grobner
    rw [e3] at e
    clear E1 E2 hw hX1 hZ1 e3
    rw [hX2, hZ2, hX3, hZ3]
    clear hX2 hZ2 hX3 hZ3
    have e5 : τ * (16 * (k2 * k2) * (k3 * k3) * (1 + y1) * (D1 * D2) * (G1 * G2) * w) * (1 - y5) * k1 = 16 * (k2 * k2) * (k3 * k3) * x1 * k1 * ((y2 - y3) * (y2 - y3)) := by rw [← e]; clear e t1; grobner
    rw [e5]; clear e e5
    have e6 : τ * τ * (k2 * k2) * (k3 * k3) = (k2 * k2) * (k3 * k3) := by rw [t1]; grobner
    grobner
end Edw
namespace Edw
variable {N : Nat} [NeZero N]
/-- a ladder's four numbers, and its round -/
structure St4 (N : Nat) where
  x2 : Fin N
  z2 : Fin N
  x3 : Fin N
  z3 : Fin N
def St4.swap (s : St4 N) : St4 N := ⟨s.x3, s.z3, s.x2, s.z2⟩
def stp (c x1 : Fin N) (s : St4 N) : St4 N := ⟨dblX s.x2 s.z2, dblZ c s.x2 s.z2, addX s.x2 s.z2 s.x3 s.z3, addZ x1 s.x2 s.z2 s.x3 s.z3⟩
def bstp (c x1 : Fin N) (b : Bool) (s : St4 N) : St4 N := if b then (stp c x1 s.swap).swap else stp c x1 s
/-- behind the first j of 255 rounds -/
def run (c x1 : Fin N) (n : Nat) : Nat → St4 N
  | 0 => ⟨1, 0, x1, 1⟩
  | j + 1 => bstp c x1 (n.testBit (254 - j)) (run c x1 n j)
/-- what the ladder comes to -/
def L (K : Fld N) (c : Fin N) (n : Nat) (x1 : Fin N) : Fin N := (run c x1 n 255).x2 * K.iv (run c x1 n 255).z2
def uOf (K : Fld N) (τ y : Fin N) : Fin N := τ * (1 + y) * K.iv (1 - y)
theorem rep_u (K : Fld N) {τ X Z y : Fin N} (t1 : τ * τ = 1) (r : Rep τ X Z y) : X * K.iv Z = uOf K τ y := by
  obtain ⟨k, hk, hX, hZ⟩ := r
  by_cases h : 1 - y = 0
  · have : Z = 0 := by rw [hZ, h]; grobner
    rw [this, K.iv0, uOf, h, K.iv0]; grobner
  · have hτ : τ ≠ 0 := by intro h; exact K.one (by grobner)
    have hz : Z ≠ 0 := by rw [hZ]; exact K.mul_ne (K.mul_ne hτ hk) h
    have e1 := K.mul_iv _ hz
    have e2 := K.mul_iv _ h
    simp only [uOf]
    refine K.cancel hz ?_
    refine K.cancel h ?_
    have a1 : X * K.iv Z * Z * (1 - y) = X * (1 - y) * (Z * K.iv Z) := by clear hX hZ e1 e2 t1; grobner
    have a2 : τ * (1 + y) * K.iv (1 - y) * Z * (1 - y) = τ * (1 + y) * Z * ((1 - y) * K.iv (1 - y)) := by clear hX hZ e1 e2 t1; grobner
    rw [a1, a2, e1, e2, hX, hZ]
    have a3 : τ * (1 + y) * (τ * k * (1 - y)) = τ * τ * (k * (1 + y) * (1 - y)) := by clear a1 a2 hX hZ e1 e2 t1; grobner
    rw [show τ * (1 + y) * (τ * k * (1 - y)) * 1 = τ * τ * (k * (1 + y) * (1 - y)) by rw [a3]; grobner, t1]; grobner
/-- the four numbers stand for the multiples by m and m + 1 -/
def Inv {K : Fld N} (C : Cv K) (p : Fin N × Fin N) (m : Nat) (s : St4 N) : Prop := Rep C.τ s.x2 s.z2 (mul K C.d m p).2 ∧ Rep C.τ s.x3 s.z3 (mul K C.d (m + 1) p).2
set_option maxRecDepth 100000 in
theorem inv_step {K : Fld N} (C : Cv K) {c : Fin N} (hc : C.Of c) {p : Fin N × Fin N} (hp : On C.d p) {x1 : Fin N} (hx : x1 ≠ 0) (r1 : Rep C.τ x1 1 p.2) {m : Nat} {s : St4 N} (h : Inv C p m s) (b : Bool) :
    Inv C p (2 * m + b.toNat) (bstp c x1 b s) := by
  obtain ⟨h2, h3⟩ := h
  have om := mul_on K C.ns hp m
  have om1 := mul_on K C.ns hp (m + 1)
  have hadd := add_ok C om hp hx r1 h2 (by rw [← mul]; exact h3)
  rw [← mul, ← mul_add K C.ns hp] at hadd
  cases b with
  | false =>
    refine ⟨?_, ?_⟩
    · have := dbl_ok C hc om h2
      rw [← mul_add K C.ns hp] at this
      simpa [bstp, stp, Nat.two_mul] using this
    · rw [show 2 * m + false.toNat + 1 = m + (m + 1) by simp only [Bool.toNat_false]; omega]
      simpa [bstp, stp] using hadd
  | true =>
    refine ⟨?_, ?_⟩
    · rw [show 2 * m + true.toNat = m + (m + 1) by simp only [Bool.toNat_true]; omega]
      have e1 : addX s.x3 s.z3 s.x2 s.z2 = addX s.x2 s.z2 s.x3 s.z3 := by simp only [addX]; grobner
      have e2 : addZ x1 s.x3 s.z3 s.x2 s.z2 = addZ x1 s.x2 s.z2 s.x3 s.z3 := by simp only [addZ]; grobner
      simpa [bstp, stp, St4.swap, e1, e2] using hadd
    · have := dbl_ok C hc om1 h3
      rw [← mul_add K C.ns hp] at this
      rw [show 2 * m + true.toNat + 1 = m + 1 + (m + 1) by simp only [Bool.toNat_true]; omega]
      simpa [bstp, stp, St4.swap] using this
theorem half (n i : Nat) : n / 2 ^ i = 2 * (n / 2 ^ (i + 1)) + (n.testBit i).toNat := by
  rw [Nat.toNat_testBit, Nat.pow_succ, ← Nat.div_div_eq_div_mul]
  omega
theorem inv_run {K : Fld N} (C : Cv K) {c : Fin N} (hc : C.Of c) {p : Fin N × Fin N} (hp : On C.d p) {x1 : Fin N} (hx : x1 ≠ 0) (r1 : Rep C.τ x1 1 p.2) {n : Nat} (hn : n < 2 ^ 255) :
    ∀ j, j ≤ 255 → Inv C p (n / 2 ^ (255 - j)) (run c x1 n j)
  | 0, _ => by
    rw [Nat.div_eq_of_lt hn]
    refine ⟨⟨K.iv 2, ?_, ?_, ?_⟩, ?_⟩
    · intro h; have := K.mul_iv 2 K.two; rw [h] at this; exact K.one (by grobner)
    · have := K.mul_iv 2 K.two
      simp only [run, mul]; grobner
    · simp only [run, mul]; grobner
    · rw [Nat.zero_add, mul_one]; exact r1
  | j + 1, hj => by
    have ih := inv_step C hc hp hx r1 (inv_run C hc hp hx r1 hn j (by omega)) (n.testBit (254 - j))
    rw [show 255 - j = 254 - j + 1 by omega, ← half] at ih
    rw [show 255 - (j + 1) = 254 - j by omega]
    exact ih
theorem L_eq {K : Fld N} (C : Cv K) {c : Fin N} (hc : C.Of c) {p : Fin N × Fin N} (hp : On C.d p) {x1 : Fin N} (hx : x1 ≠ 0) (r1 : Rep C.τ x1 1 p.2) {n : Nat} (hn : n < 2 ^ 255) :
    L K c n x1 = uOf K C.τ (mul K C.d n p).2 := by
  have := (inv_run C hc hp hx r1 hn 255 (Nat.le_refl _)).1
  rw [show n / 2 ^ (255 - 255) = n by simp] at this
  exact rep_u K C.t1 this
/-- nought stays nought -/
theorem run_zero (K : Fld N) (c : Fin N) (n : Nat) : ∀ j, (run c 0 n j).x2 * (run c 0 n j).z2 = 0 ∧ (run c 0 n j).x3 * (run c 0 n j).z3 = 0
  | 0 => by simp only [run]; constructor <;> grobner
  | j + 1 => by
    have ⟨h2, h3⟩ := run_zero K c n j
    simp only [run, bstp]
    generalize run c 0 n j = s at *
    cases n.testBit (254 - j) <;> simp only [stp, St4.swap, dblX, dblZ, addX, addZ, if_true, if_false, Bool.false_eq_true] <;> constructor <;> grobner
theorem L_zero (K : Fld N) (c : Fin N) (n : Nat) : L K c n 0 = 0 := by
  have h := (run_zero K c n 255).1
  simp only [L]
  rcases K.dom h with h | h
  · rw [h]; grobner
  · rw [h, K.iv0]; grobner
end Edw
namespace Edw
variable {N : Nat} [NeZero N]
/-- what the two curves and the field give beside -/
structure Two (K : Fld N) (c : Fin N) where
  C1 : Cv K
  C2 : Cv K
  a1 : C1.τ = 1
  a2 : C2.τ = -1
  h1 : C1.h = c
  g2 : C2.g = c
  c0 : c ≠ 0
  sq : ∀ a b : Fin N, (∃ r, r * r = a) ∨ (∃ r, r * r = b) ∨ ∃ r, r * r = a * b
  s : Fin N
  s1 : s * s = 1 - C1.d
  s2 : ∀ r, r * r * (1 - s) ≠ 1
  s3 : ∀ r, r * r ≠ s
  n2 : ∀ r, r * r ≠ 1 - C2.d
theorem Two.of1 {K : Fld N} {c : Fin N} (T : Two K c) : T.C1.Of c := Or.inl ⟨T.a1, T.h1⟩
theorem Two.of2 {K : Fld N} {c : Fin N} (T : Two K c) : T.C2.Of c := Or.inr ⟨T.a2, T.g2⟩
/-- a number that is not nought is the coordinate of a point of one of the two curves -/
theorem point {K : Fld N} {c : Fin N} (T : Two K c) {u : Fin N} (hu : u ≠ 0) : ∃ C : Cv K, (C = T.C1 ∨ C = T.C2) ∧ ∃ p, On C.d p ∧ Rep C.τ u 1 p.2 := by
  have g1 : T.C1.g = c + 1 := by have := T.C1.gh; have := T.a1; have := T.h1; grobner
  have h2 : T.C2.h = c + 1 := by have := T.C2.gh; have := T.a2; have := T.g2; grobner
  have d1 := T.C1.hd; have d2 := T.C2.hd
  rw [T.h1, g1] at d1
  rw [h2, T.g2] at d2
  have g0 : c + 1 ≠ 0 := by rw [← g1]; exact T.C1.g0
  have c0 := T.c0
  have ns1 := T.C1.ns
  have ns2 := T.C2.ns
  have f0 : u * u + (4 * c + 2) * u + 1 ≠ 0 := by
    intro h
    have := ns1 (u + (2 * c + 1)) (2 * (c + 1)) (by grobner)
    exact (K.mul_ne K.two g0) this
  have one1 : ∀ r, r * r ≠ (c + 1) * (-1) * ((-1) * (-1) + (4 * c + 2) * (-1) + 1) := by
    intro r h
    have := ns1 r (2 * (c + 1)) (by grobner)
    exact (K.mul_ne K.two g0) this
  have one2 : ∀ r, r * r ≠ c * 1 * (1 * 1 + (4 * c + 2) * 1 + 1) := by
    intro r h
    have := ns2 r (2 * c) (by grobner)
    exact (K.mul_ne K.two c0) this
  have cas : (∃ r, r * r = (c + 1) * u * (u * u + (4 * c + 2) * u + 1)) ∨ ∃ r, r * r = c * u * (u * u + (4 * c + 2) * u + 1) := by
    rcases T.sq ((c + 1) * u * (u * u + (4 * c + 2) * u + 1)) (c * u * (u * u + (4 * c + 2) * u + 1)) with h | h | ⟨r, h⟩
    · exact Or.inl h
    · exact Or.inr h
    · have := ns1 r ((c + 1) * u * (u * u + (4 * c + 2) * u + 1)) (by rw [h]; generalize u * u + (4 * c + 2) * u + 1 = f at *; grobner)
      exact absurd this (K.mul_ne (K.mul_ne g0 hu) f0)
  have e1 := K.mul_iv _ f0
  rcases cas with ⟨r, hr⟩ | ⟨r, hr⟩
  · have u1 : u + 1 ≠ 0 := by
      intro h
      obtain rfl : u = -1 := by grobner
      exact one1 r hr
    have e2 := K.mul_iv _ u1
    refine ⟨T.C1, Or.inl rfl, (2 * r * K.iv (u * u + (4 * c + 2) * u + 1), (u - 1) * K.iv (u + 1)), ?_, ?_⟩
    · simp only [On]
      generalize T.C1.d = d at *
      have hx : 2 * r * K.iv (u * u + (4 * c + 2) * u + 1) * (u * u + (4 * c + 2) * u + 1) = 2 * r := by
        rw [show 2 * r * K.iv (u * u + (4 * c + 2) * u + 1) * (u * u + (4 * c + 2) * u + 1) = 2 * r * ((u * u + (4 * c + 2) * u + 1) * K.iv (u * u + (4 * c + 2) * u + 1)) by clear e1 e2 hr d1 d2; grobner, e1]; clear e1 e2 hr d1 d2; grobner
      have hy : (u - 1) * K.iv (u + 1) * (u + 1) = u - 1 := by
        rw [show (u - 1) * K.iv (u + 1) * (u + 1) = (u - 1) * ((u + 1) * K.iv (u + 1)) by clear e1 e2 hr d1 d2 hx; grobner, e2]; clear e1 e2 hr d1 d2 hx; grobner
      clear e1 e2
      generalize 2 * r * K.iv (u * u + (4 * c + 2) * u + 1) = x at *
      generalize (u - 1) * K.iv (u + 1) = y at *
      -- times (c + 1), the square of u + 1 and f
      refine K.cancel (K.mul_ne g0 (K.mul_ne (K.mul_ne u1 u1) (K.mul_ne f0 f0))) ?_
      have k1 : (c + 1) * (u + 1) * (u + 1) - c * (u - 1) * (u - 1) = u * u + (4 * c + 2) * u + 1 := by clear hx hy hr d1 d2; grobner
      generalize u * u + (4 * c + 2) * u + 1 = f at *
      have k2 : x * x * f * f = 4 * (c + 1) * u * f := by
        have : x * x * f * f = 4 * (r * r) := by rw [show x * x * f * f = (x * f) * (x * f) by clear hx hy hr d1 d2 k1; grobner, hx]; clear hx hy hr d1 d2 k1; grobner
        rw [this, hr]; clear this hx hy hr d1 d2 k1; grobner
      have lhs : (x * x + y * y) * ((c + 1) * ((u + 1) * (u + 1) * (f * f))) = (c + 1) * (u + 1) * (u + 1) * (x * x * f * f) + (c + 1) * (y * (u + 1)) * (y * (u + 1)) * f * f := by clear hx hy hr d1 d2 k1 k2; grobner
      have rhs : (1 + d * x * x * y * y) * ((c + 1) * ((u + 1) * (u + 1) * (f * f))) = (c + 1) * (u + 1) * (u + 1) * f * f + (d * (c + 1)) * (x * x * f * f) * (y * (u + 1)) * (y * (u + 1)) := by clear hx hy hr d1 d2 k1 k2 lhs; grobner
      rw [lhs, rhs, k2, hy, ← d1]
      clear lhs rhs k2 hx hy hr d1 d2
      grobner
    · rw [T.a1]
      refine ⟨(u + 1) * K.iv 2, ?_, ?_, ?_⟩
      · intro h; have := K.mul_iv 2 K.two; exact u1 (by grobner)
      · have := K.mul_iv 2 K.two; clear hr d1 d2 e1; grobner
      · have := K.mul_iv 2 K.two; clear hr d1 d2 e1; grobner
  · have u1 : u - 1 ≠ 0 := by
      intro h
      obtain rfl : u = 1 := by grobner
      exact one2 r hr
    have e2 := K.mul_iv _ u1
    refine ⟨T.C2, Or.inr rfl, (2 * r * K.iv (u * u + (4 * c + 2) * u + 1), (u + 1) * K.iv (u - 1)), ?_, ?_⟩
    · simp only [On]
      generalize T.C2.d = d at *
      have hx : 2 * r * K.iv (u * u + (4 * c + 2) * u + 1) * (u * u + (4 * c + 2) * u + 1) = 2 * r := by
        rw [show 2 * r * K.iv (u * u + (4 * c + 2) * u + 1) * (u * u + (4 * c + 2) * u + 1) = 2 * r * ((u * u + (4 * c + 2) * u + 1) * K.iv (u * u + (4 * c + 2) * u + 1)) by clear e1 e2 hr d1 d2; grobner, e1]; clear e1 e2 hr d1 d2; grobner
      have hy : (u + 1) * K.iv (u - 1) * (u - 1) = u + 1 := by
        rw [show (u + 1) * K.iv (u - 1) * (u - 1) = (u + 1) * ((u - 1) * K.iv (u - 1)) by clear e1 e2 hr d1 d2 hx; grobner, e2]; clear e1 e2 hr d1 d2 hx; grobner
      clear e1 e2
      generalize 2 * r * K.iv (u * u + (4 * c + 2) * u + 1) = x at *
      generalize (u + 1) * K.iv (u - 1) = y at *
      refine K.cancel (K.mul_ne c0 (K.mul_ne (K.mul_ne u1 u1) (K.mul_ne f0 f0))) ?_
      have k1 : (c + 1) * (u + 1) * (u + 1) - c * (u - 1) * (u - 1) = u * u + (4 * c + 2) * u + 1 := by clear hx hy hr d1 d2; grobner
      generalize u * u + (4 * c + 2) * u + 1 = f at *
      have k2 : x * x * f * f = 4 * c * u * f := by
        have : x * x * f * f = 4 * (r * r) := by rw [show x * x * f * f = (x * f) * (x * f) by clear hx hy hr d1 d2 k1; grobner, hx]; clear hx hy hr d1 d2 k1; grobner
        rw [this, hr]; clear this hx hy hr d1 d2 k1; grobner
      have lhs : (x * x + y * y) * (c * ((u - 1) * (u - 1) * (f * f))) = c * (u - 1) * (u - 1) * (x * x * f * f) + c * (y * (u - 1)) * (y * (u - 1)) * f * f := by clear hx hy hr d1 d2 k1 k2; grobner
      have rhs : (1 + d * x * x * y * y) * (c * ((u - 1) * (u - 1) * (f * f))) = c * (u - 1) * (u - 1) * f * f + (d * c) * (x * x * f * f) * (y * (u - 1)) * (y * (u - 1)) := by clear hx hy hr d1 d2 k1 k2 lhs; grobner
      rw [lhs, rhs, k2, hy, ← d2]
      clear lhs rhs k2 hx hy hr d1 d2
      grobner
    · rw [T.a2]
      refine ⟨(u - 1) * K.iv 2, ?_, ?_, ?_⟩
      · intro h; have := K.mul_iv 2 K.two; exact u1 (by grobner)
      · have := K.mul_iv 2 K.two; clear hr d1 d2 e1; grobner
      · have := K.mul_iv 2 K.two; clear hr d1 d2 e1; grobner
end Edw
namespace Edw
variable {N : Nat} [NeZero N]
theorem mul_zero (K : Fld N) (d : Fin N) : ∀ n, mul K d n (0, 1) = (0, 1)
  | 0 => rfl
  | n + 1 => by rw [mul, mul_zero K d n, add_zero]
/-- a point whose second coordinate is 1 or -1 has first coordinate nought -/
theorem edge {K : Fld N} (C : Cv K) {p : Fin N × Fin N} (hp : On C.d p) (h : p.2 * p.2 = 1) : p.1 = 0 := by
  have := C.d1 1
  obtain ⟨x, y⟩ := p
  simp only [On] at *
  have e : x * x * (1 - C.d * (1 * 1)) = 0 := by grobner
  rcases K.dom e with e | e
  · exact (K.dom e).elim id id
  · exact absurd e this
theorem edge_add {K : Fld N} (C : Cv K) {p q : Fin N × Fin N} (hp : p.1 = 0 ∧ p.2 * p.2 = 1) (hq : q.1 = 0 ∧ q.2 * q.2 = 1) : (add K C.d p q).1 = 0 ∧ (add K C.d p q).2 * (add K C.d p q).2 = 1 := by
  obtain ⟨x, y⟩ := p; obtain ⟨x', y'⟩ := q
  obtain ⟨rfl, hp⟩ := hp; obtain ⟨rfl, hq⟩ := hq
  have h1 := K.mul_iv 1 K.one
  have h3 : (1 : Fin N) - tt C.d (0, y) (0, y') = 1 := by simp only [tt]; grobner
  simp only [add, h3]
  simp only at hp hq
  constructor
  · grobner
  · have i1 : K.iv 1 = 1 := by grobner
    rw [i1]; grobner
theorem edge_mul {K : Fld N} (C : Cv K) {p : Fin N × Fin N} (hp : p.1 = 0 ∧ p.2 * p.2 = 1) : ∀ n, (mul K C.d n p).1 = 0 ∧ (mul K C.d n p).2 * (mul K C.d n p).2 = 1
  | 0 => by simp only [mul]; exact ⟨trivial, by grobner⟩
  | n + 1 => edge_add C (edge_mul C hp n) hp
theorem u_edge {K : Fld N} (C : Cv K) {y : Fin N} (h : y * y = 1) : uOf K C.τ y = 0 := by
  have : (1 + y) * (1 - y) = 0 := by grobner
  rcases K.dom this with h | h
  · rw [uOf, h]; grobner
  · rw [uOf, h, K.iv0]; grobner
theorem edge_u {K : Fld N} (C : Cv K) {y : Fin N} (h : uOf K C.τ y = 0) : y * y = 1 := by
  rcases K.dom h with h | h
  · rcases K.dom h with h | h
    · exact absurd h C.τ0
    · grobner
  · by_cases e : 1 - y = 0
    · grobner
    · have := K.mul_iv _ e; rw [h] at this; exact absurd (show (1 : Fin N) = 0 by grobner) K.one
/-- a coordinate that is not nought stands for its point -/
theorem u_rep {K : Fld N} (C : Cv K) {y : Fin N} (h : uOf K C.τ y ≠ 0) : Rep C.τ (uOf K C.τ y) 1 y := by
  have hy : 1 - y ≠ 0 := fun e => h (u_edge C (by grobner))
  have e := K.mul_iv _ hy
  have t1 := C.t1
  refine ⟨C.τ * K.iv (1 - y), K.mul_ne C.τ0 (fun h0 => by rw [h0] at e; exact K.one (by grobner)), ?_, ?_⟩
  · simp only [uOf]; clear t1 e; grobner
  · rw [show C.τ * (C.τ * K.iv (1 - y)) * (1 - y) = (C.τ * C.τ) * ((1 - y) * K.iv (1 - y)) by clear t1 e; grobner, t1, e]; grobner
/-- one ladder behind another is the multiple by the product -/
theorem L_L {K : Fld N} (C : Cv K) {c : Fin N} (hc : C.Of c) {p : Fin N × Fin N} (hp : On C.d p) {x1 : Fin N} (hx : x1 ≠ 0) (r1 : Rep C.τ x1 1 p.2) {m n : Nat} (hm : m < 2 ^ 255) (hn : n < 2 ^ 255) :
    L K c m (L K c n x1) = uOf K C.τ (mul K C.d (m * n) p).2 := by
  rw [L_eq C hc hp hx r1 hn]
  by_cases h : uOf K C.τ (mul K C.d n p).2 = 0
  · rw [h, L_zero, ← mul_mul K C.ns hp]
    have e := edge_u C h
    exact (u_edge C (edge_mul C ⟨edge C (mul_on K C.ns hp n) e, e⟩ m).2).symm
  · rw [L_eq C hc (mul_on K C.ns hp n) h (u_rep C h) hm, mul_mul K C.ns hp]
/-- two ladders commute -/
theorem L_comm {K : Fld N} {c : Fin N} (T : Two K c) {m n : Nat} (hm : m < 2 ^ 255) (hn : n < 2 ^ 255) (x : Fin N) : L K c m (L K c n x) = L K c n (L K c m x) := by
  by_cases hx : x = 0
  · simp only [hx, L_zero]
  · obtain ⟨C, hC, p, hp, r⟩ := point T hx
    have hc : C.Of c := hC.elim (fun e => e ▸ T.of1) (fun e => e ▸ T.of2)
    rw [L_L C hc hp hx r hm hn, L_L C hc hp hx r hn hm, Nat.mul_comm]
/-- the two relations of a doubling -/
theorem dbl_rel {K : Fld N} (C : Cv K) {p : Fin N × Fin N} (hp : On C.d p) : ∃ M, M ≠ 0 ∧ (1 + (add K C.d p p).2) * M = 2 * (p.2 * p.2) * (1 - C.d) ∧ (1 - (add K C.d p p).2) * M = 2 * (1 - p.2 * p.2) * (1 - C.d * (p.2 * p.2)) := by
  have hy := add_y K C.ns hp hp
  have hdn := (den K C.ns hp hp).2
  have d1 := C.d1 p.2
  generalize C.d = d at *
  generalize (add K d p p).2 = sy at *
  obtain ⟨x, y⟩ := p
  simp only [On, tt] at *
  refine ⟨(1 - d * x * x * y * y) * (1 - d * (y * y)), K.mul_ne hdn d1, ?_, ?_⟩
  · clear hdn d1; grobner
  · clear hdn d1; grobner
/-- sixteen times a point is nought only if eight times is -/
theorem tors {K : Fld N} (C : Cv K) (ht : (∀ r, r * r ≠ 1 - C.d) ∨ ∃ s, s * s = 1 - C.d ∧ (∀ r, r * r * (1 - s) ≠ 1) ∧ ∀ r, r * r ≠ s) {p : Fin N × Fin N} (hp : On C.d p)
    (h : mul K C.d 16 p = (0, 1)) : mul K C.d 8 p = (0, 1) := by
  have o2 := mul_on K C.ns hp 2
  have o4 := mul_on K C.ns hp 4
  have o8 := mul_on K C.ns hp 8
  have m2 : mul K C.d 2 p = add K C.d p p := mul_two K C.d p
  have m4 : mul K C.d 4 p = add K C.d (mul K C.d 2 p) (mul K C.d 2 p) := mul_add K C.ns hp 2 2
  have m8 : mul K C.d 8 p = add K C.d (mul K C.d 4 p) (mul K C.d 4 p) := mul_add K C.ns hp 4 4
  have m16 : mul K C.d 16 p = add K C.d (mul K C.d 8 p) (mul K C.d 8 p) := mul_add K C.ns hp 8 8
  obtain ⟨M1, n1, a1, b1⟩ := dbl_rel C hp
  obtain ⟨M2, n2, a2, b2⟩ := dbl_rel C o2
  obtain ⟨M4, n4, a4, b4⟩ := dbl_rel C o4
  obtain ⟨M8, n8, a8, b8⟩ := dbl_rel C o8
  rw [← m2] at a1 b1
  rw [← m4] at a2 b2
  rw [← m8] at a4 b4
  rw [← m16, h] at a8 b8
  have dd := C.d1
  have dn := C.d1 1
  have e8 := edge C o8
  generalize mul K C.d 8 p = p8 at *
  generalize mul K C.d 4 p = p4 at *
  generalize mul K C.d 2 p = p2 at *
  have ns := C.ns
  generalize C.d = d at *
  have d0 : d ≠ 0 := by intro h0; exact K.one (ns 0 1 (by rw [h0]; grobner))
  clear m2 m4 m8 m16 h o2 o4 o8 hp a8
  obtain ⟨x8, y8⟩ := p8; obtain ⟨x4, y4⟩ := p4; obtain ⟨x2, y2⟩ := p2; obtain ⟨x, y⟩ := p
  simp only at *
  have q8 : (1 - y8) * (1 + y8) = 0 := by
    have : 2 * ((1 - y8) * (1 + y8)) * (1 - d * (y8 * y8)) = 0 := by clear a1 b1 a2 b2 a4 b4; grobner
    exact (K.dom ((K.dom this).resolve_right (dd y8))).resolve_left K.two
  have x80 := e8 (by clear a1 b1 a2 b2 a4 b4 b8; grobner)
  rcases K.dom q8 with q8 | q8
  · rw [x80, show y8 = 1 by clear a1 b1 a2 b2 a4 b4 b8; grobner]
  · exfalso
    have q4 : y4 = 0 := by
      rw [q8] at a4
      have : y4 * y4 * 2 * (1 - d * (1 * 1)) = 0 := by clear a1 b1 a2 b2 b4 b8; grobner
      have := (K.dom ((K.dom this).resolve_right dn))
      rcases this with h | h
      · exact (K.dom h).elim id id
      · exact absurd h K.two
    subst q4
    clear a4 b4 b8 n8 n4 q8 x80 e8
    have q2 : d * (y2 * y2) * (y2 * y2) - 2 * (y2 * y2) + 1 = 0 := by
      have : 2 * (d * (y2 * y2) * (y2 * y2) - 2 * (y2 * y2) + 1) = 0 := by clear a1 b1; grobner
      exact (K.dom this).resolve_left K.two
    have sq : (d * (y2 * y2) - 1) * (d * (y2 * y2) - 1) = 1 - d := by clear a1 b1 a2 b2; grobner
    rcases ht with ht | ⟨s, s1, s2, s3⟩
    · exact ht _ sq
    · have fac : (d * (y2 * y2) - 1 - s) * (d * (y2 * y2) - 1 + s) = 0 := by clear a1 b1 a2 b2 q2; grobner
      have es : d = (1 - s) * (1 + s) := by clear a1 b1 a2 b2 q2 sq fac; grobner
      rcases K.dom fac with f | f
      · have : (1 + s) * ((1 - s) * (y2 * y2) - 1) = 0 := by clear a1 b1 a2 b2 q2 sq fac s1; grobner
        rcases K.dom this with h | h
        · exact d0 (by rw [es, h]; grobner)
        · exact s2 y2 (by clear a1 b1 a2 b2 q2 sq fac s1 this f; grobner)
      · have h0 : (1 - s) * ((1 + s) * (y2 * y2) - 1) = 0 := by clear a1 b1 a2 b2 q2 sq fac s1; grobner
        have h1 : (1 + s) * (y2 * y2) = 1 := by
          rcases K.dom h0 with h | h
          · exact absurd (by rw [es, h]; grobner) d0
          · clear a1 b1 a2 b2 q2 sq fac s1 h0 f; grobner
        -- with c = y2 and w = y * y
        have X : M1 * ((1 - y2) * (2 * (y * y) * (1 - d)) - (1 + y2) * (2 * (1 - y * y) * (1 - d * (y * y)))) = 0 := by
          rw [← a1, ← b1]; clear a1 b1 a2 b2 q2 sq fac s1 h0 f h1 es; grobner
        have X2 := (K.dom X).resolve_left n1
        clear X a1 b1 a2 b2 q2 sq fac h0
        have X3 : (1 - y2) * ((y * y) * (1 - d)) - (1 + y2) * ((1 - y * y) * (1 - d * (y * y))) = 0 := by
          refine (K.dom (a := 2) ?_).resolve_left K.two
          rw [← X2]; clear X2 s1 f h1 es; grobner
        have R : (d * (1 + y2) * (y * y) - (1 + y2 * d)) * (d * (1 + y2) * (y * y) - (1 + y2 * d)) = (1 - d) * (1 - d * (y2 * y2)) := by
          have : (d * (1 + y2) * (y * y) - (1 + y2 * d)) * (d * (1 + y2) * (y * y) - (1 + y2 * d)) = (1 - d) * (1 - d * (y2 * y2)) - d * (1 + y2) * ((1 - y2) * ((y * y) * (1 - d)) - (1 + y2) * ((1 - y * y) * (1 - d * (y * y)))) := by clear X2 X3 s1 f h1 es; grobner
          rw [this, X3]; grobner
        have dy : 1 - d * (y2 * y2) = s := by clear X2 X3 R; grobner
        rw [dy, ← s1] at R
        have s0 : s ≠ 0 := by
          intro h; rw [h] at s1; exact dn (by rw [show (0 : Fin N) * 0 = 0 by grobner] at s1; grobner)
        have si := K.mul_iv s s0
        refine s3 ((d * (1 + y2) * (y * y) - (1 + y2 * d)) * K.iv s) ?_
        generalize d * (1 + y2) * (y * y) - (1 + y2 * d) = r at *
        rw [show r * K.iv s * (r * K.iv s) = (r * r) * (K.iv s * K.iv s) by clear X2 X3 R dy s1 f h1 es si; grobner, R,
          show s * s * s * (K.iv s * K.iv s) = s * ((s * K.iv s) * (s * K.iv s)) by clear X2 X3 R dy s1 f h1 es si; grobner, si]; grobner
set_option maxRecDepth 100000 in
theorem tors_pow {K : Fld N} (C : Cv K) (ht : (∀ r, r * r ≠ 1 - C.d) ∨ ∃ s, s * s = 1 - C.d ∧ (∀ r, r * r * (1 - s) ≠ 1) ∧ ∀ r, r * r ≠ s) {p : Fin N × Fin N} (hp : On C.d p) :
    ∀ k, mul K C.d (2 ^ k * 8) p = (0, 1) → mul K C.d 8 p = (0, 1)
  | 0, h => by simpa using h
  | k + 1, h => by
    refine tors_pow C ht hp k ?_
    have h16 : mul K C.d 16 (mul K C.d (2 ^ k) p) = (0, 1) := by rw [mul_mul K C.ns hp, ← h]; congr 1; rw [Nat.pow_succ]; omega
    have := tors C ht (mul_on K C.ns hp _) h16
    rw [mul_mul K C.ns hp] at this
    rw [Nat.mul_comm]; exact this
/-- what 2^254 sends to nought each multiple of eight does -/
theorem L_low {K : Fld N} {c : Fin N} (T : Two K c) {n : Nat} (hn : n < 2 ^ 255) (h8 : n % 8 = 0) {x : Fin N} (h : L K c (2 ^ 254) x = 0) : L K c n x = 0 := by
  by_cases hx : x = 0
  · rw [hx, L_zero]
  · obtain ⟨C, hC, p, hp, r⟩ := point T hx
    have hc : C.Of c := hC.elim (fun e => e ▸ T.of1) (fun e => e ▸ T.of2)
    have ht : (∀ r, r * r ≠ 1 - C.d) ∨ ∃ s, s * s = 1 - C.d ∧ (∀ r, r * r * (1 - s) ≠ 1) ∧ ∀ r, r * r ≠ s := by
      rcases hC with rfl | rfl
      · exact Or.inr ⟨T.s, T.s1, T.s2, T.s3⟩
      · exact Or.inl T.n2
    rw [L_eq C hc hp hx r (Nat.pow_lt_pow_right (by omega) (by omega))] at h
    have e := edge_u C h
    have e2 := edge C (mul_on K C.ns hp _) e
    have z : mul K C.d (2 * 2 ^ 254) p = (0, 1) := by
      rw [← mul_mul K C.ns hp, mul_two]
      have h1 := K.mul_iv 1 K.one
      generalize mul K C.d (2 ^ 254) p = q at *
      obtain ⟨x', y'⟩ := q
      simp only at e e2
      subst e2
      have h3 : (1 : Fin N) - tt C.d (0, y') (0, y') = 1 := by simp only [tt]; grobner
      have i1 : K.iv 1 = 1 := by clear e h3; grobner
      simp only [add, h3, i1, Prod.mk.injEq]
      constructor <;> grobner
    have h8p : mul K C.d 8 (mul K C.d (n / 8) p) = (0, 1) := by
      refine tors_pow C ht (mul_on K C.ns hp _) 252 ?_
      rw [mul_mul K C.ns hp, show 2 ^ 252 * 8 * (n / 8) = n / 8 * (2 * 2 ^ 254) by rw [Nat.mul_comm], ← mul_mul K C.ns hp, z, mul_zero]
    rw [mul_mul K C.ns hp, show 8 * (n / 8) = n by omega] at h8p
    rw [L_eq C hc hp hx r hn, h8p]
    exact u_edge C (by grobner)
end Edw
namespace Prm
/-- a prime number -/
def Pr (n : Nat) : Prop := 1 < n ∧ ∀ m, m ∣ n → m = 1 ∨ m = n
theorem Pr.coprime {r k : Nat} (h : Pr r) (hk : ¬ r ∣ k) : Nat.Coprime r k := by
  rcases h.2 _ (Nat.gcd_dvd_left r k) with e | e
  · exact e
  · exact absurd (e ▸ Nat.gcd_dvd_right r k) hk
theorem Pr.dvd_mul {r a b : Nat} (h : Pr r) (hd : r ∣ a * b) : r ∣ a ∨ r ∣ b := by
  by_cases ha : r ∣ a
  · exact Or.inl ha
  · exact Or.inr ((h.coprime ha).dvd_of_dvd_mul_left hd)
/-- how many ways to choose -/
def ch : Nat → Nat → Nat
  | _, 0 => 1
  | 0, _ + 1 => 0
  | n + 1, k + 1 => ch n k + ch n (k + 1)
theorem ch_zero (n : Nat) : ch n 0 = 1 := by cases n <;> rfl
theorem ch_over : ∀ n k, n < k → ch n k = 0
  | 0, k + 1, _ => rfl
  | n + 1, k + 1, h => by rw [ch, ch_over n k (by omega), ch_over n (k + 1) (by omega)]
theorem ch_self : ∀ n, ch n n = 1
  | 0 => rfl
  | n + 1 => by rw [ch, ch_self n, ch_over n (n + 1) (by omega)]
theorem ch_mul : ∀ n k, (k + 1) * ch (n + 1) (k + 1) = (n + 1) * ch n k
  | 0, 0 => rfl
  | 0, k + 1 => by simp [ch]
  | n + 1, 0 => by
    have := ch_mul n 0
    rw [ch_zero] at this ⊢
    rw [show ch (n + 1 + 1) (0 + 1) = ch (n + 1) 0 + ch (n + 1) (0 + 1) from rfl, ch_zero]; omega
  | n + 1, k + 1 => by
    have h1 := ch_mul n k
    have h2 := ch_mul n (k + 1)
    rw [ch, Nat.mul_add, h2, show (k + 1 + 1) * ch (n + 1) (k + 1) = (k + 1) * ch (n + 1) (k + 1) + ch (n + 1) (k + 1) by rw [Nat.succ_mul], h1, Nat.add_right_comm, ← Nat.mul_add]
    rw [show ch n k + ch n (k + 1) = ch (n + 1) (k + 1) by rw [ch], Nat.succ_mul (n + 1)]
/-- the first m terms of (a + 1)^n -/
def sm (n a : Nat) : Nat → Nat
  | 0 => 0
  | m + 1 => sm n a m + ch n m * a ^ m
theorem sm_rec (n a : Nat) : ∀ m, sm (n + 1) a (m + 1) = sm n a (m + 1) + a * sm n a m
  | 0 => by simp [sm, ch_zero]
  | m + 1 => by
    have ih := sm_rec n a m
    rw [sm, ih, ch, sm.eq_2 n a (m + 1), sm.eq_2 n a m, Nat.pow_succ, Nat.mul_add, Nat.add_mul]
    have : a * (ch n m * a ^ m) = ch n m * (a ^ m * a) := by rw [Nat.mul_comm a, Nat.mul_assoc]
    rw [this]
    omega
theorem binom (a : Nat) : ∀ n, (a + 1) ^ n = sm n a (n + 1)
  | 0 => by simp [sm, ch]
  | n + 1 => by
    rw [Nat.pow_succ, binom a n, sm_rec, sm.eq_2 n a (n + 1), ch_over n (n + 1) (by omega), Nat.mul_add]
    rw [Nat.mul_comm a]; omega
theorem sm_mod {r a : Nat} (h : Pr r) : ∀ m, m < r → sm r a (m + 1) % r = 1
  | 0, _ => by simp [sm, ch_zero]; exact Nat.mod_eq_of_lt h.1
  | m + 1, hm => by
    have ih := sm_mod (a := a) h m (by omega)
    obtain ⟨t, rfl⟩ : ∃ t, r = t + 1 := ⟨r - 1, by omega⟩
    have d : t + 1 ∣ ch (t + 1) (m + 1) := by
      rcases h.dvd_mul (a := m + 1) ⟨_, ch_mul t m⟩ with e | e
      · exact absurd (Nat.le_of_dvd (by omega) e) (by omega)
      · exact e
    obtain ⟨c, hc⟩ := d
    rw [sm.eq_2, hc, Nat.mul_assoc, Nat.add_mul_mod_self_left, ih]
/-- Fermat -/
theorem fermat {r : Nat} (h : Pr r) : ∀ a, a ^ r % r = a % r
  | 0 => by rw [Nat.zero_pow (by have := h.1; omega)]
  | a + 1 => by
    have ih := fermat h a
    have h1 := h.1
    rw [binom, sm, ch_self, Nat.one_mul, Nat.add_mod, ih]
    have := sm_mod (a := a) h (r - 1) (by omega)
    rw [show r - 1 + 1 = r by omega] at this
    rw [this, Nat.add_comm a, Nat.add_mod 1 a, Nat.mod_eq_of_lt h1]
theorem fermat1 {r a : Nat} (h : Pr r) (ha : ¬ r ∣ a) : a ^ (r - 1) % r = 1 := by
  have h1 := h.1
  have f := fermat h a
  rw [show r = r - 1 + 1 by omega, Nat.pow_succ, show r - 1 + 1 = r by omega] at f
  have pos : 0 < a ^ (r - 1) := Nat.pow_pos (Nat.pos_of_ne_zero fun e => ha (e ▸ Nat.dvd_zero r))
  have d : r ∣ (a ^ (r - 1) - 1) * a := by
    rw [Nat.sub_mul, Nat.one_mul]
    exact Nat.dvd_of_mod_eq_zero (Nat.sub_mod_eq_zero_of_mod_eq f)
  rcases h.dvd_mul d with e | e
  · obtain ⟨c, hc⟩ := e
    rw [show a ^ (r - 1) = 1 + r * c by omega, Nat.add_mul_mod_self_left, Nat.mod_eq_of_lt h1]
  · exact absurd e ha
/-- powers -/
theorem pow_gcd {b r : Nat} (h1 : 1 < r) (m n : Nat) (hm : b ^ m % r = 1) (hn : b ^ n % r = 1) : b ^ Nat.gcd m n % r = 1 := by
  induction m, n using Nat.gcd.induction with
  | H0 n => rw [Nat.gcd_zero_left]; exact hn
  | H1 m n hpos ih =>
    rw [Nat.gcd_rec]
    refine ih ?_ hm
    have e : b ^ n = (b ^ m) ^ (n / m) * b ^ (n % m) := by rw [← Nat.pow_mul, ← Nat.pow_add, Nat.div_add_mod]
    rw [e, Nat.mul_mod, Nat.pow_mod, hm, Nat.one_pow, Nat.mod_eq_of_lt h1, Nat.one_mul, Nat.mod_mod] at hn
    exact hn
/-- a number above 1 has a prime factor -/
theorem factor : ∀ n, 1 < n → ∃ r, Pr r ∧ r ∣ n := by
  intro n
  induction n using Nat.strongRecOn with
  | ind n ih =>
    intro h1
    by_cases h : Pr n
    · exact ⟨n, h, Nat.dvd_refl n⟩
    · have : ∃ m, m ∣ n ∧ m ≠ 1 ∧ m ≠ n := Classical.byContradiction fun hno => h ⟨h1, fun m hm => Classical.byContradiction fun hne => hno ⟨m, hm, fun e => hne (Or.inl e), fun e => hne (Or.inr e)⟩⟩
      obtain ⟨m, hm, m1, mn⟩ := this
      have hle := Nat.le_of_dvd (by omega) hm
      have m0 : m ≠ 0 := by rintro rfl; exact absurd (Nat.eq_zero_of_zero_dvd hm) (by omega)
      obtain ⟨r, hr, hd⟩ := ih m (by omega) (by omega)
      exact ⟨r, hr, Nat.dvd_trans hd hm⟩
theorem factor_small {n : Nat} (h1 : 1 < n) (h : ¬ Pr n) : ∃ r, Pr r ∧ r ∣ n ∧ r * r ≤ n := by
  have : ∃ m, m ∣ n ∧ m ≠ 1 ∧ m ≠ n := Classical.byContradiction fun hno => h ⟨h1, fun m hm => Classical.byContradiction fun hne => hno ⟨m, hm, fun e => hne (Or.inl e), fun e => hne (Or.inr e)⟩⟩
  obtain ⟨m, ⟨k, hk⟩, m1, mn⟩ := this
  have m0 : m ≠ 0 := by rintro rfl; omega
  have k0 : k ≠ 0 := by rintro rfl; omega
  have k1 : k ≠ 1 := by rintro rfl; omega
  by_cases hmk : m ≤ k
  · obtain ⟨r, hr, hd⟩ := factor m (by omega)
    have := Nat.le_of_dvd (by omega) hd
    exact ⟨r, hr, Nat.dvd_trans hd ⟨k, hk⟩, hk ▸ Nat.mul_le_mul this (by omega)⟩
  · obtain ⟨r, hr, hd⟩ := factor k (by omega)
    have := Nat.le_of_dvd (by omega) hd
    exact ⟨r, hr, Nat.dvd_trans hd ⟨m, by rw [hk, Nat.mul_comm]⟩, hk ▸ Nat.mul_le_mul (by omega) this⟩
/-- one squaring -/
def pwS (N a h b : Nat) : Nat := (h * h % N) * a ^ b % N
/-- a^n modulo N, by squaring; f: at least n's bits -/
def pw (N a : Nat) : Nat → Nat → Nat
  | 0, _ => 1 % N
  | f + 1, n => pwS N a (pw N a f (n / 2)) (n % 2)
set_option maxRecDepth 100000 in
theorem pw_eq (N a : Nat) : ∀ f n, n < 2 ^ f → pw N a f n = a ^ n % N
  | 0, n, h => by
    obtain rfl : n = 0 := by simpa using h
    simp [pw]
  | f + 1, n, h => by
    rw [pw, pwS, pw_eq N a f (n / 2) (by rw [Nat.pow_succ] at h; omega), ← Nat.mul_mod, Nat.mod_mul_mod, ← Nat.pow_add, ← Nat.pow_add]
    congr 2; omega
set_option maxRecDepth 100000 in
/-- one witness: each prime factor r of N has q in r - 1 -/
theorem wit {N q a k c : Nat} (hN : 1 < N) (hq : Pr q) (hk : N - 1 = q * k) (h1 : a ^ (N - 1) % N = 1) (hc : a ^ k % N = c) (hg : Nat.gcd (c + (N - 1)) N = 1) {r : Nat} (hr : Pr r) (hrN : r ∣ N) : q ∣ r - 1 := by
  obtain ⟨t, ht⟩ := hrN
  have r1 := hr.1
  have modr : ∀ x y, x % N = y % N → x % r = y % r := by
    intro x y h
    have := congrArg (· % r) h
    simpa [ht, Nat.mod_mul_right_mod] using this
  have e1 : a ^ (N - 1) % r = 1 := by
    rw [modr _ 1 (by rw [h1, Nat.mod_eq_of_lt hN]), Nat.mod_eq_of_lt r1]
  have eb : (a ^ k) ^ q % r = 1 := by rw [← Nat.pow_mul, Nat.mul_comm k, ← hk]; exact e1
  have nd : ¬ r ∣ a ^ k := by
    intro ⟨s, hs⟩
    have q1 := hq.1
    rw [hs, show q = q - 1 + 1 by omega, Nat.pow_succ, Nat.mul_comm, Nat.mul_assoc, Nat.mul_mod_right] at eb
    omega
  have ef := fermat1 hr nd
  by_cases hd : q ∣ r - 1
  · exact hd
  · have cp := hq.coprime hd
    have := pow_gcd r1 _ _ eb ef
    rw [cp, Nat.pow_one] at this
    have cr : c % r = 1 := by
      have := modr c (a ^ k) (by rw [← hc, Nat.mod_mod])
      omega
    have dv : r ∣ c + (N - 1) := by
      refine Nat.dvd_of_mod_eq_zero ?_
      obtain ⟨u, hu⟩ : ∃ u, c = 1 + r * u := ⟨c / r, by have := Nat.div_add_mod c r; omega⟩
      rw [show c + (N - 1) = r * u + r * t by omega, ← Nat.mul_add, Nat.mul_mod_right]
    have := Nat.dvd_gcd dv ⟨t, ht⟩
    rw [hg] at this
    exact absurd (Nat.le_of_dvd (by omega) this) (by omega)
/-- Pocklington, with one prime factor of N - 1 above the root of N -/
theorem pock1 {N q a k c : Nat} (hN : 1 < N) (hq : Pr q) (hk : N - 1 = q * k) (h1 : a ^ (N - 1) % N = 1) (hc : a ^ k % N = c) (hg : Nat.gcd (c + (N - 1)) N = 1) (big : N < q * q) : Pr N := by
  refine Classical.byContradiction fun h => ?_
  obtain ⟨r, hr, hd, hs⟩ := factor_small hN h
  have := Nat.le_of_dvd (by have := hr.1; omega) (wit hN hq hk h1 hc hg hr hd)
  have := Nat.mul_le_mul (show q ≤ r by omega) (show q ≤ r by omega)
  omega
/-- .. with two -/
theorem pock2 {N q a k c q' a' k' c' : Nat} (hN : 1 < N) (hq : Pr q) (hk : N - 1 = q * k) (h1 : a ^ (N - 1) % N = 1) (hc : a ^ k % N = c) (hg : Nat.gcd (c + (N - 1)) N = 1)
    (hq' : Pr q') (hk' : N - 1 = q' * k') (h1' : a' ^ (N - 1) % N = 1) (hc' : a' ^ k' % N = c') (hg' : Nat.gcd (c' + (N - 1)) N = 1) (ne : ¬ q ∣ q') (big : N < (q * q') * (q * q')) : Pr N := by
  refine Classical.byContradiction fun h => ?_
  obtain ⟨r, hr, hd, hs⟩ := factor_small hN h
  have d1 := wit hN hq hk h1 hc hg hr hd
  have d2 := wit hN hq' hk' h1' hc' hg' hr hd
  have := Nat.le_of_dvd (by have := hr.1; omega) ((hq.coprime ne).mul_dvd_of_dvd_of_dvd d1 d2)
  have := Nat.mul_le_mul (show q * q' ≤ r by omega) (show q * q' ≤ r by omega)
  omega
/-- no divisor from d on, f of them -/
def nodiv (n : Nat) : Nat → Nat → Bool
  | 0, _ => true
  | f + 1, d => n % d != 0 && nodiv n f (d + 1)
theorem nodiv_ok (n : Nat) : ∀ f d, nodiv n f d = true → ∀ m, d ≤ m → m < d + f → ¬ m ∣ n
  | 0, d, _, m, h1, h2 => by omega
  | f + 1, d, h, m, h1, h2 => by
    rw [nodiv, Bool.and_eq_true] at h
    by_cases e : m = d
    · subst e; intro hd; have := Nat.mod_eq_zero_of_dvd hd; simp [this] at h
    · exact nodiv_ok n f (d + 1) h.2 m (by omega) (by omega)
theorem small {n : Nat} (f : Nat) (hn : 1 < n) (h : nodiv n f 2 = true) (hf : n < (f + 2) * (f + 2)) : Pr n := by
  refine Classical.byContradiction fun hp => ?_
  obtain ⟨r, hr, hd, hs⟩ := factor_small hn hp
  by_cases e : r < 2 + f
  · exact nodiv_ok n f 2 h r hr.1 e hd
  · have := Nat.mul_le_mul (show f + 2 ≤ r by omega) (show f + 2 ≤ r by omega)
    omega
end Prm
namespace Prm
theorem cert1 (N q a k f : Nat) (hq : Pr q) (h : 1 < N ∧ N - 1 = q * k ∧ N < 2 ^ f ∧ pw N a f (N - 1) = 1 ∧ Nat.gcd (pw N a f k + (N - 1)) N = 1 ∧ N < q * q) : Pr N := by
  obtain ⟨h1, h2, h3, h4, h5, h6⟩ := h
  have hk : k ≤ N - 1 := by rw [h2]; exact Nat.le_mul_of_pos_left k (by have := hq.1; omega)
  rw [pw_eq N a f (N - 1) (by omega)] at h4
  exact pock1 h1 hq h2 h4 (pw_eq N a f k (by omega)).symm h5 h6
theorem cert2 (N q a k q' a' k' f : Nat) (hq : Pr q) (hq' : Pr q') (h : (1 < N ∧ N - 1 = q * k ∧ N < 2 ^ f ∧ pw N a f (N - 1) = 1 ∧ Nat.gcd (pw N a f k + (N - 1)) N = 1) ∧ (N - 1 = q' * k' ∧ pw N a' f (N - 1) = 1 ∧ Nat.gcd (pw N a' f k' + (N - 1)) N = 1) ∧ ¬ q ∣ q' ∧ N < (q * q') * (q * q')) : Pr N := by
  obtain ⟨⟨h1, h2, h3, h4, h5⟩, ⟨g2, g4, g5⟩, h6, h7⟩ := h
  have hk : k ≤ N - 1 := by rw [h2]; exact Nat.le_mul_of_pos_left k (by have := hq.1; omega)
  have hk' : k' ≤ N - 1 := by rw [g2]; exact Nat.le_mul_of_pos_left k' (by have := hq'.1; omega)
  rw [pw_eq N a f (N - 1) (by omega)] at h4
  rw [pw_eq N a' f (N - 1) (by omega)] at g4
  exact pock2 h1 hq h2 h4 (pw_eq N a f k (by omega)).symm h5 hq' g2 g4 (pw_eq N a' f k' (by omega)).symm g5 h6 h7
theorem pr_a : Pr 8574133 := small 2928 (by decide) (by decide +kernel) (by decide)
theorem pr_b : Pr 1923133 := small 1386 (by decide) (by decide +kernel) (by decide)
theorem pr_c : Pr 75707 := small 275 (by decide) (by decide +kernel) (by decide)
theorem pr_d : Pr 127 := small 11 (by decide) (by decide +kernel) (by decide)
theorem pr_e : Pr 1919519569386763 :=
  cert2 1919519569386763 8574133 2 223873314 127 2 15114327318006 51 pr_a pr_d (by decide +kernel)
theorem pr_f : Pr 75445702479781427272750846543864801 :=
  cert2 75445702479781427272750846543864801 1919519569386763 2 39304471641247389600 75707 2 996548568557483816196003626400 116 pr_e pr_c (by decide +kernel)
theorem pr_g : Pr 74058212732561358302231226437062788676166966415465897661863160754340907 :=
  cert2 74058212732561358302231226437062788676166966415465897661863160754340907 75445702479781427272750846543864801 2 981609426360740691344999861639072106 1923133 2 38509147694185143878364744631319200843710219946028640589009268082 236 pr_f pr_b (by decide +kernel)
theorem pr_p : Pr 57896044618658097711785492504343953926634992332820282019728792003956564819949 :=
  cert1 57896044618658097711785492504343953926634992332820282019728792003956564819949 74058212732561358302231226437062788676166966415465897661863160754340907 2 781764 255 pr_g (by decide +kernel)
end Prm
namespace Edw
open Prm
/-- 2^255 - 19 -/
abbrev P : Nat := 57896044618658097711785492504343953926634992332820282019728792003956564819949
instance : NeZero P := ⟨by decide⟩
theorem prP : Pr P := pr_p
/-- powers -/
def pwF (a : Fin P) : Nat → Fin P
  | 0 => 1
  | n + 1 => pwF a n * a
theorem pwF_val (a : Fin P) : ∀ n, (pwF a n).val = a.val ^ n % P
  | 0 => by rw [Nat.pow_zero]; rfl
  | n + 1 => by rw [pwF, Fin.val_mul, pwF_val a n, Nat.pow_succ, Nat.mod_mul_mod]
theorem pwF_add (a : Fin P) (m : Nat) : ∀ n, pwF a (m + n) = pwF a m * pwF a n
  | 0 => by rw [Nat.add_zero, pwF]; grobner
  | n + 1 => by rw [← Nat.add_assoc, pwF, pwF_add a m n, pwF]; grobner
theorem pwF_mulb (a b : Fin P) : ∀ n, pwF (a * b) n = pwF a n * pwF b n
  | 0 => by simp only [pwF]; grobner
  | n + 1 => by simp only [pwF]; rw [pwF_mulb a b n]; grobner
theorem pwF_sq (a : Fin P) (n : Nat) : pwF a (2 * n) = pwF a n * pwF a n := by rw [Nat.two_mul, pwF_add]
theorem not_dvd {a : Fin P} (h : a ≠ 0) : ¬ P ∣ a.val := fun hd => h (Fin.ext (Nat.eq_zero_of_dvd_of_lt hd a.isLt))
theorem pwF_one {a : Fin P} (h : a ≠ 0) : pwF a (P - 1) = 1 := by
  apply Fin.ext
  rw [pwF_val, fermat1 prP (not_dvd h)]; rfl
/-- the power by squaring -/
theorem pwF_pw (a : Fin P) (n : Nat) (h : n < 2 ^ 255) : (pwF a n).val = pw P a.val 255 n := by rw [pwF_val, pw_eq P a.val 255 n h]
def K : Fld P := {
  iv := fun a => pwF a (P - 2)
  mul_iv := fun a h => by
    have := pwF_one h
    rw [show P - 1 = P - 2 + 1 by decide, pwF] at this
    rw [← this]; grobner
  iv0 := by rw [show P - 2 = P - 3 + 1 by decide, pwF]; grobner
  two := by decide }
theorem P1 : P - 1 = 2 * ((P - 1) / 2) := by decide
theorem half_one {a : Fin P} (h : a ≠ 0) : pwF a ((P - 1) / 2) = 1 ∨ pwF a ((P - 1) / 2) = -1 := by
  have e := pwF_one h
  rw [P1, pwF_sq] at e
  generalize pwF a ((P - 1) / 2) = b at *
  have : (b - 1) * (b + 1) = 0 := by grobner
  rcases K.dom this with h | h
  · exact Or.inl (by grobner)
  · exact Or.inr (by grobner)
/-- no square: by its power -/
theorem nosq {a : Fin P} (h : pwF a ((P - 1) / 2) = -1) : ∀ r, r * r ≠ a := by
  intro r hr
  by_cases h0 : r = 0
  · subst h0
    rw [← hr] at h
    rw [show (P - 1) / 2 = (P - 1) / 2 - 1 + 1 by decide, pwF] at h
    exact K.one (by grobner)
  · have e := pwF_one h0
    rw [P1, pwF_sq, ← pwF_mulb, hr, h] at e
    exact K.two (by grobner)
theorem minus1 : (-1 : Fin P).val = P - 1 := by decide
theorem nosq_of {a : Fin P} (h : pw P a.val 255 ((P - 1) / 2) = P - 1) : ∀ r, r * r ≠ a := by
  refine nosq (Fin.ext ?_)
  rw [pwF_pw a _ (by decide), h, minus1]
theorem ns_of {d : Fin P} (h : pw P d.val 255 ((P - 1) / 2) = P - 1) : NS d := by
  intro r s e
  refine Classical.byContradiction fun hs => ?_
  have := K.mul_iv s hs
  refine nosq_of h (r * K.iv s) ?_
  rw [show r * K.iv s * (r * K.iv s) = (r * r) * (K.iv s * K.iv s) by clear e this; grobner, e, show d * (s * s) * (K.iv s * K.iv s) = d * ((s * K.iv s) * (s * K.iv s)) by clear e this; grobner, this]; grobner
/-- a root of -1 -/
def im : Fin P := 19681161376707505956807079304988542015446066515923890162744021073123829784752
theorem im_sq : im * im = -1 := by decide +kernel
theorem sq_of {a : Fin P} (h : pwF a ((P - 1) / 2) = 1) : ∃ r, r * r = a := by
  rw [show (P - 1) / 2 = 2 * ((P - 1) / 4) by decide, pwF_sq] at h
  have e : pwF a ((P + 3) / 8) * pwF a ((P + 3) / 8) = pwF a ((P - 1) / 4) * a := by
    rw [← pwF_sq, show 2 * ((P + 3) / 8) = (P - 1) / 4 + 1 by decide, pwF]
  generalize pwF a ((P - 1) / 4) = b at *
  have : (b - 1) * (b + 1) = 0 := by clear e; grobner
  rcases K.dom this with h1 | h1
  · exact ⟨pwF a ((P + 3) / 8), by rw [e, show b = 1 by clear e this h; grobner]; grobner⟩
  · refine ⟨pwF a ((P + 3) / 8) * im, ?_⟩
    have i2 := im_sq
    generalize im = i at *
    rw [show pwF a ((P + 3) / 8) * i * (pwF a ((P + 3) / 8) * i) = pwF a ((P + 3) / 8) * pwF a ((P + 3) / 8) * (i * i) by clear e this h h1 i2; grobner, e, i2, show b = -1 by clear e this h i2; grobner]; grobner
def C1 : Cv K := {
  d := 20800338683988658368647408995589388737092878452977063003340006470870624536394
  g := 121666
  h := 121665
  τ := 1
  ns := ns_of (by decide +kernel)
  hd := by decide +kernel
  gh := by decide +kernel
  t1 := by decide +kernel }
def C2 : Cv K := {
  d := 28692721048178265397853269683490922171210976843790175684556505508326675974058
  g := 121665
  h := 121666
  τ := -1
  ns := ns_of (by decide +kernel)
  hd := by decide +kernel
  gh := by decide +kernel
  t1 := by decide +kernel }
def T : Two K 121665 := {
  C1 := C1
  C2 := C2
  a1 := rfl
  a2 := rfl
  h1 := rfl
  g2 := rfl
  c0 := by decide
  sq := fun a b => by
    by_cases ha : a = 0
    · exact Or.inl ⟨0, by rw [ha]; grobner⟩
    by_cases hb : b = 0
    · exact Or.inr (Or.inl ⟨0, by rw [hb]; grobner⟩)
    rcases half_one ha with h | h
    · exact Or.inl (sq_of h)
    · rcases half_one hb with h' | h'
      · exact Or.inr (Or.inl (sq_of h'))
      · refine Or.inr (Or.inr (sq_of ?_))
        rw [pwF_mulb, h, h']; grobner
  s := 29211135797516667952872944588131720012451054005016861071534465705161565118763
  s1 := by show _ = 1 - C1.d; decide +kernel
  s2 := fun r h => by
    refine nosq_of (a := 1 - 29211135797516667952872944588131720012451054005016861071534465705161565118763) (by decide +kernel) (r * (1 - 29211135797516667952872944588131720012451054005016861071534465705161565118763)) ?_
    generalize (1 - 29211135797516667952872944588131720012451054005016861071534465705161565118763 : Fin P) = t at *
    rw [show r * t * (r * t) = (r * r * t) * t by clear h; grobner, h]; grobner
  s3 := nosq_of (by decide +kernel)
  n2 := by show ∀ r, r * r ≠ 1 - C2.d; exact nosq_of (by decide +kernel) }
end Edw
