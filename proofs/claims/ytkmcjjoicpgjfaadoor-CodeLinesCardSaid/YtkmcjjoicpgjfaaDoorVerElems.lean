/-
  The elements of a program that came in: instructions, lists of bytes, routes, sends. No statement of the seat is proved here.
-/
import Derived.Test.YtkmcjjoicpgjfaaDoorVerRows
import Derived.Test.YtkmcjjoicpgjfaaDoorVerTwin
namespace Go.Proofs.YtkmcjjoicpgjfaaDoor
open Go Go.RowKit Go.Sh Go.ChangeShapes Go.WideShapes Go.ChangeAt

theorem rows_map {α : Type} (f : α → List Value) : ∀ css : List (List Value), (∀ cs ∈ css, ∃ x, cs = f x) → ∃ xs : List α, css = xs.map f
  | [], _ => ⟨[], rfl⟩
  | c :: css, h => by
    obtain ⟨x, hx⟩ := h c (by simp)
    obtain ⟨xs, hxs⟩ := rows_map f css fun cs hcs => h cs (by simp [hcs])
    exact ⟨x :: xs, by rw [List.map_cons, ← hx, ← hxs]⟩
section
variable {H : Type} {enc : TypeId × Value → H} {W : World} {base : Nat} {spare : Nat → Bool} {held : Bool} {fuel : Nat} {x : DataW H × List MemPlace}
set_option maxRecDepth 100000 in
theorem cellsIns : Tryd.prog.cellsOf 33 = 3 := by kernel_rfl
set_option maxRecDepth 100000 in
theorem cellsSpec : Tryd.prog.cellsOf 43 = 3 := by kernel_rfl
set_option maxRecDepth 100000 in
theorem cellsLs : Tryd.prog.cellsOf 41 = 1 := by kernel_rfl
set_option maxRecDepth 100000 in
theorem trod_ins {cs : List Value} (h : DataW.trod enc Tryd.prog W base spare held fuel 33 cs = some x) : ∃ i : Ins, cs = i.cells := by
  obtain ⟨xs, q, _, _, hl, hxl, hf⟩ := DataW.trod_struct Tryd.underlying33 h
  rw [cellsIns] at hl
  match cs, hl with
  | [a, b, c], _ =>
    have h0 : DataW.trod enc Tryd.prog W base spare held q 5 (List.take (Tryd.prog.cellsOf 5) (List.drop 0 [a, b, c])) = xs[0]? := hf 0 _ rfl
    have h1 : DataW.trod enc Tryd.prog W base spare held q 3 (List.take (Tryd.prog.cellsOf 3) (List.drop 1 [a, b, c])) = xs[1]? := hf 1 _ rfl
    have h2 : DataW.trod enc Tryd.prog W base spare held q 3 (List.take (Tryd.prog.cellsOf 3) (List.drop 2 [a, b, c])) = xs[2]? := hf 2 _ rfl
    have hxs : xs.length = 3 := hxl
    simp only [cells1b, cellsI, List.drop_zero, List.drop_succ_cons, List.take_succ_cons, List.take_zero] at h0 h1 h2
    rw [List.getElem?_eq_getElem (by omega)] at h0 h1 h2
    obtain ⟨op, e0, o1, o2⟩ := trod_u8 h0
    obtain ⟨dl, e1, _, w1⟩ := DataW.trod_int Tryd.underlying3 h1
    obtain ⟨fl, e2, _, w2⟩ := DataW.trod_int Tryd.underlying3 h2
    obtain rfl : b = .int .i64 dl := by simpa using e1
    obtain rfl : c = .int .i64 fl := by simpa using e2
    refine ⟨⟨UInt8.ofNat op.toNat, dl, fl⟩, ?_⟩
    rw [e0, Ins.cells]
    have : (((UInt8.ofNat op.toNat).toNat : Nat) : Int) = op := by
      rw [UInt8.toNat_ofNat']
      omega
    rw [this]
/-- numbers in a cell -/
theorem openIc {fuel : Nat} {v : Value} {y : DataW H × List MemPlace} (hf : DataW.trod enc Tryd.prog W 0 (fun _ => true) true fuel 41 [v] = some y) :
    ∃ A n c l, v = .slice A n c ∧ RI W W.heap.size A n l ∧ n ≤ c ∧ HasLen y.1 n := by
  obtain ⟨A, n, c, css, rfl, hr, hc, hd⟩ := open_rows (size := 1) Tryd.underlying41 cellsI (by decide) hf
  have hel : ∀ cs ∈ css, ∃ z : Int, cs = [.int .i64 z] ∧ -9223372036854775808 ≤ z ∧ z ≤ 9223372036854775807 := fun cs hcs => by
    obtain ⟨i, hi, rfl⟩ := List.mem_iff_getElem.1 hcs
    rcases hd with ⟨_, h0⟩ | ⟨es, sp, _, _, hel⟩
    · have := hr.len
      omega
    · obtain ⟨q, y2, ht, _⟩ := hel i _ (List.getElem?_eq_getElem hi)
      obtain ⟨z, e, _, w⟩ := DataW.trod_int Tryd.underlying3 ht
      exact ⟨z, e, bounds_i64 w⟩
  obtain ⟨zs, hzs⟩ := rows_map (fun z : Int => [Value.int .i64 z]) css fun cs hcs => by obtain ⟨z, e, _⟩ := hel cs hcs; exact ⟨z, e⟩
  have hflat : css.flatten = iv zs := by
    rw [hzs]
    clear hzs
    induction zs with
    | nil => rfl
    | cons z zs ih => simp [iv] at ih ⊢; exact ih
  have hrd := RR.reads hr (by decide)
  rw [hflat] at hrd
  refine ⟨A, n, c, zs, rfl, ⟨hrd, fun z hz => ?_⟩, hc, hd.has⟩
  obtain ⟨z', e, hb⟩ := hel [.int .i64 z] (by rw [hzs]; exact List.mem_map.2 ⟨z, hz, rfl⟩)
  injection e with e _
  injection e with _ e
  rw [e]
  exact hb
/-- stops in a cell -/
theorem openSc {fuel : Nat} {v : Value} {y : DataW H × List MemPlace} (hf : DataW.trod enc Tryd.prog W 0 (fun _ => true) true fuel 40 [v] = some y) :
    ∃ (A : Option Addr) (n c : Nat) (ss : List Sp), v = .slice A n c ∧ RR W W.heap.size 3 A n (ss.map Sp.cells) ∧ n ≤ c ∧ HasLen y.1 n := by
  obtain ⟨A, n, c, css, rfl, hr, hc, hd⟩ := open_rows (size := 3) Tryd.underlying40 cellsStop (by decide) hf
  have hel : ∀ cs ∈ css, ∃ s : Sp, cs = s.cells := fun cs hcs => by
    obtain ⟨i, hi, rfl⟩ := List.mem_iff_getElem.1 hcs
    rcases hd with ⟨_, h0⟩ | ⟨es, sp, _, _, hel⟩
    · have := hr.len
      omega
    · obtain ⟨q, y2, ht, _⟩ := hel i _ (List.getElem?_eq_getElem hi)
      obtain ⟨s, _, e⟩ := trod_stop ht
      exact ⟨s, e⟩
  obtain ⟨ss, rfl⟩ := rows_map Sp.cells css hel
  exact ⟨A, n, c, ss, rfl, hr, hc, hd.has⟩
/-- the data of rows of rows: how long each is -/
def HasRows (d : DataW H) (ls : List Nat) : Prop := (d = .nil ∧ ls = []) ∨ ∃ es sp : List (DataW H), d = .slice es sp ∧ es.length = ls.length ∧ ∀ i, i < ls.length → ∃ di, es[i]? = some di ∧ HasLen di (ls.getD i 0)
set_option maxRecDepth 100000 in
theorem openRts {fuel : Nat} {v : Value} {y : DataW H × List MemPlace} (hf : DataW.trod enc Tryd.prog W 0 (fun _ => true) true fuel 27 [v] = some y) :
    ∃ (A : Option Addr) (n c : Nat) (rs : List (List Sp)), v = .slice A n c ∧ RRt W W.heap.size A n rs ∧ n ≤ c ∧ HasRows y.1 (rs.map List.length) := by
  obtain ⟨A, n, c, css, rfl, hr, hc, hd⟩ := open_rows (size := 1) Tryd.underlying27 (by kernel_rfl) (by decide) hf
  rcases hd with ⟨hd, rfl⟩ | ⟨es, sp, hd, hel, hi⟩
  · have : css = [] := List.eq_nil_of_length_eq_zero hr.len
    subst this
    exact ⟨A, 0, c, [], rfl, ⟨rfl, [], RR.reads hr (by decide), fun i hi => absurd hi (Nat.not_lt_zero _)⟩, hc, .inl ⟨hd, rfl⟩⟩
  · have hcl := hr.len
    have key : ∀ i, i < n → ∃ x : (Option Addr × Nat × Nat) × List Sp, css[i]? = some [.slice x.1.1 x.1.2.1 x.1.2.2] ∧ x.1.2.1 ≤ x.1.2.2 ∧ RR W W.heap.size 3 x.1.1 x.1.2.1 (x.2.map Sp.cells) ∧ ∃ di, es[i]? = some di ∧ HasLen di x.2.length := by
      intro i hin
      have hci := List.getElem?_eq_getElem (l := css) (i := i) (by omega)
      obtain ⟨q, y2, ht, he⟩ := hi i _ hci
      have hl1 := hr.2.1 _ (List.mem_of_getElem? hci)
      match hcs : css[i]'(by omega), hl1 with
      | [u], _ =>
        rw [hcs] at ht
        obtain ⟨Ai, ni, ci, ss, rfl, h1, h2, h3⟩ := openSc ht
        have hsl : ss.length = ni := by have := h1.len; rw [List.length_map] at this; exact this
        exact ⟨⟨⟨Ai, ni, ci⟩, ss⟩, by rw [hci, hcs], h2, h1, _, he, by rw [hsl]; exact h3⟩
    have : Inhabited ((Option Addr × Nat × Nat) × List Sp) := ⟨⟨⟨none, 0, 0⟩, []⟩⟩
    obtain ⟨f, hfn⟩ := Go.Deep.choose_lt key
    have hrat : ∀ i, i < n → rat ((List.range n).map fun i => (f i).2) i = (f i).2 := fun i hin => by simp [rat, hin]
    have hflat : ∀ (l : List (List Value)), (∀ cs ∈ l, cs.length = 1) → ∀ i u, l[i]? = some [u] → l.flatten[i]? = some u := fun l hl i u hu => by
      have := flat_at hl i [u] hu 0 u rfl
      simpa using this
    refine ⟨A, n, c, (List.range n).map fun i => (f i).2, rfl, ⟨by simp, css.flatten, RR.reads hr (by decide), fun i hin => ?_⟩, hc, .inr ⟨es, sp, hd, by simp [hel], fun i hin => ?_⟩⟩
    · obtain ⟨h1, h2, h3, _⟩ := hfn i hin
      rw [hrat i hin]
      exact ⟨_, _, _, hflat css hr.2.1 i _ h1, h2, h3⟩
    · have hin' : i < n := by simpa using hin
      obtain ⟨_, _, _, di, h4, h5⟩ := hfn i hin'
      refine ⟨di, h4, ?_⟩
      simpa [hin'] using h5
/-- the data of a send: how long its routes are -/
def HasSnd (d : DataW H) (n : Nat) : Prop := ∃ d0 d1 d2, d = .agg [d0, d1, d2] ∧ HasLen d1 n
set_option maxRecDepth 100000 in
theorem trod_spec {fuel : Nat} {cs : List Value} {y : DataW H × List MemPlace} (h : DataW.trod enc Tryd.prog W 0 (fun _ => true) true fuel 43 cs = some y) :
    ∃ (m : Int) (A : Option Addr) (n c : Nat) (l : List Int) (b : Int), cs = [.int .i64 m, .slice A n c, .int .i64 b] ∧ RI W W.heap.size A n l ∧ n ≤ c ∧ HasSnd y.1 n := by
  obtain ⟨ys, q, _, hag, hl, hyl, hf⟩ := DataW.trod_struct Tryd.underlying43 h
  rw [cellsSpec] at hl
  have hys : ys.length = 3 := hyl
  match cs, hl, ys, hys with
  | [v0, v1, v2], _, [y0, y1, y2], _ =>
    have t0 : DataW.trod enc Tryd.prog W 0 (fun _ => true) true q 3 [v0] = some y0 := by
      have h := hf 0 _ rfl
      simpa [cellsI] using h
    have t1 : DataW.trod enc Tryd.prog W 0 (fun _ => true) true q 41 [v1] = some y1 := by
      have h := hf 1 _ rfl
      simpa [cellsLs] using h
    have t2 : DataW.trod enc Tryd.prog W 0 (fun _ => true) true q 3 [v2] = some y2 := by
      have h := hf 2 _ rfl
      simpa [cellsI] using h
    obtain ⟨m, e0, _, _⟩ := DataW.trod_int Tryd.underlying3 t0
    obtain ⟨A, n, c, l, rfl, h1, h2, h3⟩ := openIc t1
    obtain ⟨b, e2, _, _⟩ := DataW.trod_int Tryd.underlying3 t2
    obtain rfl : v0 = .int .i64 m := by simpa using e0
    obtain rfl : v2 = .int .i64 b := by simpa using e2
    exact ⟨m, A, n, c, l, b, rfl, h1, h2, y0.1, y1.1, y2.1, by rw [hag]; rfl, h3⟩
def HasSnds (d : DataW H) (ls : List Nat) : Prop := (d = .nil ∧ ls = []) ∨ ∃ es sp : List (DataW H), d = .slice es sp ∧ es.length = ls.length ∧ ∀ i, i < ls.length → ∃ di, es[i]? = some di ∧ HasSnd di (ls.getD i 0)
set_option maxRecDepth 100000 in
theorem openSnds {fuel : Nat} {v : Value} {y : DataW H × List MemPlace} (hf : DataW.trod enc Tryd.prog W 0 (fun _ => true) true fuel 28 [v] = some y) :
    ∃ (A : Option Addr) (n c : Nat) (ss : List Snd), v = .slice A n c ∧ RSn W W.heap.size A n ss ∧ n ≤ c ∧ HasSnds y.1 (ss.map fun s => s.rts.length) := by
  obtain ⟨A, n, c, css, rfl, hr, hc, hd⟩ := open_rows (size := 3) Tryd.underlying28 cellsSpec (by decide) hf
  rcases hd with ⟨hd, rfl⟩ | ⟨es, sp, hd, hel, hi⟩
  · have : css = [] := List.eq_nil_of_length_eq_zero hr.len
    subst this
    exact ⟨A, 0, c, [], rfl, ⟨rfl, [], hr, fun i hi => absurd hi (Nat.not_lt_zero _)⟩, hc, .inl ⟨hd, rfl⟩⟩
  · have hcl := hr.len
    have key : ∀ i, i < n → ∃ x : (Option Addr × Nat × Nat) × Snd, css[i]? = some [.int .i64 x.2.msg, .slice x.1.1 x.1.2.1 x.1.2.2, .int .i64 x.2.blk] ∧ x.1.2.1 ≤ x.1.2.2 ∧ RI W W.heap.size x.1.1 x.1.2.1 x.2.rts ∧ ∃ di, es[i]? = some di ∧ HasSnd di x.2.rts.length := by
      intro i hin
      have hci := List.getElem?_eq_getElem (l := css) (i := i) (by omega)
      obtain ⟨q, y2, ht, he⟩ := hi i _ hci
      obtain ⟨m, Ai, ni, ci, l, b, hcs, h1, h2, h3⟩ := trod_spec ht
      exact ⟨⟨⟨Ai, ni, ci⟩, ⟨m, l, b⟩⟩, by rw [hci, hcs], h2, h1, _, he, by rw [h1.len]; exact h3⟩
    have : Inhabited ((Option Addr × Nat × Nat) × Snd) := ⟨⟨⟨none, 0, 0⟩, ⟨0, [], 0⟩⟩⟩
    obtain ⟨f, hfn⟩ := Go.Deep.choose_lt key
    have hdat : ∀ i, i < n → dat ((List.range n).map fun i => (f i).2) i = (f i).2 := fun i hin => by simp [dat, hin]
    refine ⟨A, n, c, (List.range n).map fun i => (f i).2, rfl, ⟨by simp, css, hr, fun i hin => ?_⟩, hc, .inr ⟨es, sp, hd, by simp [hel], fun i hin => ?_⟩⟩
    · obtain ⟨h1, h2, h3, _⟩ := hfn i hin
      rw [hdat i hin]
      exact ⟨_, _, _, h1, h2, h3⟩
    · have hin' : i < n := by simpa using hin
      obtain ⟨_, _, _, di, h4, h5⟩ := hfn i hin'
      refine ⟨di, h4, ?_⟩
      simpa [hin'] using h5
set_option maxRecDepth 100000 in
/-- bytes in a cell -/
theorem openBc {H : Type} {enc : TypeId × Value → H} {P : Program} {W : World} {fuel : Nat} {t e : TypeId} {v : Value} {y : DataW H × List MemPlace} (he : P.underlying t = some (.slice e)) (hu : P.underlying e = some (.int .u8)) (hcu : P.cellsOf e = 1)
    (hf : DataW.trod enc P W 0 (fun _ => true) true fuel t [v] = some y) :
    ∃ A n c l, v = .slice A n c ∧ RB W W.heap.size A n l ∧ n ≤ c ∧ HasLen y.1 n := by
  rcases open_ints he hu hcu hf with ⟨hcs, hx⟩ | ⟨x, l, cc, zs, hcs, _, hll, hmm, hz, hx, hcell, hwz⟩
  · obtain rfl : v = .slice none 0 0 := by simpa using hcs
    subst hx
    exact ⟨none, 0, 0, [], rfl, RB.none_, Nat.le_refl _, .inl ⟨rfl, rfl⟩⟩
  · obtain rfl : v = .slice (some x) l cc := by simpa using hcs
    subst hx
    simp only [if_true] at hz
    have hlen : (toB (zs.take l)).length = l := by simp [toB]; omega
    refine ⟨some x, l, cc, toB (zs.take l), rfl, ⟨by rw [length_bv, hlen]; omega, ?_⟩, hll, .inr ⟨_, _, rfl, by simp [lits]; omega⟩⟩
    rcases Nat.eq_zero_or_pos l with h0 | h0
    · left
      apply List.eq_nil_of_length_eq_zero
      rw [length_bv, hlen, h0]
    refine .inr ⟨x, rfl, ?_, fun j hj => ?_⟩
    · have := hcell 0 (by omega)
      have hb := World.block_lt_of_cell? W _ this
      rw [block_of_add] at hb
      exact hb
    · rw [length_bv, hlen] at hj
      rw [bv_at _ _ (by rw [hlen]; exact hj), hcell j (by omega), bt_toB _ _ (by rw [List.length_take]; omega) (fun q hq => hwz q (List.mem_of_mem_take hq))]
      congr 2
      simp [hj]
set_option maxRecDepth 100000 in
/-- lists of bytes in a cell -/
theorem openMs {fuel : Nat} {v : Value} {y : DataW H × List MemPlace} (hf : DataW.trod enc Tryd.prog W 0 (fun _ => true) true fuel 26 [v] = some y) :
    ∃ (A : Option Addr) (n c : Nat) (ls : List (List UInt8)), v = .slice A n c ∧ RBB W W.heap.size A n ls ∧ n ≤ c ∧ HasRows y.1 (ls.map List.length) := by
  obtain ⟨A, n, c, css, rfl, hr, hc, hd⟩ := open_rows (size := 1) Tryd.underlying26 (by kernel_rfl) (by decide) hf
  rcases hd with ⟨hd, rfl⟩ | ⟨es, sp, hd, hel, hi⟩
  · have : css = [] := List.eq_nil_of_length_eq_zero hr.len
    subst this
    exact ⟨A, 0, c, [], rfl, ⟨rfl, [], RR.reads hr (by decide), fun i hi => absurd hi (Nat.not_lt_zero _)⟩, hc, .inl ⟨hd, rfl⟩⟩
  · have hcl := hr.len
    have key : ∀ i, i < n → ∃ x : (Option Addr × Nat × Nat) × List UInt8, css[i]? = some [.slice x.1.1 x.1.2.1 x.1.2.2] ∧ x.1.2.1 ≤ x.1.2.2 ∧ RB W W.heap.size x.1.1 x.1.2.1 x.2 ∧ ∃ di, es[i]? = some di ∧ HasLen di x.2.length := by
      intro i hin
      have hci := List.getElem?_eq_getElem (l := css) (i := i) (by omega)
      obtain ⟨q, y2, ht, he⟩ := hi i _ hci
      have hl1 := hr.2.1 _ (List.mem_of_getElem? hci)
      match hcs : css[i]'(by omega), hl1 with
      | [u], _ =>
        rw [hcs] at ht
        obtain ⟨Ai, ni, ci, l, rfl, h1, h2, h3⟩ := openBc Tryd.underlying39 Tryd.underlying5 cells1b ht
        exact ⟨⟨⟨Ai, ni, ci⟩, l⟩, by rw [hci, hcs], h2, h1, _, he, by rw [h1.len]; exact h3⟩
    have : Inhabited ((Option Addr × Nat × Nat) × List UInt8) := ⟨⟨⟨none, 0, 0⟩, []⟩⟩
    obtain ⟨f, hfn⟩ := Go.Deep.choose_lt key
    have hlat : ∀ i, i < n → lat ((List.range n).map fun i => (f i).2) i = (f i).2 := fun i hin => by simp [lat, hin]
    have hflat : ∀ (l : List (List Value)), (∀ cs ∈ l, cs.length = 1) → ∀ i u, l[i]? = some [u] → l.flatten[i]? = some u := fun l hl i u hu => by
      have := flat_at hl i [u] hu 0 u rfl
      simpa using this
    refine ⟨A, n, c, (List.range n).map fun i => (f i).2, rfl, ⟨by simp, css.flatten, RR.reads hr (by decide), fun i hin => ?_⟩, hc, .inr ⟨es, sp, hd, by simp [hel], fun i hin => ?_⟩⟩
    · obtain ⟨h1, h2, h3, _⟩ := hfn i hin
      rw [hlat i hin]
      exact ⟨_, _, _, hflat css hr.2.1 i _ h1, h2, h3⟩
    · have hin' : i < n := by simpa using hin
      obtain ⟨_, _, _, di, h4, h5⟩ := hfn i hin'
      refine ⟨di, h4, ?_⟩
      simpa [hin'] using h5
end
end Go.Proofs.YtkmcjjoicpgjfaaDoor
