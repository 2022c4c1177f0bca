/-
  A sharper law of append onto a row of the call's own (in place: only the cells behind are written; else: what was there stays as it was), and families of rows that hold marks: rows in one block belong to one number. Over any program; no statement of the seat is proved here.
-/
import Derived.Test.YtobmopjfbgkfbaaRowsOf
import Derived.Test.YtobmopjfbgkfbaaSpare
namespace Go.Sh
open Go Go.RowKit

section
variable {P : Program} {t e : TypeId} {z : Value} {size bytes : Nat}
set_option maxRecDepth 100000 in
/-- append: in place, or into a new block -/
theorem run_app2 (T : STy P t e z size bytes) (w : World) (ty : TypeId) (base : Nat)
    (v : Value) (n : Nat) (xs : List Value) (hown : w.ownsRow base e size v n xs)
    (B : Nat) (A : Option Addr) (m c : Nat) (news : List Value) (hr : Reads w B size A m news) (h1 : ∀ u ∈ news, u.oneCell' = true) (hm : 0 < m)
    (hbytes : (n + m) * bytes ≤ 140737488355328) (h63 : n + m ≤ 9223372036854775807) (hbase : base ≤ w.heap.size) :
    ∃ A' c' w', (Builtin.append_ #[t, t] ty #[v, .slice A m c]).run P w = .ok (.slice A' (n + m) c') w' ∧ w'.ownsRow base e size (.slice A' (n + m) c') (n + m) (xs ++ news) ∧
      ((Below w.heap.size w w' ∧ (Value.slice A' (n + m) c').ownBlock = some w.heap.size) ∨
       ∃ g cur, v = .slice (some ⟨g, 0, none⟩) n c' ∧ A' = some ⟨g, 0, none⟩ ∧ w.heap[g]? = some (.cells cur e (0, 0)) ∧ w.grownBy w' (some g) ∧
         w'.heap[g]? = some (.cells (cur.toList.take (n * size) ++ news ++ cur.toList.drop (n * size + news.length)).toArray e (0, 0))) := by
  obtain ⟨i, hi, hz, hsize, hby⟩ := info_parts T.info
  subst hsize
  subst hby
  have hsz := T.pos
  have hnl : 0 < news.length := by rw [hr.1]; exact Nat.mul_pos hm hsz
  obtain ⟨a, rfl, _, hlie⟩ := hr.some_ hnl
  have hl := hr.1
  have hnews : ∀ j u, news[j]? = some u → w.cell? (a.add j) = some u := fun j u hu => hlie.get hu
  have h63' : n + m ≤ maxLen := by simp only [maxLen]; omega
  have hlen : (xs ++ news).length = (n + m) * i.size := by rw [List.length_append, hown.1, hl, Nat.add_mul]
  have grown : ∀ (old : Nat), old < n + m →
      (w.drew.alloc (.cells (xs.toArray ++ news.toArray ++ Builtin.zeroCells z.cells (grownCap w (n + m) old e - (n + m))) e)).ownsRow base e i.size
        (.slice (some ⟨w.heap.size, 0, none⟩) (n + m) (grownCap w (n + m) old e)) (n + m) (xs ++ news) ∧
      Below w.heap.size w (w.drew.alloc (.cells (xs.toArray ++ news.toArray ++ Builtin.zeroCells z.cells (grownCap w (n + m) old e - (n + m))) e)) := by
    intro old ho
    have hge := grownCap_ge w (n + m) old e
    have hcm : grownCap w (n + m) old e ≤ maxLen := grownCap_le_maxLen w (n + m) old e h63'
    refine ⟨⟨hlen, .inr ⟨w.heap.size, _, _, rfl, hbase, heap_alloc_new w.drew _, hge, hcm, ?_, ?_⟩⟩, (Below.refl w.heap.size w).drew.alloc (Nat.le_refl _) _⟩
    · simp only [Array.size_append, List.size_toArray, size_zeroCells, T.zs, hown.1, hl, ← Nat.add_mul]
      congr 1
      omega
    · simp only [Array.toList_append, List.append_assoc]
      rw [← List.append_assoc, ← hlen]
      exact List.take_left
  rcases hown.2 with ⟨rfl, rfl⟩ | ⟨g, cap, cur, rfl, hbg, hg, hnc, hcm, hcs, htake⟩
  · have hx : xs = [] := List.eq_nil_of_length_eq_zero (by simpa using hown.1)
    subst hx
    have hr := run_append_nil (P := P) w t ty e i z T.und hi hz a m c news hl hnews hm (by omega) (by have hb := hbytes; simp only [Nat.zero_add] at hb; omega)
    have hgr := grown 0 (by omega)
    simp only [Nat.zero_add, List.nil_append, Array.empty_append] at hgr ⊢
    exact ⟨_, _, _, hr, hgr.1, .inl ⟨hgr.2, rfl⟩⟩
  · by_cases hroom : n + m ≤ cap
    · have hfit : n * i.size + news.length ≤ cur.size := by rw [hl, hcs, ← Nat.add_mul]; exact Nat.mul_le_mul_right _ hroom
      have hr := run_append_room (P := P) w t ty e i T.und hi g n cap cur hg a m c news hl hnews h1 hroom hfit
      refine ⟨_, _, _, hr, ⟨hlen, .inr ⟨g, cap, _, rfl, hbg, setRow_heap w g cur _ e _ hg, hroom, hcm, ?_, ?_⟩⟩, .inr ⟨g, cur, rfl, rfl, hg, ⟨rfl, rfl, rfl, by simp, fun k _ hk => setRow_other w g k _ (fun e => hk (by simp [e]))⟩, setRow_heap w g cur _ e _ hg⟩⟩
      · simp only [List.size_toArray, List.length_append, List.length_take, List.length_drop, Array.length_toList]
        omega
      · rw [htake, ← hlen]
        exact List.take_left
    · have holds : ∀ j u, xs[j]? = some u → w.cell? ((⟨g, 0, none⟩ : Addr).add j) = some u := hown.cells (g := g) rfl
      have hr := run_append_grow (P := P) w t ty e i z T.und hi hz ⟨g, 0, none⟩ n cap xs hown.1 holds a m c news hl hnews (by omega) (by omega) (growslice_fits (by omega) hbytes)
      have hgr := grown cap (by omega)
      exact ⟨_, _, _, hr, hgr.1, .inl ⟨hgr.2, rfl⟩⟩
end

/-! ### families -/
/-- the marks of list i at the places a, a + 1, .. (n of them) -/
def marksAt (i a n : Nat) : List UInt8 := (List.range n).map fun k => Go.Proofs.Ytobmopjfbgkfbaa.mk i (a + k)
def marks (i n : Nat) : List UInt8 := marksAt i 0 n
theorem length_marksAt (i a n : Nat) : (marksAt i a n).length = n := by simp [marksAt]
theorem length_marks (i n : Nat) : (marks i n).length = n := length_marksAt i 0 n
theorem marksAt_get (i a n k : Nat) (h : k < n) : (marksAt i a n)[k]? = some (Go.Proofs.Ytobmopjfbgkfbaa.mk i (a + k)) := by simp [marksAt, h]
theorem marks_get (i n k : Nat) (h : k < n) : (marks i n)[k]? = some (Go.Proofs.Ytobmopjfbgkfbaa.mk i k) := by simp [marks, marksAt_get i 0 n k h]
theorem marks_app (i n k : Nat) : marks i n ++ marksAt i n k = marks i (n + k) := by
  simp [marks, marksAt, List.range_add]
theorem marksAt_succ (i a k : Nat) : marksAt i a (k + 1) = marksAt i a k ++ [Go.Proofs.Ytobmopjfbgkfbaa.mk i (a + k)] := by simp [marksAt, List.range_succ]
theorem bt_marks (i n k : Nat) (h : k < n) : bt (marks i n) k = ((Go.Proofs.Ytobmopjfbgkfbaa.mk i k).toNat : Int) := by
  simp [bt, marks_get i n k h]

/-- a family: rows that hold marks, each with its number and its length; rows in one block have one number -/
structure Fam (w : World) (base e : Nat) (S : List (Value × Nat × Nat)) : Prop where
  row : ∀ u i n, (u, i, n) ∈ S → w.ownsRow base e 1 u n (bv (marks i n))
  sep : ∀ u i n v j k g, (u, i, n) ∈ S → (v, j, k) ∈ S → u.ownBlock = some g → v.ownBlock = some g → i = j
section
variable {w w' : World} {base e : Nat} {S : List (Value × Nat × Nat)}
theorem Fam.later (h : Fam w base e S) (hb : Below w.heap.size w w') : Fam w' base e S := ⟨fun u i n hu => own_later (h.row u i n hu) hb, h.sep⟩
theorem Fam.drewN (h : Fam w base e S) (k : Nat) : Fam (w.drewN k) base e S := ⟨fun u i n hu => h.row u i n hu, h.sep⟩
/-- what is written elsewhere -/
theorem Fam.kept (h : Fam w base e S) {row : Option Nat} (hg : w.grownBy w' row) (hr : ∀ u i n, (u, i, n) ∈ S → u.ownBlock = none ∨ u.ownBlock ≠ row) : Fam w' base e S := ⟨fun u i n hu => (h.row u i n hu).kept hg (hr u i n hu), h.sep⟩
theorem Fam.sub {S' : List (Value × Nat × Nat)} (h : Fam w base e S) (hs : ∀ x, x ∈ S' → x ∈ S) : Fam w base e S' := ⟨fun u i n hu => h.row u i n (hs _ hu), fun u i n v j k g hu hv => h.sep u i n v j k g (hs _ hu) (hs _ hv)⟩

theorem take_mark (cur : List Value) (i n m N : Nat) (hn : cur.take n = bv (marks i n)) (hN : cur.take N = bv (marks i N)) :
    (cur.take n ++ bv (marksAt i n m) ++ cur.drop (n + m)).take N = bv (marks i N) := by
  rw [hn, ← bv_append, marks_app]
  apply List.ext_getElem?
  intro j
  by_cases hj : j < N
  · rw [List.getElem?_take, if_pos hj, ← hN, List.getElem?_take, if_pos hj]
    by_cases hj2 : j < n + m
    · rw [List.getElem?_append_left (by rw [length_bv, length_marks]; exact hj2)]
      have h3 : (bv (marks i N))[j]? = cur[j]? := by rw [← hN, List.getElem?_take, if_pos hj]
      rw [← h3]
      simp [bv, marks_get i (n + m) j hj2, marks_get i N j hj]
    · rw [List.getElem?_append_right (by rw [length_bv, length_marks]; omega), length_bv, length_marks, List.getElem?_drop]
      congr 1
      omega
  · rw [List.getElem?_eq_none (by rw [List.length_take]; omega), List.getElem?_eq_none (by rw [length_bv, length_marks]; omega)]

set_option maxRecDepth 100000 in
/-- append of the next marks onto a row of a family -/
theorem Fam.app (h : Fam w base e S) {u : Value} {i n m : Nat} (hu : (u, i, n) ∈ S) {A' : Option Addr} {c' : Nat} (ho : w'.ownsRow base e 1 (.slice A' (n + m) c') (n + m) (bv (marks i n) ++ bv (marksAt i n m)))
    (hh : (Below w.heap.size w w' ∧ (Value.slice A' (n + m) c').ownBlock = some w.heap.size) ∨
       ∃ g cur, u = .slice (some ⟨g, 0, none⟩) n c' ∧ A' = some ⟨g, 0, none⟩ ∧ w.heap[g]? = some (.cells cur e (0, 0)) ∧ w.grownBy w' (some g) ∧
         w'.heap[g]? = some (.cells (cur.toList.take (n * 1) ++ bv (marksAt i n m) ++ cur.toList.drop (n * 1 + (bv (marksAt i n m)).length)).toArray e (0, 0))) :
    Fam w' base e ((.slice A' (n + m) c', i, n + m) :: S) := by
  rw [← bv_append, marks_app] at ho
  rcases hh with ⟨hb, hnew⟩ | ⟨g, cur, rfl, rfl, hg, hgr, hg'⟩
  · refine ⟨?_, ?_⟩
    · intro v j k hv
      rcases List.mem_cons.1 hv with he | hv
      · simp only [Prod.mk.injEq] at he
        obtain ⟨rfl, rfl, rfl⟩ := he
        exact ho
      · exact own_later (h.row v j k hv) hb
    · intro v j k x j' k' g hv hx hvg hxg
      rcases List.mem_cons.1 hv with he | hv1 <;> rcases List.mem_cons.1 hx with he' | hx1
      · simp only [Prod.mk.injEq] at he he'
        rw [he.2.1, he'.2.1]
      · simp only [Prod.mk.injEq] at he
        obtain ⟨rfl, rfl, rfl⟩ := he
        rw [hnew] at hvg
        injection hvg with hvg
        have := ((h.row x j' k' hx1).lt g hxg).2
        omega
      · simp only [Prod.mk.injEq] at he'
        obtain ⟨rfl, rfl, rfl⟩ := he'
        rw [hnew] at hxg
        injection hxg with hxg
        have := ((h.row v j k hv1).lt g hvg).2
        omega
      · exact h.sep v j k x j' k' g hv1 hx1 hvg hxg
  · rw [Nat.mul_one, length_bv, length_marksAt] at hg'
    have hrow := h.row _ _ _ hu
    have hcap : n + m ≤ c' := own_cap ho
    have hcs : cur.size = c' ∧ cur.toList.take n = bv (marks i n) := by
      rcases hrow.2 with ⟨hx, _⟩ | ⟨g1, cap1, cur1, hx, _, hg1, _, _, hs1, ht1⟩
      · cases hx
      · injection hx with hx1 _ hx2
        injection hx1 with hx1
        injection hx1 with hx1
        subst hx1
        subst hx2
        rw [hg] at hg1
        injection hg1 with hg1
        injection hg1 with hg1
        subst hg1
        exact ⟨by omega, by rw [Nat.mul_one] at ht1; exact ht1⟩
    refine ⟨?_, ?_⟩
    · intro v j k hv
      rcases List.mem_cons.1 hv with he | hv
      · simp only [Prod.mk.injEq] at he
        obtain ⟨rfl, rfl, rfl⟩ := he
        exact ho
      · by_cases hvb : v.ownBlock = some g
        · obtain rfl : i = j := h.sep _ i n v j k g hu hv rfl hvb
          have hr2 := h.row v i k hv
          refine ⟨hr2.1, ?_⟩
          rcases hr2.2 with hx | ⟨g1, cap1, cur1, rfl, hb1, hg1, hn1, hm1, hs1, ht1⟩
          · exact .inl hx
          · obtain rfl : g1 = g := by simpa [Value.ownBlock] using hvb
            rw [hg] at hg1
            injection hg1 with hg1
            injection hg1 with hg1
            subst hg1
            rw [Nat.mul_one] at ht1
            refine .inr ⟨g1, cap1, _, rfl, hb1, hg', hn1, hm1, ?_, ?_⟩
            · simp only [List.size_toArray, List.length_append, List.length_take, List.length_drop, length_bv, length_marksAt, Array.length_toList]
              omega
            · rw [Nat.mul_one]
              exact take_mark cur.toList i n m k hcs.2 ht1
        · exact (h.row v j k hv).kept hgr (.inr hvb)
    · have key : ∀ x j' k' g', (x, j', k') ∈ S → x.ownBlock = some g' → some g = some g' → i = j' := fun x j' k' g' hx hxg hgg => h.sep _ i n x j' k' g' hu hx (by simpa [Value.ownBlock] using hgg) hxg
      intro v j k x j' k' g' hv hx hvg hxg
      rcases List.mem_cons.1 hv with he | hv1 <;> rcases List.mem_cons.1 hx with he' | hx1
      · simp only [Prod.mk.injEq] at he he'
        rw [he.2.1, he'.2.1]
      · simp only [Prod.mk.injEq] at he
        obtain ⟨rfl, rfl, rfl⟩ := he
        exact key x j' k' g' hx1 hxg hvg
      · simp only [Prod.mk.injEq] at he'
        obtain ⟨rfl, rfl, rfl⟩ := he'
        exact (key v j k g' hv1 hvg hxg).symm
      · exact h.sep v j k x j' k' g' hv1 hx1 hvg hxg
end

section
variable {P : Program} {t e : TypeId} {z : Value} {bytes : Nat}
/-- append of the next marks, as a step of the walk -/
theorem wl_appF (T : STy P t e z 1 bytes) {w : World} {ops : Array Oper} {rest : List Oper} {o : Oper} {a : Act} {Q : Exit → Act → World → Prop} (hw : Region.wanted o (yielded ops a.tmps) = true) (s x : Operand)
    (ho : o.op = .call { callee := .builtin .append, args := #[s, x], argTypes := #[t, t] })
    (u : Value) (hs : a.eval s = u) (A : Option Addr) (m c : Nat) (hx : a.eval x = .slice A m c)
    (base : Nat) (S : List (Value × Nat × Nat)) (i n : Nat) (hf : Fam w base e S) (hu : (u, i, n) ∈ S)
    (B : Nat) (hr : RB w B A m (marksAt i n m)) (hm : 0 < m)
    (hbytes : (n + m) * bytes ≤ 140737488355328) (h63 : n + m ≤ 9223372036854775807) (hbase : base ≤ w.heap.size)
    (h : ∀ A' c' w', Fam w' base e ((.slice A' (n + m) c', i, n + m) :: S) → w.grownBy w' u.ownBlock → wpList P ops Q rest (a.put o.dst (.slice A' (n + m) c')) w') : wpList P ops Q (o :: rest) a w := by
  obtain ⟨A', c', w', hrun, h2, h3⟩ := run_app2 T w o.type base u n _ (hf.row u i n hu) B A m c _ hr (bv_one _) hm hbytes h63 hbase
  refine wl_step hw fun K hK => ?_
  unfold Oper.wp execOp
  simp only [ho, resolve, invoke, builtin, Sem.run_bind, Sem.run_pure, Result.andThen_ok, List.map_toArray, List.map_cons, List.map_nil, hs, hx, hrun]
  refine hK _ _ (h A' c' w' (hf.app hu h2 h3) ?_)
  rcases h3 with ⟨hb, _⟩ | ⟨g, cur, rfl, rfl, hg, hgr, _⟩
  · exact ⟨hb.os, hb.tape, hb.output, hb.size, fun k hk _ => hb.block k hk⟩
  · exact hgr
end
end Go.Sh
