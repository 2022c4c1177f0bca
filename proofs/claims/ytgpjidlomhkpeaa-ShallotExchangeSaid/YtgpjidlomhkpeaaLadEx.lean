/-
  curve's ladder in memory, and the contract of its exchange. No conditions.
-/
import Derived.Test.YtgpjidlomhkpeaaFeH
import Derived.Test.YtgpjidlomhkpeaaUntil
namespace Go.Proofs.Ytgpjidlomhkpeaa
open Go Go.RowKit Go.Sh

def elL (v : Nat) : List Value := uv (ws 4 v)
theorem elL_len (v : Nat) : (elL v).length = 4 := rfl
theorem elL_elc (v : Nat) : (elL v).toArray = elc v := rfl
theorem info4L {v : Nat} : (Try.prog.info? 33).map (·.size) = some (elL v).length := info4
/-- the cells of a ladder: x1, x2, z2, x3, z3 -/
def lcs (a b c d e : Nat) : List Value := elL a ++ (elL b ++ (elL c ++ (elL d ++ elL e)))
def LadB (w : World) (p a b c d e : Nat) : Prop := w.heap[p]? = some (.cells (lcs a b c d e).toArray 50 (0, 0))
theorem lcs_len (a b c d e : Nat) : (lcs a b c d e).length = 20 := rfl
theorem LadB.range {w : World} {p a b c d e : Nat} (h : LadB w p a b c d e) : w.rangeAt p 0 (elL a) ∧ w.rangeAt p 4 (elL b) ∧ w.rangeAt p 8 (elL c) ∧ w.rangeAt p 12 (elL d) ∧ w.rangeAt p 16 (elL e) := by
  have key : ∀ (o : Nat) (l pre post : List Value), lcs a b c d e = pre ++ (l ++ post) → pre.length = o → w.rangeAt p o l := fun o l pre post he hl j v hv => by
    rw [blk_cell h, List.getElem?_toArray, he, List.getElem?_append_right (by omega), hl, Nat.add_sub_cancel_left, List.getElem?_append_left (List.getElem?_eq_some_iff.1 hv).1]
    exact hv
  refine ⟨key 0 _ [] _ rfl rfl, key 4 _ (elL a) _ rfl rfl, key 8 _ (elL a ++ elL b) (elL d ++ elL e) ?_ rfl, key 12 _ (elL a ++ elL b ++ elL c) (elL e) ?_ rfl, key 16 _ (elL a ++ elL b ++ elL c ++ elL d) [] ?_ rfl⟩
  · unfold lcs; simp only [List.append_assoc]
  · unfold lcs; simp only [List.append_assoc]
  · unfold lcs; simp only [List.append_assoc, List.append_nil]
theorem put_mid {l pre mid post y : List Value} {o : Nat} (he : l = pre ++ (mid ++ post)) (hl : pre.length = o) (hm : mid.length = y.length) : l.take o ++ y ++ l.drop (o + y.length) = pre ++ (y ++ post) := by
  subst he hl
  rw [List.take_left', ← hm, ← List.append_assoc pre mid post, List.drop_left' (by simp), List.append_assoc]
  rfl
theorem lcs_put (a b c d e y : Nat) : (lcs a b c d e).take 0 ++ elL y ++ (lcs a b c d e).drop (0 + 4) = lcs y b c d e ∧ (lcs a b c d e).take 4 ++ elL y ++ (lcs a b c d e).drop (4 + 4) = lcs a y c d e ∧ (lcs a b c d e).take 8 ++ elL y ++ (lcs a b c d e).drop (8 + 4) = lcs a b y d e ∧ (lcs a b c d e).take 12 ++ elL y ++ (lcs a b c d e).drop (12 + 4) = lcs a b c y e ∧ (lcs a b c d e).take 16 ++ elL y ++ (lcs a b c d e).drop (16 + 4) = lcs a b c d y :=
  ⟨rfl, rfl, rfl, rfl, rfl⟩
theorem LadB.row {w : World} {p a b c d e a' b' c' d' e' : Nat} (h : LadB w p a b c d e) {l : List Value} (hl : l = lcs a' b' c' d' e') : LadB (w.setRow p l.toArray) p a' b' c' d' e' := by
  subst hl
  exact setRow_heap w p _ _ _ _ h
set_option maxRecDepth 100000 in
theorem wp_store_blk {P : Program} {op : Oper} {a : Act} {w : World} {K : Act → World → Prop} {Q : Exit → Act → World → Prop} (ty : TypeId) (x y : Operand) (ho : op.op = .store ty x y)
    (b o : Nat) (cells : Array Value) (hx : a.eval x = .pointer (some ⟨b, o, none⟩)) (hy : a.eval y = .agg cells) (cs : Array Value) (t : TypeId) (hg : w.heap[b]? = some (.cells cs t (0, 0))) (hfit : o + cells.size ≤ cs.size)
    (hi : (P.info? ty).map (·.size) = some cells.size) (h1 : ∀ v ∈ cells.toList, v.oneCell' = true)
    (h : K (a.put op.dst undef) (w.setRow b (cs.toList.take o ++ cells.toList ++ cs.toList.drop (o + cells.size)).toArray)) : Oper.wp P op a w K Q := by
  have hst := run_storeCells_at P b o t cells.toList 0 cs w hg (by simpa using hfit) h1
  have hrun : (storeVar ty ⟨b, o, none⟩ (.agg cells)).run P w = .ok () (w.setRow b (cs.toList.take o ++ cells.toList ++ cs.toList.drop (o + cells.size)).toArray) := by
    cases hq : P.info? ty with
    | none => simp [hq] at hi
    | some i =>
      have hs : cells.size = i.size := by simp [hq] at hi; omega
      simp only [Nat.add_zero, Array.length_toList] at hst
      simp [storeVar, sizeOf, typeInfo, hq, Value.cells, hs, hst]
  unfold Oper.wp execOp
  simp only [ho, hx, hy, Instr.storeAt, Instr.sureAddr, Sem.run_bind, Sem.run_pure, Result.andThen_ok, hrun]
  exact h
set_option maxHeartbeats 4000000 in
set_option maxRecDepth 100000 in
theorem exchange_any (p a b c d e : Nat) (w : World) (h : LadB w p a b c d e) : Calls Try.prog 16 #[.pointer (some ⟨p, 0, none⟩)] w fun x w' => x = .returned (.tuple #[]) ∧ LadB w' p a d e b c ∧ w.grownBy w' (some p) := by
  obtain ⟨r0, r1, r2, r3, r4⟩ := h.range
  have H0 := Lib.hid h
  have H1 := Lib.hid (show LadB (w.drew.setRow p (lcs a d c d e).toArray) p a d c d e from LadB.row (show LadB w.drew p a b c d e from h) rfl)
  have H2 := Lib.hid (show LadB ((w.drew.setRow p (lcs a d c d e).toArray).setRow p (lcs a d e d e).toArray) p a d e d e from H1.out.row rfl)
  have H3 := Lib.hid (show LadB (((w.drew.setRow p (lcs a d c d e).toArray).setRow p (lcs a d e d e).toArray).setRow p (lcs a d e b e).toArray) p a d e b e from H2.out.row rfl)
  have H4 := Lib.hid (show LadB ((((w.drew.setRow p (lcs a d c d e).toArray).setRow p (lcs a d e d e).toArray).setRow p (lcs a d e b e).toArray).setRow p (lcs a d e b c).toArray) p a d e b c from H3.out.row rfl)
  clear h
  go_enter Try.func16, Try.ntmps16
  go_wp2_with fail
  refine wp_region_noPanic ?_
  refine wp_region_until (S := (fun w' => w'.rangeAt p 4 (elL b) ∧ w'.rangeAt p 8 (elL c) ∧ w'.rangeAt p 12 (elL d) ∧ w'.rangeAt p 16 (elL e))) 22 (by kernel_rfl) ?_ (fun hHeld => ?_)
  · (try dsimp only)
    exact ⟨r1, r2, r3, r4⟩
  refine wpAnyU_takeY (i := 0) (v := ?v1) rfl (by kernel_rfl) (fun _ _ _ h => h) (Or.inl ⟨by rfl, ?y1⟩) (by assumption) ?r1
  case y1 => (intro W; first | (go_simp; done) | (go_simp; with_reducible rfl))
  (try simp only [List.getElem_toArray, List.getElem_cons_zero, Act.put, List.setIfInBounds_toArray, List.set_cons_zero, List.set_cons_succ])
  refine wpAnyU_takeY (i := 1) (v := ?v2) rfl (by kernel_rfl) (fun _ _ _ h => h) (Or.inl ⟨by rfl, ?y2⟩) (by assumption) ?r2
  case y2 => (intro W; first | (go_simp; done) | (go_simp; with_reducible rfl))
  (try simp only [List.getElem_toArray, List.getElem_cons_zero, List.getElem_cons_succ, Act.put, List.setIfInBounds_toArray, List.set_cons_zero, List.set_cons_succ])
  refine wpAnyU_takeY (i := 2) (v := ?v3) rfl (by kernel_rfl) (fun _ _ _ h => h) (Or.inl ⟨by rfl, ?y3⟩) (by assumption) ?r3
  case y3 => (intro W; first | (go_simp; done) | (go_simp; with_reducible rfl))
  (try simp only [List.getElem_toArray, List.getElem_cons_zero, List.getElem_cons_succ, Act.put, List.setIfInBounds_toArray, List.set_cons_zero, List.set_cons_succ])
  refine wpAnyU_takeY (i := 3) (v := ?v4) rfl (by kernel_rfl) (fun _ _ _ h => h) (Or.inl ⟨by rfl, ?y4⟩) (by assumption) ?r4
  case y4 => (intro W; first | (go_simp; done) | (go_simp; with_reducible rfl))
  (try simp only [List.getElem_toArray, List.getElem_cons_zero, List.getElem_cons_succ, Act.put, List.setIfInBounds_toArray, List.set_cons_zero, List.set_cons_succ])
  refine wpAnyU_takeY (i := 4) (v := ?v5) rfl (by kernel_rfl) (fun _ _ _ h => h) (Or.inl ⟨by rfl, ?y5⟩) (by assumption) ?r5
  case y5 => (intro W; first | (go_simp; done) | (go_simp; with_reducible rfl))
  (try simp only [List.getElem_toArray, List.getElem_cons_zero, List.getElem_cons_succ, Act.put, List.setIfInBounds_toArray, List.set_cons_zero, List.set_cons_succ])
  refine wpAnyU_takeY (i := 5) (v := ?v6) rfl (by kernel_rfl) (fun _ _ _ h => h) (Or.inl ⟨by rfl, ?y6⟩) (by assumption) ?r6
  case y6 => (intro W; first | (go_simp; done) | (go_simp; with_reducible rfl))
  (try simp only [List.getElem_toArray, List.getElem_cons_zero, List.getElem_cons_succ, Act.put, List.setIfInBounds_toArray, List.set_cons_zero, List.set_cons_succ])
  refine wpAnyU_takeY (i := 6) (v := ?v7) rfl (by kernel_rfl) (fun _ _ _ h => h) (Or.inl ⟨by rfl, ?y7⟩) (by assumption) ?r7
  case y7 => (intro W; first | (go_simp; done) | (go_simp; with_reducible rfl))
  (try simp only [List.getElem_toArray, List.getElem_cons_zero, List.getElem_cons_succ, Act.put, List.setIfInBounds_toArray, List.set_cons_zero, List.set_cons_succ])
  refine wpAnyU_takeW (i := 7) rfl (by kernel_rfl) (fun _ _ _ h => h) (yieldsIf_load_mid (by rfl) 33 _ rfl p 12 rfl (elL d) _ (fun w hSw => hSw.2.2.1) Try.underlying33 rfl info4L) (by assumption) ?_
  (try simp only [List.getElem_toArray, List.getElem_cons_zero, List.getElem_cons_succ, Act.put, List.setIfInBounds_toArray, List.set_cons_zero, List.set_cons_succ])
  refine wpAnyU_takeY (i := 8) (v := ?v8) rfl (by kernel_rfl) (fun _ _ _ h => h) (Or.inl ⟨by rfl, ?y8⟩) (by assumption) ?r8
  case y8 => (intro W; first | (go_simp; done) | (go_simp; with_reducible rfl))
  (try simp only [List.getElem_toArray, List.getElem_cons_zero, List.getElem_cons_succ, Act.put, List.setIfInBounds_toArray, List.set_cons_zero, List.set_cons_succ])
  refine wpAnyU_takeY (i := 9) (v := ?v9) rfl (by kernel_rfl) (fun _ _ _ h => h) (Or.inl ⟨by rfl, ?y9⟩) (by assumption) ?r9
  case y9 => (intro W; first | (go_simp; done) | (go_simp; with_reducible rfl))
  (try simp only [List.getElem_toArray, List.getElem_cons_zero, List.getElem_cons_succ, Act.put, List.setIfInBounds_toArray, List.set_cons_zero, List.set_cons_succ])
  refine wpAnyU_takeY (i := 10) (v := ?v10) rfl (by kernel_rfl) (fun _ _ _ h => h) (Or.inl ⟨by rfl, ?y10⟩) (by assumption) ?r10
  case y10 => (intro W; first | (go_simp; done) | (go_simp; with_reducible rfl))
  (try simp only [List.getElem_toArray, List.getElem_cons_zero, List.getElem_cons_succ, Act.put, List.setIfInBounds_toArray, List.set_cons_zero, List.set_cons_succ])
  refine wpAnyU_takeW (i := 11) rfl (by kernel_rfl) (fun _ _ _ h => h) (yieldsIf_load_mid (by rfl) 33 _ rfl p 16 rfl (elL e) _ (fun w hSw => hSw.2.2.2) Try.underlying33 rfl info4L) (by assumption) ?_
  (try simp only [List.getElem_toArray, List.getElem_cons_zero, List.getElem_cons_succ, Act.put, List.setIfInBounds_toArray, List.set_cons_zero, List.set_cons_succ])
  refine wpAnyU_takeY (i := 12) (v := ?v11) rfl (by kernel_rfl) (fun _ _ _ h => h) (Or.inl ⟨by rfl, ?y11⟩) (by assumption) ?r11
  case y11 => (intro W; first | (go_simp; done) | (go_simp; with_reducible rfl))
  (try simp only [List.getElem_toArray, List.getElem_cons_zero, List.getElem_cons_succ, Act.put, List.setIfInBounds_toArray, List.set_cons_zero, List.set_cons_succ])
  refine wpAnyU_takeY (i := 13) (v := ?v12) rfl (by kernel_rfl) (fun _ _ _ h => h) (Or.inl ⟨by rfl, ?y12⟩) (by assumption) ?r12
  case y12 => (intro W; first | (go_simp; done) | (go_simp; with_reducible rfl))
  (try simp only [List.getElem_toArray, List.getElem_cons_zero, List.getElem_cons_succ, Act.put, List.setIfInBounds_toArray, List.set_cons_zero, List.set_cons_succ])
  refine wpAnyU_takeY (i := 14) (v := ?v13) rfl (by kernel_rfl) (fun _ _ _ h => h) (Or.inl ⟨by rfl, ?y13⟩) (by assumption) ?r13
  case y13 => (intro W; first | (go_simp; done) | (go_simp; with_reducible rfl))
  (try simp only [List.getElem_toArray, List.getElem_cons_zero, List.getElem_cons_succ, Act.put, List.setIfInBounds_toArray, List.set_cons_zero, List.set_cons_succ])
  refine wpAnyU_takeW (i := 15) rfl (by kernel_rfl) (fun _ _ _ h => h) (yieldsIf_load_mid (by rfl) 33 _ rfl p 4 rfl (elL b) _ (fun w hSw => hSw.1) Try.underlying33 rfl info4L) (by assumption) ?_
  (try simp only [List.getElem_toArray, List.getElem_cons_zero, List.getElem_cons_succ, Act.put, List.setIfInBounds_toArray, List.set_cons_zero, List.set_cons_succ])
  refine wpAnyU_takeY (i := 16) (v := ?v14) rfl (by kernel_rfl) (fun _ _ _ h => h) (Or.inl ⟨by rfl, ?y14⟩) (by assumption) ?r14
  case y14 => (intro W; first | (go_simp; done) | (go_simp; with_reducible rfl))
  (try simp only [List.getElem_toArray, List.getElem_cons_zero, List.getElem_cons_succ, Act.put, List.setIfInBounds_toArray, List.set_cons_zero, List.set_cons_succ])
  refine wpAnyU_takeY (i := 17) (v := ?v15) rfl (by kernel_rfl) (fun _ _ _ h => h) (Or.inl ⟨by rfl, ?y15⟩) (by assumption) ?r15
  case y15 => (intro W; first | (go_simp; done) | (go_simp; with_reducible rfl))
  (try simp only [List.getElem_toArray, List.getElem_cons_zero, List.getElem_cons_succ, Act.put, List.setIfInBounds_toArray, List.set_cons_zero, List.set_cons_succ])
  refine wpAnyU_takeY (i := 18) (v := ?v16) rfl (by kernel_rfl) (fun _ _ _ h => h) (Or.inl ⟨by rfl, ?y16⟩) (by assumption) ?r16
  case y16 => (intro W; first | (go_simp; done) | (go_simp; with_reducible rfl))
  (try simp only [List.getElem_toArray, List.getElem_cons_zero, List.getElem_cons_succ, Act.put, List.setIfInBounds_toArray, List.set_cons_zero, List.set_cons_succ])
  refine wpAnyU_takeW (i := 19) rfl (by kernel_rfl) (fun _ _ _ h => h) (yieldsIf_load_mid (by rfl) 33 _ rfl p 8 rfl (elL c) _ (fun w hSw => hSw.2.1) Try.underlying33 rfl info4L) (by assumption) ?_
  (try simp only [List.getElem_toArray, List.getElem_cons_zero, List.getElem_cons_succ, Act.put, List.setIfInBounds_toArray, List.set_cons_zero, List.set_cons_succ])
  refine wpAnyU_takeY (i := 20) (v := ?v17) rfl (by kernel_rfl) (fun _ _ _ h => h) (Or.inl ⟨by rfl, ?y17⟩) (by assumption) ?r17
  case y17 => (intro W; first | (go_simp; done) | (go_simp; with_reducible rfl))
  (try simp only [List.getElem_toArray, List.getElem_cons_zero, List.getElem_cons_succ, Act.put, List.setIfInBounds_toArray, List.set_cons_zero, List.set_cons_succ])
  refine wpAnyU_takeY (i := 21) (v := ?v18) rfl (by kernel_rfl) (fun _ _ _ h => h) (Or.inl ⟨by rfl, ?y18⟩) (by assumption) ?r18
  case y18 => (intro W; first | (go_simp; done) | (go_simp; with_reducible rfl))
  (try simp only [List.getElem_toArray, List.getElem_cons_zero, List.getElem_cons_succ, Act.put, List.setIfInBounds_toArray, List.set_cons_zero, List.set_cons_succ])
  refine wpAnyU_at (c := 22) rfl (by kernel_rfl) (by rfl) (fun K hK => ?_)
  have HK := Lib.hid hK
  clear hK
  refine wp_store_blk 33 (.tmp 23) (.tmp 9) rfl p 4 (elL d).toArray rfl rfl (lcs a b c d e).toArray 50 H0.out (show 4 + 4 ≤ 20 by decide) info4 (uv_one _) ?_
  refine HK.out _ _ ?_
  clear HK K
  (try simp only [List.getElem_toArray, List.getElem_cons_zero, List.getElem_cons_succ, Act.put])
  refine wpAny_takeY (i := 23) (v := ?v20) rfl (by kernel_rfl) (fun _ _ _ h => h) (Or.inl ⟨by rfl, ?y20⟩) ?r20
  case y20 => (intro W; first | (go_simp; done) | (go_simp; with_reducible rfl))
  (try simp only [List.getElem_toArray, List.getElem_cons_zero, List.getElem_cons_succ, Act.put, List.setIfInBounds_toArray, List.set_cons_zero, List.set_cons_succ])
  refine wpAny_takeY (i := 24) (v := ?v21) rfl (by kernel_rfl) (fun _ _ _ h => h) (Or.inl ⟨by rfl, ?y21⟩) ?r21
  case y21 => (intro W; first | (go_simp; done) | (go_simp; with_reducible rfl))
  (try simp only [List.getElem_toArray, List.getElem_cons_zero, List.getElem_cons_succ, Act.put, List.setIfInBounds_toArray, List.set_cons_zero, List.set_cons_succ])
  refine wpAny_at (c := 25) rfl (by kernel_rfl) (by rfl) (fun K hK => ?_)
  have HK := Lib.hid hK
  clear hK
  refine wp_store_blk 33 (.tmp 25) (.tmp 13) rfl p 8 (elL e).toArray rfl rfl (lcs a d c d e).toArray 50 H1.out (show 8 + 4 ≤ 20 by decide) info4 (uv_one _) ?_
  refine HK.out _ _ ?_
  clear HK K
  (try simp only [List.getElem_toArray, List.getElem_cons_zero, List.getElem_cons_succ, Act.put])
  refine wpAny_takeY (i := 26) (v := ?v23) rfl (by kernel_rfl) (fun _ _ _ h => h) (Or.inl ⟨by rfl, ?y23⟩) ?r23
  case y23 => (intro W; first | (go_simp; done) | (go_simp; with_reducible rfl))
  (try simp only [List.getElem_toArray, List.getElem_cons_zero, List.getElem_cons_succ, Act.put, List.setIfInBounds_toArray, List.set_cons_zero, List.set_cons_succ])
  refine wpAny_takeY (i := 27) (v := ?v24) rfl (by kernel_rfl) (fun _ _ _ h => h) (Or.inl ⟨by rfl, ?y24⟩) ?r24
  case y24 => (intro W; first | (go_simp; done) | (go_simp; with_reducible rfl))
  (try simp only [List.getElem_toArray, List.getElem_cons_zero, List.getElem_cons_succ, Act.put, List.setIfInBounds_toArray, List.set_cons_zero, List.set_cons_succ])
  refine wpAny_at (c := 28) rfl (by kernel_rfl) (by rfl) (fun K hK => ?_)
  have HK := Lib.hid hK
  clear hK
  refine wp_store_blk 33 (.tmp 27) (.tmp 17) rfl p 12 (elL b).toArray rfl rfl (lcs a d e d e).toArray 50 H2.out (show 12 + 4 ≤ 20 by decide) info4 (uv_one _) ?_
  refine HK.out _ _ ?_
  clear HK K
  (try simp only [List.getElem_toArray, List.getElem_cons_zero, List.getElem_cons_succ, Act.put])
  refine wpAny_takeY (i := 29) (v := ?v26) rfl (by kernel_rfl) (fun _ _ _ h => h) (Or.inl ⟨by rfl, ?y26⟩) ?r26
  case y26 => (intro W; first | (go_simp; done) | (go_simp; with_reducible rfl))
  (try simp only [List.getElem_toArray, List.getElem_cons_zero, List.getElem_cons_succ, Act.put, List.setIfInBounds_toArray, List.set_cons_zero, List.set_cons_succ])
  refine wpAny_takeY (i := 30) (v := ?v27) rfl (by kernel_rfl) (fun _ _ _ h => h) (Or.inl ⟨by rfl, ?y27⟩) ?r27
  case y27 => (intro W; first | (go_simp; done) | (go_simp; with_reducible rfl))
  (try simp only [List.getElem_toArray, List.getElem_cons_zero, List.getElem_cons_succ, Act.put, List.setIfInBounds_toArray, List.set_cons_zero, List.set_cons_succ])
  refine wpAny_at (c := 31) rfl (by kernel_rfl) (by rfl) (fun K hK => ?_)
  have HK := Lib.hid hK
  clear hK
  refine wp_store_blk 33 (.tmp 29) (.tmp 21) rfl p 16 (elL c).toArray rfl rfl (lcs a d e b e).toArray 50 H3.out (show 16 + 4 ≤ 20 by decide) info4 (uv_one _) ?_
  refine HK.out _ _ ?_
  clear HK K
  (try simp only [List.getElem_toArray, List.getElem_cons_zero, List.getElem_cons_succ, Act.put])
  refine wpAny_done (by kernel_rfl) ?_ _
  refine NoPanic.normal ?_
  have HG := Lib.hid (show w.grownBy ((((w.drew.setRow p (lcs a d c d e).toArray).setRow p (lcs a d e d e).toArray).setRow p (lcs a d e b e).toArray).setRow p (lcs a d e b c).toArray) (some p) from by
    have h0 := (((grown_setRow w.drew p (lcs a d c d e).toArray).trans (grown_setRow _ p (lcs a d e d e).toArray)).trans (grown_setRow _ p (lcs a d e b e).toArray)).trans (grown_setRow _ p (lcs a d e b c).toArray)
    exact ⟨h0.os, h0.tape, h0.output, h0.size, h0.block⟩)
  have HW := Lib.hid (show ((((w.drew.setRow p (List.take 4 (lcs a b c d e) ++ elL d ++ List.drop (4 + (elL d).toArray.size) (lcs a b c d e)).toArray).setRow p (List.take 8 (lcs a d c d e) ++ elL e ++ List.drop (8 + (elL e).toArray.size) (lcs a d c d e)).toArray).setRow p (List.take 12 (lcs a d e d e) ++ elL b ++ List.drop (12 + (elL b).toArray.size) (lcs a d e d e)).toArray).setRow p (List.take 16 (lcs a d e b e) ++ elL c ++ List.drop (16 + (elL c).toArray.size) (lcs a d e b e)).toArray) = ((((w.drew.setRow p (lcs a d c d e).toArray).setRow p (lcs a d e d e).toArray).setRow p (lcs a d e b e).toArray).setRow p (lcs a d e b c).toArray) from rfl)
  rw [HW.out]
  generalize (((w.drew.setRow p (lcs a d c d e).toArray).setRow p (lcs a d e d e).toArray).setRow p (lcs a d e b e).toArray).setRow p (lcs a d e b c).toArray = wf at *
  go_wp2_with fail
  go_end0
  exact ⟨rfl, H4.out, HG.out⟩
end Go.Proofs.Ytgpjidlomhkpeaa
