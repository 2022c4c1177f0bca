/-
  shallot: VerifyKeepsSaid is proved: for every input the law returns true, and each argument reads afterwards as it read before. Conditions: none but the statement's own.
-/
import Derived.Test.YtkmcjjoicpgjfaaVerTwin
import Derived.Test.YtkmcjjoicpgjfaaEqs
import Derived.Test.YtkmcjjoicpgjfaaOpen
import Derived.Test.YtkmcjjoicpgjfaaDirRoute
import Derived.Test.YtkmcjjoicpgjfaaRows
/-
  Two nodes that are the same are told equal by '=='. Conditions: the fields fit their types.
-/
namespace Go.Proofs.Ytkmcjjoicpgjfaa
open Go Go.RowKit Go.Sh

/-- the keys of a node are bytes, its name is no longer than a string can be -/
def Hp.By (h : Hp) : Prop := ∃ m r : List Int, m.length = 32 ∧ r.length = 32 ∧ (∀ y ∈ m, 0 ≤ y ∧ y < 256) ∧ (∀ y ∈ r, 0 ≤ y ∧ y < 256) ∧ h.ks = m.map (Value.int .u8) ++ r.map (Value.int .u8) ∧ h.nm.size ≤ maxLen
theorem list32i {l : List Int} (h : l.length = 32) : ∃ m0 m1 m2 m3 m4 m5 m6 m7 m8 m9 m10 m11 m12 m13 m14 m15 m16 m17 m18 m19 m20 m21 m22 m23 m24 m25 m26 m27 m28 m29 m30 m31, l = [m0, m1, m2, m3, m4, m5, m6, m7, m8, m9, m10, m11, m12, m13, m14, m15, m16, m17, m18, m19, m20, m21, m22, m23, m24, m25, m26, m27, m28, m29, m30, m31] := by
  match l, h with
  | [m0, m1, m2, m3, m4, m5, m6, m7, m8, m9, m10, m11, m12, m13, m14, m15, m16, m17, m18, m19, m20, m21, m22, m23, m24, m25, m26, m27, m28, m29, m30, m31], _ => exact ⟨m0, m1, m2, m3, m4, m5, m6, m7, m8, m9, m10, m11, m12, m13, m14, m15, m16, m17, m18, m19, m20, m21, m22, m23, m24, m25, m26, m27, m28, m29, m30, m31, rfl⟩
theorem wf_8 {x : Int} (h : 0 ≤ x ∧ x < 256) : (Lit.int .u8 x).wf = true := by
  simp [Lit.wf, IntKind.min, IntKind.max, IntKind.signed, IntKind.bits]
  omega
theorem wf_64 {x : Int} (h : 0 ≤ x ∧ x < 18446744073709551616) : (Lit.int .u64 x).wf = true := by
  simp [Lit.wf, IntKind.min, IntKind.max, IntKind.signed, IntKind.bits]
  omega
set_option maxRecDepth 100000 in
theorem c32 : Try.prog.cellsOf 57 = 32 := by kernel_rfl
set_option maxRecDepth 100000 in
theorem c1 : Try.prog.cellsOf 5 = 1 := by kernel_rfl
set_option maxRecDepth 100000 in
theorem c8 : Try.prog.cellsOf 56 = 1 := by kernel_rfl
set_option maxRecDepth 100000 in
theorem cstr : Try.prog.cellsOf 9 = 1 := by kernel_rfl
set_option maxRecDepth 100000 in
theorem cnode : Try.prog.cellsOf 59 = 66 := by kernel_rfl
set_option maxRecDepth 100000 in
set_option maxHeartbeats 4000000 in
theorem arr32_lits (m : List Int) (h : m.length = 32) (hb : ∀ y ∈ m, 0 ≤ y ∧ y < 256) : Try.prog.keyLits 2 57 (m.map (Value.int .u8)) = some (m.map (Lit.int .u8)) := by
  obtain ⟨m0, m1, m2, m3, m4, m5, m6, m7, m8, m9, m10, m11, m12, m13, m14, m15, m16, m17, m18, m19, m20, m21, m22, m23, m24, m25, m26, m27, m28, m29, m30, m31, rfl⟩ := list32i h
  have r32 : List.range 32 = [0, 1, 2, 3, 4, 5, 6, 7, 8, 9, 10, 11, 12, 13, 14, 15, 16, 17, 18, 19, 20, 21, 22, 23, 24, 25, 26, 27, 28, 29, 30, 31] := rfl
  simp only [List.mem_cons, List.not_mem_nil, or_false, forall_eq_or_imp, forall_eq] at hb
  obtain ⟨q0, q1, q2, q3, q4, q5, q6, q7, q8, q9, q10, q11, q12, q13, q14, q15, q16, q17, q18, q19, q20, q21, q22, q23, q24, q25, q26, q27, q28, q29, q30, q31⟩ := hb
  simp [Program.keyLits, Try.underlying57, Try.underlying5, c32, c1, r32, wf_8 q0, wf_8 q1, wf_8 q2, wf_8 q3, wf_8 q4, wf_8 q5, wf_8 q6, wf_8 q7, wf_8 q8, wf_8 q9, wf_8 q10, wf_8 q11, wf_8 q12, wf_8 q13, wf_8 q14, wf_8 q15, wf_8 q16, wf_8 q17, wf_8 q18, wf_8 q19, wf_8 q20, wf_8 q21, wf_8 q22, wf_8 q23, wf_8 q24, wf_8 q25, wf_8 q26, wf_8 q27, wf_8 q28, wf_8 q29, wf_8 q30, wf_8 q31]
theorem node_formed (h : Hp) (ok : h.OK) : (Value.agg h.node.toArray).formed Try.prog 59 = true := by
  simp [Value.formed, Try.underlying59, cnode, Hp.node_len ok]
set_option maxRecDepth 100000 in
set_option maxHeartbeats 4000000 in
theorem node_lits (h : Hp) (ok : h.OK) (m r : List Int) (hm : m.length = 32) (hr : r.length = 32) (hb : ∀ y ∈ m, 0 ≤ y ∧ y < 256) (hb' : ∀ y ∈ r, 0 ≤ y ∧ y < 256) (hk : h.ks = m.map (Value.int .u8) ++ r.map (Value.int .u8)) (hn : h.nm.size ≤ maxLen) :
    Try.prog.keyLits 3 59 (Value.agg h.node.toArray).cells.toList = some (.string h.nm.data.toList :: .int .u64 h.id :: (m.map (Lit.int .u8) ++ r.map (Lit.int .u8))) := by
  have e1 := arr32_lits m hm hb
  have e2 := arr32_lits r hr hb'
  have hl : h.node.length = 66 := Hp.node_len ok
  have t1 : List.take 32 (m.map (Value.int .u8) ++ r.map (Value.int .u8)) = m.map (Value.int .u8) := List.take_left' (by simp [hm])
  have t2 : List.take 32 (List.drop 32 (m.map (Value.int .u8) ++ r.map (Value.int .u8))) = r.map (Value.int .u8) := by
    rw [List.drop_left' (by simp [hm]), List.take_of_length_le (by simp [hr])]
  have hcs : (Value.agg h.node.toArray).cells.toList = .string h.nm :: .int .u64 h.id :: (m.map (Value.int .u8) ++ r.map (Value.int .u8)) := by
    show h.node = _
    rw [Hp.node, hk]
  have hw := wf_64 ok.id
  rw [hcs]
  have hlen : (Value.string h.nm :: Value.int .u64 h.id :: (m.map (Value.int .u8) ++ r.map (Value.int .u8))).length = 66 := by simp [hm, hr]
  generalize m.map (Value.int .u8) ++ r.map (Value.int .u8) = ks at *
  unfold Program.keyLits
  simp only [Try.underlying59]
  rw [if_pos ⟨by rw [hlen, cnode], by kernel_rfl⟩]
  have e3 : Try.prog.keyLits 2 9 [.string h.nm] = some [.string h.nm.data.toList] := by
    simp [Program.keyLits, Try.underlying9, hn]
  have e4 : Try.prog.keyLits 2 56 [.int .u64 h.id] = some [.int .u64 h.id] := by
    simp [Program.keyLits, Try.underlying56, hw]
  simp [c32, c8, cstr, e1, e2, e3, e4, t1, t2]
set_option maxRecDepth 100000 in
theorem node_same (h : Hp) (ok : h.OK) (hby : h.By) (w : World) : (Op.equalIn 10000 59 (.agg h.node.toArray) (.agg h.node.toArray)).run Try.prog w = .ok true w := by
  obtain ⟨m, r, hm, hr, hb, hb', hk, hn⟩ := hby
  exact equalIn_keys (P := Try.prog) (t := 59) (m := 3) (by kernel_rfl) 10000 (by omega) (node_formed h ok) (node_formed h ok) (node_lits h ok m r hm hr hb hb' hk hn) (node_lits h ok m r hm hr hb hb' hk hn) _ (by simp) w
set_option maxHeartbeats 2000000 in
set_option maxRecDepth 100000 in
theorem SameN_any (A A' : Option Addr) (n c c' : Nat) (ns : List Hp) (w : World) (B B' : Nat) (hl : RR w B 66 A n (ns.map Hp.node)) (hr : RR w B' 66 A' n (ns.map Hp.node)) (hok : ∀ h ∈ ns, h.OK) (hby : ∀ h ∈ ns, h.By) (hn : n ≤ 140737488355328) :
    Calls Try.prog 13 #[.slice A n c, .slice A' n c'] w (OnlyTrue w) := by
  have hlen : ns.length = n := by have := hl.len; rw [List.length_map] at this; exact this
  have HL := Lib.hid hl
  have HR := Lib.hid hr
  clear hl hr
  have dnn : ((n : Int) != (n : Int)) = false := by simp
  go_enter Try.func13, Try.ntmps13
  go_wp2_with fail
  go_loopw [5] (fun i wr => ∃ k d : Nat, k ≤ n ∧ i = .int .i64 (k : Int) ∧ wr = w.drewN d) (fun i _ => n - (intOf i).toNat)
  case atStart => exact ⟨0, 0, by omega, rfl, rfl⟩
  case round =>
    obtain ⟨k, d, hk, rfl, rfl⟩ := hrel
    by_cases hlt : k < n
    · obtain ⟨b, off, rfl, _, _, _, hrg⟩ := node_at HL.out hlt
      obtain ⟨b', off', rfl, _, _, _, hrg'⟩ := node_at HR.out hlt
      have hok := hok _ (hat_mem (hs := ns) (k := k) (by rw [hlen]; exact hlt))
      have hby := hby _ (hat_mem (hs := ns) (k := k) (by rw [hlen]; exact hlt))
      generalize hat ns k = e at *
      have HI := Lib.hid (show (Try.prog.info? 59).map (·.size) = some e.node.length by rw [Hp.node_len hok]; exact info_anode)
      have heq := node_same e hok hby
      have hki : (k : Int) < (n : Int) := by omega
      go_wp2_with fail
      refine wp_region_held_drew (S := (fun w' => w'.rangeAt b (off + k * 66) e.node ∧ w'.rangeAt b' (off' + k * 66) e.node)) (by kernel_rfl) ?_ (fun hHeld => ?_)
      · (try dsimp only)
        exact ⟨hrg, hrg'⟩
      refine wpAnyH_take (i := 0) (v := ?v1) rfl (by kernel_rfl) (by kernel_rfl) (by kernel_rfl) (fun _ _ _ h => h) (Or.inl ⟨by rfl, ?y1⟩) (by assumption) ?r1
      case y1 => (intro w hSw; (try dsimp only at hSw); first | (go_simp; done) | (go_simp; with_reducible rfl))
      (try simp only [List.getElem_toArray, List.getElem_cons_zero, Act.put, List.setIfInBounds_toArray, List.set_cons_zero, List.set_cons_succ])
      refine wpAnyH_take (i := 1) (v := ?v2) rfl (by kernel_rfl) (by kernel_rfl) (by kernel_rfl) (fun _ _ _ h => h) (Or.inl ⟨by rfl, ?y2⟩) (by assumption) ?r2
      case y2 => (intro w hSw; (try dsimp only at hSw); first | (go_simp; done) | (go_simp; with_reducible rfl))
      (try simp only [List.getElem_toArray, List.getElem_cons_zero, List.getElem_cons_succ, Act.put, List.setIfInBounds_toArray, List.set_cons_zero, List.set_cons_succ])
      refine wpAnyH_take (i := 2) (v := ?v3) rfl (by kernel_rfl) (by kernel_rfl) (by kernel_rfl) (fun _ _ _ h => h) (Or.inl ⟨by rfl, ?y3⟩) (by assumption) ?r3
      case y3 => (intro w hSw; (try dsimp only at hSw); first | (go_simp; done) | (go_simp; with_reducible rfl))
      (try simp only [List.getElem_toArray, List.getElem_cons_zero, List.getElem_cons_succ, Act.put, List.setIfInBounds_toArray, List.set_cons_zero, List.set_cons_succ])
      refine wpAnyH_take (i := 3) rfl (by kernel_rfl) (by kernel_rfl) (by kernel_rfl) (fun _ _ _ h => h) (yieldsIf_load_mid (by rfl) 59 _ rfl b (off + k * 66) rfl e.node _ (fun w hSw => hSw.1) Try.underlying59 rfl HI.out) (by assumption) ?_
      (try simp only [List.getElem_toArray, List.getElem_cons_zero, List.getElem_cons_succ, Act.put, List.setIfInBounds_toArray, List.set_cons_zero, List.set_cons_succ])
      refine wpAnyH_take (i := 4) (v := ?v5) rfl (by kernel_rfl) (by kernel_rfl) (by kernel_rfl) (fun _ _ _ h => h) (Or.inl ⟨by rfl, ?y5⟩) (by assumption) ?r5
      case y5 => (intro w hSw; (try dsimp only at hSw); first | (go_simp; done) | (go_simp; with_reducible rfl))
      (try simp only [List.getElem_toArray, List.getElem_cons_zero, List.getElem_cons_succ, Act.put, List.setIfInBounds_toArray, List.set_cons_zero, List.set_cons_succ])
      refine wpAnyH_take (i := 5) (v := ?v6) rfl (by kernel_rfl) (by kernel_rfl) (by kernel_rfl) (fun _ _ _ h => h) (Or.inl ⟨by rfl, ?y6⟩) (by assumption) ?r6
      case y6 => (intro w hSw; (try dsimp only at hSw); first | (go_simp; done) | (go_simp; with_reducible rfl))
      (try simp only [List.getElem_toArray, List.getElem_cons_zero, List.getElem_cons_succ, Act.put, List.setIfInBounds_toArray, List.set_cons_zero, List.set_cons_succ])
      refine wpAnyH_take (i := 6) (v := ?v7) rfl (by kernel_rfl) (by kernel_rfl) (by kernel_rfl) (fun _ _ _ h => h) (Or.inl ⟨by rfl, ?y7⟩) (by assumption) ?r7
      case y7 => (intro w hSw; (try dsimp only at hSw); first | (go_simp; done) | (go_simp; with_reducible rfl))
      (try simp only [List.getElem_toArray, List.getElem_cons_zero, List.getElem_cons_succ, Act.put, List.setIfInBounds_toArray, List.set_cons_zero, List.set_cons_succ])
      refine wpAnyH_take (i := 7) rfl (by kernel_rfl) (by kernel_rfl) (by kernel_rfl) (fun _ _ _ h => h) (yieldsIf_load_mid (by rfl) 59 _ rfl b' (off' + k * 66) rfl e.node _ (fun w hSw => hSw.2) Try.underlying59 rfl HI.out) (by assumption) ?_
      (try simp only [List.getElem_toArray, List.getElem_cons_zero, List.getElem_cons_succ, Act.put, List.setIfInBounds_toArray, List.set_cons_zero, List.set_cons_succ])
      refine wpAnyH_take (i := 8) (v := ?v9) rfl (by kernel_rfl) (by kernel_rfl) (by kernel_rfl) (fun _ _ _ h => h) (Or.inl ⟨by rfl, ?y9⟩) (by assumption) ?r9
      case y9 => (intro w hSw; (try dsimp only at hSw); first | (go_simp; done) | (go_simp; with_reducible rfl))
      (try simp only [List.getElem_toArray, List.getElem_cons_zero, List.getElem_cons_succ, Act.put, List.setIfInBounds_toArray, List.set_cons_zero, List.set_cons_succ])
      refine wpAnyH_done (by kernel_rfl) ?_ _
      go_wp2_with fail
      exact ⟨⟨k + 1, d + 1, by omega, by go_num, rfl⟩, by simp [intOf]; omega⟩
    · go_wp2_with fail
      go_ret
      exact ⟨rfl, d, rfl⟩
end Go.Proofs.Ytkmcjjoicpgjfaa
/-
  Sizes of slices that came in: so many elements, each so many bytes. No statement of the seat is proved here.
-/
namespace Go.Sh
open Go Go.ChangeShapes Go.WideShapes Go.ChangeAt Go.RowKit

/-- n elements of k bytes each are within what a program can reach -/
theorem sizedBy {H : Type} {P : Program} {ts : List TypeId} {ds : List (DataW H)} (hsz : ((DataW.weightsEach P ts ds).all fun x => decide (x ≤ reachBytes)) = true) {j : Nat} {t e : TypeId} {d : DataW H} {n k : Nat}
    (h1 : ts[j]? = some t) (h2 : ds[j]? = some d) (ht : P.underlying t = some (.slice e)) (hb : k ≤ P.bytesOf e) (hd : HasLen d n) : n * k ≤ 140737488351232 := by
  rcases hd with ⟨_, rfl⟩ | ⟨es, sp, rfl, hl⟩
  · omega
  · have := sized_slice hsz h1 h2 ht
    have h3 : n * k ≤ (es.length + sp.length) * P.bytesOf e := Nat.mul_le_mul (by omega) hb
    simp only [reachBytes] at this
    omega
end Go.Sh
/-
  Nodes and stops among the arguments. No statement of the seat is proved here.
-/
namespace Go.Proofs.Ytkmcjjoicpgjfaa
open Go Go.RowKit Go.Sh Go.ChangeShapes Go.WideShapes Go.ChangeAt

set_option maxRecDepth 100000 in
/-- nodes that came in -/
theorem openNodes {H : Type} {enc : TypeId × Value → H} {W : World} {b0 : Nat} {r : Reach} {v : Value} {d : DataW H} {p : List MemPlace}
    (hok : Value.okWide Try.prog W r b0 28 v) (h : DataW.Trod enc Try.prog W 0 (fun _ => true) true 28 v d p) : ∃ (A : Option Addr) (n c : Nat) (hs : List Hp), v = .slice A n c ∧ (∀ h ∈ hs, h.OK) ∧ RR W W.heap.size 66 A n (hs.map Hp.node) ∧ n ≤ c ∧ HasLen d n := by
  obtain ⟨A, n, c, rfl⟩ := okWide_slice Try.underlying28 hok
  obtain ⟨fuel, hf⟩ := h
  rcases Go.Deep.open_slice Try.underlying28 hf with ⟨hcs, hx⟩ | ⟨a, n', c', m, q, D, Pl, hcs, _, hl, _, hm, hx, hi⟩
  · simp [Value.cells] at hcs
    obtain ⟨rfl, rfl, rfl⟩ := hcs
    injection hx with hd _
    exact ⟨none, 0, 0, [], rfl, (fun _ h => by cases h), ⟨rfl, (fun _ h => by cases h), .inl rfl⟩, Nat.le_refl _, .inl ⟨hd, rfl⟩⟩
  · simp [Value.cells] at hcs
    obtain ⟨rfl, rfl, rfl⟩ := hcs
    injection hx with hd _
    simp only [if_true] at hm
    subst hm
    have key : ∀ i, i < n → ∃ h : Hp, h.OK ∧ ∀ j v, h.node[j]? = some v → W.cell? (a.add (i * 66 + j)) = some v := by
      intro i hin
      obtain ⟨cs', hc, ht'⟩ := hi i (by omega)
      obtain ⟨nm, id, ks, rfl, hid, hkl, ho, _⟩ := trod_node ht'
      obtain ⟨h, hh⟩ : ∃ h : Hp, h = ⟨nm, id, ks, 0, 0⟩ := ⟨_, rfl⟩
      have hok : h.OK := by rw [hh]; exact ⟨hid, hkl, ho, by show (-9223372036854775808 : Int) ≤ 0 ∧ (0 : Int) ≤ 9223372036854775807; decide, by show (-9223372036854775808 : Int) ≤ 0 ∧ (0 : Int) ≤ 9223372036854775807; decide⟩
      have hnd : h.node = .string nm :: .int .u64 id :: ks := by rw [hh]; rfl
      rw [← hnd] at hc
      refine ⟨h, hok, fun j v hv => ?_⟩
      obtain ⟨_, hcl, hat⟩ := World.cells?_some hc
      have hj : j < 66 := by have := (List.getElem?_eq_some_iff.1 hv).1; rw [Hp.node_len hok] at this; exact this
      rw [cellsNode] at hat
      have := hat j hj
      rw [Go.Deep.add_add, hv] at this
      exact this
    have : Inhabited Hp := ⟨⟨⟨#[]⟩, 0, [], 0, 0⟩⟩
    obtain ⟨f, hfn⟩ := Go.Deep.choose_lt key
    refine ⟨some a, n, m, (List.range n).map f, rfl, fun h hh => ?_, ⟨by simp, fun cs hcs => ?_, ?_⟩, hl, .inr ⟨_, _, hd, by simp⟩⟩
    · obtain ⟨i, hin, rfl⟩ := List.mem_map.1 hh
      exact (hfn i (List.mem_range.1 hin)).1
    · obtain ⟨h, hh, rfl⟩ := List.mem_map.1 hcs
      obtain ⟨i, hin, rfl⟩ := List.mem_map.1 hh
      exact Hp.node_len (hfn i (List.mem_range.1 hin)).1
    · rcases Nat.eq_zero_or_pos n with h0 | h0
      · left
        rw [h0]
        rfl
      · right
        have hx0 := (hfn 0 h0).2 0 _ rfl
        obtain ⟨b, off, spot⟩ := a
        have hspot : spot = none := by simpa [Addr.add] using World.cell?_spot hx0
        subst hspot
        have hlt : b < W.heap.size := by
          have := World.block_lt_of_cell? W _ hx0
          rw [block_of_add] at this
          exact this
        refine ⟨b, off, rfl, hlt, fun i cs hc j v hv => ?_⟩
        have hin : i < n := by have := (List.getElem?_eq_some_iff.1 hc).1; simpa using this
        have e : cs = (f i).node := by simpa [hin] using hc.symm
        rw [e] at hv
        have := (hfn i hin).2 j v hv
        rw [add_mk] at this
        rw [Nat.add_assoc]
        exact this

set_option maxRecDepth 100000 in
theorem cellsStop : Try.prog.cellsOf 62 = 3 := by kernel_rfl
set_option maxRecDepth 100000 in
theorem trod_stop {H : Type} {enc : TypeId × Value → H} {W : World} {base : Nat} {spare : Nat → Bool} {held : Bool} {fuel : Nat} {x : DataW H × List MemPlace} {cs : List Value} (h : DataW.trod enc Try.prog W base spare held fuel 62 cs = some x) : ∃ s : Sp, s.OK ∧ cs = s.cells := by
  obtain ⟨xs, q, _, _, hl, hxl, hf⟩ := DataW.trod_struct Try.underlying62 h
  rw [cellsStop] at hl
  match cs, hl with
  | [a, b, c], _ =>
    have h0 : DataW.trod enc Try.prog W base spare held q 9 (List.take (Try.prog.cellsOf 9) (List.drop 0 [a, b, c])) = xs[0]? := hf 0 _ rfl
    have h1 : DataW.trod enc Try.prog W base spare held q 3 (List.take (Try.prog.cellsOf 3) (List.drop 1 [a, b, c])) = xs[1]? := hf 1 _ rfl
    have h2 : DataW.trod enc Try.prog W base spare held q 3 (List.take (Try.prog.cellsOf 3) (List.drop 2 [a, b, c])) = xs[2]? := hf 2 _ rfl
    have hxs : xs.length = 3 := hxl
    simp only [cellsS, cellsI, List.drop_zero, List.drop_succ_cons, List.take_succ_cons, List.take_zero] at h0 h1 h2
    rw [List.getElem?_eq_getElem (by omega)] at h0 h1 h2
    obtain ⟨nm, e0, _, _⟩ := DataW.trod_string Try.underlying9 h0
    obtain ⟨dl, e1, _, w1⟩ := DataW.trod_int Try.underlying3 h1
    obtain ⟨fl, e2, _, w2⟩ := DataW.trod_int Try.underlying3 h2
    obtain rfl : a = .string nm := by simpa using e0
    obtain rfl : b = .int .i64 dl := by simpa using e1
    obtain rfl : c = .int .i64 fl := by simpa using e2
    exact ⟨⟨nm, dl, fl⟩, ⟨bounds_i64 w1, bounds_i64 w2⟩, rfl⟩
set_option maxRecDepth 100000 in
/-- stops that came in -/
theorem openStops {H : Type} {enc : TypeId × Value → H} {W : World} {b0 : Nat} {r : Reach} {v : Value} {d : DataW H} {p : List MemPlace}
    (hok : Value.okWide Try.prog W r b0 50 v) (h : DataW.Trod enc Try.prog W 0 (fun _ => true) true 50 v d p) : ∃ (A : Option Addr) (n c : Nat) (hs : List Sp), v = .slice A n c ∧ (∀ h ∈ hs, h.OK) ∧ RR W W.heap.size 3 A n (hs.map Sp.cells) ∧ n ≤ c ∧ HasLen d n := by
  obtain ⟨A, n, c, rfl⟩ := okWide_slice Try.underlying50 hok
  obtain ⟨fuel, hf⟩ := h
  rcases Go.Deep.open_slice Try.underlying50 hf with ⟨hcs, hx⟩ | ⟨a, n', c', m, q, D, Pl, hcs, _, hl, _, hm, hx, hi⟩
  · simp [Value.cells] at hcs
    obtain ⟨rfl, rfl, rfl⟩ := hcs
    injection hx with hd _
    exact ⟨none, 0, 0, [], rfl, (fun _ h => by cases h), ⟨rfl, (fun _ h => by cases h), .inl rfl⟩, Nat.le_refl _, .inl ⟨hd, rfl⟩⟩
  · simp [Value.cells] at hcs
    obtain ⟨rfl, rfl, rfl⟩ := hcs
    injection hx with hd _
    simp only [if_true] at hm
    subst hm
    have key : ∀ i, i < n → ∃ h : Sp, h.OK ∧ ∀ j v, h.cells[j]? = some v → W.cell? (a.add (i * 3 + j)) = some v := by
      intro i hin
      obtain ⟨cs', hc, ht'⟩ := hi i (by omega)
      obtain ⟨h, hok, rfl⟩ := trod_stop ht'
      refine ⟨h, hok, fun j v hv => ?_⟩
      obtain ⟨_, hcl, hat⟩ := World.cells?_some hc
      have hj : j < 3 := by have := (List.getElem?_eq_some_iff.1 hv).1; exact this
      rw [cellsStop] at hat
      have := hat j hj
      rw [Go.Deep.add_add, hv] at this
      exact this
    have : Inhabited Sp := ⟨⟨⟨#[]⟩, 0, 0⟩⟩
    obtain ⟨f, hfn⟩ := Go.Deep.choose_lt key
    refine ⟨some a, n, m, (List.range n).map f, rfl, fun h hh => ?_, ⟨by simp, fun cs hcs => ?_, ?_⟩, hl, .inr ⟨_, _, hd, by simp⟩⟩
    · obtain ⟨i, hin, rfl⟩ := List.mem_map.1 hh
      exact (hfn i (List.mem_range.1 hin)).1
    · obtain ⟨h, hh, rfl⟩ := List.mem_map.1 hcs
      obtain ⟨i, hin, rfl⟩ := List.mem_map.1 hh
      exact rfl
    · rcases Nat.eq_zero_or_pos n with h0 | h0
      · left
        rw [h0]
        rfl
      · right
        have hx0 := (hfn 0 h0).2 0 _ rfl
        obtain ⟨b, off, spot⟩ := a
        have hspot : spot = none := by simpa [Addr.add] using World.cell?_spot hx0
        subst hspot
        have hlt : b < W.heap.size := by
          have := World.block_lt_of_cell? W _ hx0
          rw [block_of_add] at this
          exact this
        refine ⟨b, off, rfl, hlt, fun i cs hc j v hv => ?_⟩
        have hin : i < n := by have := (List.getElem?_eq_some_iff.1 hc).1; simpa using this
        have e : cs = (f i).cells := by simpa [hin] using hc.symm
        rw [e] at hv
        have := (hfn i hin).2 j v hv
        rw [add_mk] at this
        rw [Nat.add_assoc]
        exact this

end Go.Proofs.Ytkmcjjoicpgjfaa
/-
  Nodes among the arguments, whose keys are bytes. No statement of the seat is proved here.
-/
namespace Go.Proofs.Ytkmcjjoicpgjfaa
open Go Go.RowKit Go.Sh Go.ChangeShapes Go.WideShapes Go.ChangeAt

section
variable {H : Type} {enc : TypeId × Value → H} {W : World} {base : Nat} {spare : Nat → Bool} {held : Bool} {fuel : Nat} {x : DataW H × List MemPlace}
theorem trod_key2 {cs : List Value} (h : DataW.trod enc Try.prog W base spare held fuel 57 cs = some x) : ∃ m : List Int, m.length = 32 ∧ (∀ y ∈ m, 0 ≤ y ∧ y < 256) ∧ cs = m.map (Value.int .u8) := by
  obtain ⟨xs, q, _, _, hl, hxl, hi⟩ := DataW.trod_array Try.underlying57 h
  rw [cells32] at hl
  have key : ∀ i (hi' : i < cs.length), ∃ z : Int, cs[i] = .int .u8 z ∧ 0 ≤ z ∧ z < 256 := by
    intro i hi'
    have h1 := hi i (by omega)
    rw [cells1b, Nat.mul_one, List.drop_eq_getElem_cons hi', List.take_succ_cons, List.take_zero, List.getElem?_eq_getElem (by omega)] at h1
    exact trod_u8 h1
  refine ⟨cs.map intOf, by rw [List.length_map, hl], ?_, ?_⟩
  · intro y hy
    obtain ⟨v, hv, rfl⟩ := List.mem_map.1 hy
    obtain ⟨i, hi', rfl⟩ := List.mem_iff_getElem.1 hv
    obtain ⟨z, e, h1, h2⟩ := key i hi'
    rw [e]
    exact ⟨h1, h2⟩
  · rw [List.map_map]
    conv => lhs; rw [← List.map_id cs]
    refine List.map_congr_left fun v hv => ?_
    obtain ⟨i, hi', rfl⟩ := List.mem_iff_getElem.1 hv
    obtain ⟨z, e, _, _⟩ := key i hi'
    rw [e]
    rfl
set_option maxRecDepth 100000 in
theorem trod_keys {nm : ByteArray} {id : Int} {ks : List Value} (h : DataW.trod enc Try.prog W base spare held fuel 59 (.string nm :: .int .u64 id :: ks) = some x) : ∃ m r : List Int, m.length = 32 ∧ r.length = 32 ∧ (∀ y ∈ m, 0 ≤ y ∧ y < 256) ∧ (∀ y ∈ r, 0 ≤ y ∧ y < 256) ∧ ks = m.map (Value.int .u8) ++ r.map (Value.int .u8) := by
  obtain ⟨xs, q, _, _, hl, hxl, hf⟩ := DataW.trod_struct Try.underlying59 h
  rw [cellsNode] at hl
  have hkl : ks.length = 64 := by simpa using hl
  have h2 : DataW.trod enc Try.prog W base spare held q 57 (List.take (Try.prog.cellsOf 57) (List.drop 2 (.string nm :: .int .u64 id :: ks))) = xs[2]? := hf 2 _ rfl
  have h3 : DataW.trod enc Try.prog W base spare held q 57 (List.take (Try.prog.cellsOf 57) (List.drop 34 (.string nm :: .int .u64 id :: ks))) = xs[3]? := hf 3 _ rfl
  have hxs : xs.length = 4 := hxl
  simp only [cells32, List.drop_succ_cons] at h2 h3
  rw [List.getElem?_eq_getElem (by omega)] at h2 h3
  obtain ⟨m, m1, m2, m3⟩ := trod_key2 h2
  obtain ⟨r, r1, r2, r3⟩ := trod_key2 h3
  refine ⟨m, r, m1, r1, m2, r2, ?_⟩
  rw [← m3, ← r3]
  rw [List.drop_zero, ← List.take_add, List.take_of_length_le (by omega)]
end
set_option maxRecDepth 100000 in
/-- nodes that came in -/
theorem openNodesB {H : Type} {enc : TypeId × Value → H} {W : World} {b0 : Nat} {r : Reach} {v : Value} {d : DataW H} {p : List MemPlace}
    (hok : Value.okWide Try.prog W r b0 28 v) (h : DataW.Trod enc Try.prog W 0 (fun _ => true) true 28 v d p) : ∃ (A : Option Addr) (n c : Nat) (hs : List Hp), v = .slice A n c ∧ (∀ h ∈ hs, h.OK) ∧ (∀ h ∈ hs, h.By) ∧ RR W W.heap.size 66 A n (hs.map Hp.node) ∧ n ≤ c ∧ HasLen d n := by
  obtain ⟨A, n, c, rfl⟩ := okWide_slice Try.underlying28 hok
  obtain ⟨fuel, hf⟩ := h
  rcases Go.Deep.open_slice Try.underlying28 hf with ⟨hcs, hx⟩ | ⟨a, n', c', m, q, D, Pl, hcs, _, hl, _, hm, hx, hi⟩
  · simp [Value.cells] at hcs
    obtain ⟨rfl, rfl, rfl⟩ := hcs
    injection hx with hd _
    exact ⟨none, 0, 0, [], rfl, (fun _ h => by cases h), (fun _ h => by cases h), ⟨rfl, (fun _ h => by cases h), .inl rfl⟩, Nat.le_refl _, .inl ⟨hd, rfl⟩⟩
  · simp [Value.cells] at hcs
    obtain ⟨rfl, rfl, rfl⟩ := hcs
    injection hx with hd _
    simp only [if_true] at hm
    subst hm
    have key : ∀ i, i < n → ∃ h : Hp, (h.OK ∧ h.By) ∧ ∀ j v, h.node[j]? = some v → W.cell? (a.add (i * 66 + j)) = some v := by
      intro i hin
      obtain ⟨cs', hc, ht'⟩ := hi i (by omega)
      obtain ⟨nm, id, ks, rfl, hid, hkl, ho, hnm⟩ := trod_node ht'
      obtain ⟨mm, rr, hm1, hr1, hm2, hr2, hks⟩ := trod_keys ht'
      obtain ⟨h, hh⟩ : ∃ h : Hp, h = ⟨nm, id, ks, 0, 0⟩ := ⟨_, rfl⟩
      have hok : h.OK := by rw [hh]; exact ⟨hid, hkl, ho, by show (-9223372036854775808 : Int) ≤ 0 ∧ (0 : Int) ≤ 9223372036854775807; decide, by show (-9223372036854775808 : Int) ≤ 0 ∧ (0 : Int) ≤ 9223372036854775807; decide⟩
      have hby : h.By := ⟨mm, rr, hm1, hr1, hm2, hr2, by rw [hh]; exact hks, by rw [hh]; exact hnm⟩
      have hnd : h.node = .string nm :: .int .u64 id :: ks := by rw [hh]; rfl
      rw [← hnd] at hc
      refine ⟨h, ⟨hok, hby⟩, fun j v hv => ?_⟩
      obtain ⟨_, hcl, hat⟩ := World.cells?_some hc
      have hj : j < 66 := by have := (List.getElem?_eq_some_iff.1 hv).1; rw [Hp.node_len hok] at this; exact this
      rw [cellsNode] at hat
      have := hat j hj
      rw [Go.Deep.add_add, hv] at this
      exact this
    have : Inhabited Hp := ⟨⟨⟨#[]⟩, 0, [], 0, 0⟩⟩
    obtain ⟨f, hfn⟩ := Go.Deep.choose_lt key
    refine ⟨some a, n, m, (List.range n).map f, rfl, fun h hh => ?_, fun h hh => ?_, ⟨by simp, fun cs hcs => ?_, ?_⟩, hl, .inr ⟨_, _, hd, by simp⟩⟩
    · obtain ⟨i, hin, rfl⟩ := List.mem_map.1 hh
      exact (hfn i (List.mem_range.1 hin)).1.1
    · obtain ⟨i, hin, rfl⟩ := List.mem_map.1 hh
      exact (hfn i (List.mem_range.1 hin)).1.2
    · obtain ⟨h, hh, rfl⟩ := List.mem_map.1 hcs
      obtain ⟨i, hin, rfl⟩ := List.mem_map.1 hh
      exact Hp.node_len (hfn i (List.mem_range.1 hin)).1.1
    · rcases Nat.eq_zero_or_pos n with h0 | h0
      · left
        rw [h0]
        rfl
      · right
        have hx0 := (hfn 0 h0).2 0 _ rfl
        obtain ⟨b, off, spot⟩ := a
        have hspot : spot = none := by simpa [Addr.add] using World.cell?_spot hx0
        subst hspot
        have hlt : b < W.heap.size := by
          have := World.block_lt_of_cell? W _ hx0
          rw [block_of_add] at this
          exact this
        refine ⟨b, off, rfl, hlt, fun i cs hc j v hv => ?_⟩
        have hin : i < n := by have := (List.getElem?_eq_some_iff.1 hc).1; simpa using this
        have e : cs = (f i).node := by simpa [hin] using hc.symm
        rw [e] at hv
        have := (hfn i hin).2 j v hv
        rw [add_mk] at this
        rw [Nat.add_assoc]
        exact this
end Go.Proofs.Ytkmcjjoicpgjfaa
/-
  A slice that came in, of whatever elements: its rows, and what the reader says of each. No statement of the seat is proved here.
-/
namespace Go.Proofs.Ytkmcjjoicpgjfaa
open Go Go.RowKit Go.Sh Go.ChangeShapes Go.WideShapes Go.ChangeAt

section
variable {H : Type} {enc : TypeId × Value → H} {W : World}
/-- what the data of a slice of n elements of type e says: each element's cells were read -/
def Rowed (enc : TypeId × Value → H) (W : World) (e : TypeId) (d : DataW H) (n : Nat) (css : List (List Value)) : Prop :=
  (d = .nil ∧ n = 0) ∨ ∃ es sp : List (DataW H), d = .slice es sp ∧ es.length = n ∧ ∀ (i : Nat) (cs : List Value), css[i]? = some cs → ∃ (q : Nat) (y : DataW H × List MemPlace), DataW.trod enc Try.prog W 0 (fun _ => true) true q e cs = some y ∧ es[i]? = some y.1
theorem Rowed.has {e : TypeId} {d : DataW H} {n : Nat} {css : List (List Value)} (h : Rowed enc W e d n css) : HasLen d n := by
  rcases h with h | ⟨es, sp, h1, h2, _⟩
  · exact .inl h
  · exact .inr ⟨es, sp, h1, h2⟩
set_option maxRecDepth 100000 in
theorem open_rows {t e : TypeId} {size fuel : Nat} {v : Value} {y : DataW H × List MemPlace} (ht : Try.prog.underlying t = some (.slice e)) (hs : Try.prog.cellsOf e = size) (h0 : 0 < size)
    (hf : DataW.trod enc Try.prog W 0 (fun _ => true) true fuel t [v] = some y) :
    ∃ A n c css, v = .slice A n c ∧ RR W W.heap.size size A n css ∧ n ≤ c ∧ Rowed enc W e y.1 n css := by
  rcases Go.Deep.open_slice ht hf with ⟨hcs, hx⟩ | ⟨a, n, c, m, q, D, Pl, hcs, _, hl, _, hm, hx, hi⟩
  · obtain rfl : v = .slice none 0 0 := by simpa using hcs
    subst hx
    exact ⟨none, 0, 0, [], rfl, ⟨rfl, (fun _ h => by cases h), .inl rfl⟩, Nat.le_refl _, .inl ⟨rfl, rfl⟩⟩
  · obtain rfl : v = .slice (some a) n c := by simpa using hcs
    subst hx
    simp only [if_true] at hm
    subst hm
    have key : ∀ i, i < n → ∃ cs : List Value, cs.length = size ∧ (∀ j v, cs[j]? = some v → W.cell? (a.add (i * size + j)) = some v) ∧ DataW.trod enc Try.prog W 0 (fun _ => true) true q e cs = some (D i, Pl i) := by
      intro i hin
      obtain ⟨cs', hc, ht'⟩ := hi i (by omega)
      rw [hs] at hc
      obtain ⟨_, hcl, hat⟩ := World.cells?_some hc
      refine ⟨cs', hcl, fun j v hv => ?_, ht'⟩
      have hj : j < size := by have := (List.getElem?_eq_some_iff.1 hv).1; omega
      have := hat j hj
      rw [Go.Deep.add_add, hv] at this
      exact this
    obtain ⟨f, hfn⟩ := Go.Deep.choose_lt key
    refine ⟨some a, n, m, (List.range n).map f, rfl, ⟨by simp, fun cs hcs => ?_, ?_⟩, hl, .inr ⟨_, _, rfl, by simp, fun i cs hc => ?_⟩⟩
    · obtain ⟨i, hin, rfl⟩ := List.mem_map.1 hcs
      exact (hfn i (List.mem_range.1 hin)).1
    · rcases Nat.eq_zero_or_pos n with hn | hn
      · left
        rw [hn]
        rfl
      · right
        obtain ⟨hl0, hx0, _⟩ := hfn 0 hn
        have hx0 := hx0 0 _ (List.getElem?_eq_getElem (by omega))
        obtain ⟨b, off, spot⟩ := a
        have hspot : spot = none := by simpa [Addr.add] using World.cell?_spot hx0
        subst hspot
        have hlt : b < W.heap.size := by
          have := World.block_lt_of_cell? W _ hx0
          rw [block_of_add] at this
          exact this
        refine ⟨b, off, rfl, hlt, fun i cs hc j v hv => ?_⟩
        have hin : i < n := by have := (List.getElem?_eq_some_iff.1 hc).1; simpa using this
        have e : cs = f i := by simpa [hin] using hc.symm
        rw [e] at hv
        have := (hfn i hin).2.1 j v hv
        rw [add_mk] at this
        rw [Nat.add_assoc]
        exact this
    · have hin : i < n := by have := (List.getElem?_eq_some_iff.1 hc).1; simpa using this
      have e : cs = f i := by simpa [hin] using hc.symm
      exact ⟨q, (D i, Pl i), by rw [e]; exact (hfn i hin).2.2, by simp [hin]⟩
end
end Go.Proofs.Ytkmcjjoicpgjfaa
/-
  The elements of a program that came in: instructions, lists of bytes, routes, sends. No statement of the seat is proved here.
-/
namespace Go.Proofs.Ytkmcjjoicpgjfaa
open Go Go.RowKit Go.Sh Go.ChangeShapes Go.WideShapes Go.ChangeAt

theorem rows_map {α : Type} (f : α → List Value) : ∀ css : List (List Value), (∀ cs ∈ css, ∃ x, cs = f x) → ∃ xs : List α, css = xs.map f
  | [], _ => ⟨[], rfl⟩
  | c :: css, h => by
    obtain ⟨x, hx⟩ := h c (by simp)
    obtain ⟨xs, hxs⟩ := rows_map f css fun cs hcs => h cs (by simp [hcs])
    exact ⟨x :: xs, by rw [List.map_cons, ← hx, ← hxs]⟩
section
variable {H : Type} {enc : TypeId × Value → H} {W : World} {base : Nat} {spare : Nat → Bool} {held : Bool} {fuel : Nat} {x : DataW H × List MemPlace}
set_option maxRecDepth 100000 in
theorem cellsIns : Try.prog.cellsOf 39 = 3 := by kernel_rfl
set_option maxRecDepth 100000 in
theorem cellsSpec : Try.prog.cellsOf 52 = 3 := by kernel_rfl
set_option maxRecDepth 100000 in
theorem cellsLs : Try.prog.cellsOf 30 = 1 := by kernel_rfl
set_option maxRecDepth 100000 in
theorem trod_ins {cs : List Value} (h : DataW.trod enc Try.prog W base spare held fuel 39 cs = some x) : ∃ i : Ins, cs = i.cells := by
  obtain ⟨xs, q, _, _, hl, hxl, hf⟩ := DataW.trod_struct Try.underlying39 h
  rw [cellsIns] at hl
  match cs, hl with
  | [a, b, c], _ =>
    have h0 : DataW.trod enc Try.prog W base spare held q 5 (List.take (Try.prog.cellsOf 5) (List.drop 0 [a, b, c])) = xs[0]? := hf 0 _ rfl
    have h1 : DataW.trod enc Try.prog W base spare held q 3 (List.take (Try.prog.cellsOf 3) (List.drop 1 [a, b, c])) = xs[1]? := hf 1 _ rfl
    have h2 : DataW.trod enc Try.prog W base spare held q 3 (List.take (Try.prog.cellsOf 3) (List.drop 2 [a, b, c])) = xs[2]? := hf 2 _ rfl
    have hxs : xs.length = 3 := hxl
    simp only [cells1b, cellsI, List.drop_zero, List.drop_succ_cons, List.take_succ_cons, List.take_zero] at h0 h1 h2
    rw [List.getElem?_eq_getElem (by omega)] at h0 h1 h2
    obtain ⟨op, e0, o1, o2⟩ := trod_u8 h0
    obtain ⟨dl, e1, _, w1⟩ := DataW.trod_int Try.underlying3 h1
    obtain ⟨fl, e2, _, w2⟩ := DataW.trod_int Try.underlying3 h2
    obtain rfl : b = .int .i64 dl := by simpa using e1
    obtain rfl : c = .int .i64 fl := by simpa using e2
    refine ⟨⟨UInt8.ofNat op.toNat, dl, fl⟩, ?_⟩
    rw [e0, Ins.cells]
    have : (((UInt8.ofNat op.toNat).toNat : Nat) : Int) = op := by
      rw [UInt8.toNat_ofNat']
      omega
    rw [this]
/-- numbers in a cell -/
theorem openIc {fuel : Nat} {v : Value} {y : DataW H × List MemPlace} (hf : DataW.trod enc Try.prog W 0 (fun _ => true) true fuel 30 [v] = some y) :
    ∃ A n c l, v = .slice A n c ∧ RI W W.heap.size A n l ∧ n ≤ c ∧ HasLen y.1 n := by
  obtain ⟨A, n, c, css, rfl, hr, hc, hd⟩ := open_rows (size := 1) Try.underlying30 cellsI (by decide) hf
  have hel : ∀ cs ∈ css, ∃ z : Int, cs = [.int .i64 z] ∧ -9223372036854775808 ≤ z ∧ z ≤ 9223372036854775807 := fun cs hcs => by
    obtain ⟨i, hi, rfl⟩ := List.mem_iff_getElem.1 hcs
    rcases hd with ⟨_, h0⟩ | ⟨es, sp, _, _, hel⟩
    · have := hr.len
      omega
    · obtain ⟨q, y2, ht, _⟩ := hel i _ (List.getElem?_eq_getElem hi)
      obtain ⟨z, e, _, w⟩ := DataW.trod_int Try.underlying3 ht
      exact ⟨z, e, bounds_i64 w⟩
  obtain ⟨zs, hzs⟩ := rows_map (fun z : Int => [Value.int .i64 z]) css fun cs hcs => by obtain ⟨z, e, _⟩ := hel cs hcs; exact ⟨z, e⟩
  have hflat : css.flatten = iv zs := by
    rw [hzs]
    clear hzs
    induction zs with
    | nil => rfl
    | cons z zs ih => simp [iv] at ih ⊢; exact ih
  have hrd := RR.reads hr (by decide)
  rw [hflat] at hrd
  refine ⟨A, n, c, zs, rfl, ⟨hrd, fun z hz => ?_⟩, hc, hd.has⟩
  obtain ⟨z', e, hb⟩ := hel [.int .i64 z] (by rw [hzs]; exact List.mem_map.2 ⟨z, hz, rfl⟩)
  injection e with e _
  injection e with _ e
  rw [e]
  exact hb
/-- stops in a cell -/
theorem openSc {fuel : Nat} {v : Value} {y : DataW H × List MemPlace} (hf : DataW.trod enc Try.prog W 0 (fun _ => true) true fuel 50 [v] = some y) :
    ∃ (A : Option Addr) (n c : Nat) (ss : List Sp), v = .slice A n c ∧ RR W W.heap.size 3 A n (ss.map Sp.cells) ∧ n ≤ c ∧ HasLen y.1 n := by
  obtain ⟨A, n, c, css, rfl, hr, hc, hd⟩ := open_rows (size := 3) Try.underlying50 cellsStop (by decide) hf
  have hel : ∀ cs ∈ css, ∃ s : Sp, cs = s.cells := fun cs hcs => by
    obtain ⟨i, hi, rfl⟩ := List.mem_iff_getElem.1 hcs
    rcases hd with ⟨_, h0⟩ | ⟨es, sp, _, _, hel⟩
    · have := hr.len
      omega
    · obtain ⟨q, y2, ht, _⟩ := hel i _ (List.getElem?_eq_getElem hi)
      obtain ⟨s, _, e⟩ := trod_stop ht
      exact ⟨s, e⟩
  obtain ⟨ss, rfl⟩ := rows_map Sp.cells css hel
  exact ⟨A, n, c, ss, rfl, hr, hc, hd.has⟩
/-- the data of rows of rows: how long each is -/
def HasRows (d : DataW H) (ls : List Nat) : Prop := (d = .nil ∧ ls = []) ∨ ∃ es sp : List (DataW H), d = .slice es sp ∧ es.length = ls.length ∧ ∀ i, i < ls.length → ∃ di, es[i]? = some di ∧ HasLen di (ls.getD i 0)
set_option maxRecDepth 100000 in
theorem openRts {fuel : Nat} {v : Value} {y : DataW H × List MemPlace} (hf : DataW.trod enc Try.prog W 0 (fun _ => true) true fuel 24 [v] = some y) :
    ∃ (A : Option Addr) (n c : Nat) (rs : List (List Sp)), v = .slice A n c ∧ RRt W W.heap.size A n rs ∧ n ≤ c ∧ HasRows y.1 (rs.map List.length) := by
  obtain ⟨A, n, c, css, rfl, hr, hc, hd⟩ := open_rows (size := 1) Try.underlying24 (by kernel_rfl) (by decide) hf
  rcases hd with ⟨hd, rfl⟩ | ⟨es, sp, hd, hel, hi⟩
  · have : css = [] := List.eq_nil_of_length_eq_zero hr.len
    subst this
    exact ⟨A, 0, c, [], rfl, ⟨rfl, [], RR.reads hr (by decide), fun i hi => absurd hi (Nat.not_lt_zero _)⟩, hc, .inl ⟨hd, rfl⟩⟩
  · have hcl := hr.len
    have key : ∀ i, i < n → ∃ x : (Option Addr × Nat × Nat) × List Sp, css[i]? = some [.slice x.1.1 x.1.2.1 x.1.2.2] ∧ x.1.2.1 ≤ x.1.2.2 ∧ RR W W.heap.size 3 x.1.1 x.1.2.1 (x.2.map Sp.cells) ∧ ∃ di, es[i]? = some di ∧ HasLen di x.2.length := by
      intro i hin
      have hci := List.getElem?_eq_getElem (l := css) (i := i) (by omega)
      obtain ⟨q, y2, ht, he⟩ := hi i _ hci
      have hl1 := hr.2.1 _ (List.mem_of_getElem? hci)
      match hcs : css[i]'(by omega), hl1 with
      | [u], _ =>
        rw [hcs] at ht
        obtain ⟨Ai, ni, ci, ss, rfl, h1, h2, h3⟩ := openSc ht
        have hsl : ss.length = ni := by have := h1.len; rw [List.length_map] at this; exact this
        exact ⟨⟨⟨Ai, ni, ci⟩, ss⟩, by rw [hci, hcs], h2, h1, _, he, by rw [hsl]; exact h3⟩
    have : Inhabited ((Option Addr × Nat × Nat) × List Sp) := ⟨⟨⟨none, 0, 0⟩, []⟩⟩
    obtain ⟨f, hfn⟩ := Go.Deep.choose_lt key
    have hrat : ∀ i, i < n → rat ((List.range n).map fun i => (f i).2) i = (f i).2 := fun i hin => by simp [rat, hin]
    have hflat : ∀ (l : List (List Value)), (∀ cs ∈ l, cs.length = 1) → ∀ i u, l[i]? = some [u] → l.flatten[i]? = some u := fun l hl i u hu => by
      have := flat_at hl i [u] hu 0 u rfl
      simpa using this
    refine ⟨A, n, c, (List.range n).map fun i => (f i).2, rfl, ⟨by simp, css.flatten, RR.reads hr (by decide), fun i hin => ?_⟩, hc, .inr ⟨es, sp, hd, by simp [hel], fun i hin => ?_⟩⟩
    · obtain ⟨h1, h2, h3, _⟩ := hfn i hin
      rw [hrat i hin]
      exact ⟨_, _, _, hflat css hr.2.1 i _ h1, h2, h3⟩
    · have hin' : i < n := by simpa using hin
      obtain ⟨_, _, _, di, h4, h5⟩ := hfn i hin'
      refine ⟨di, h4, ?_⟩
      simpa [hin'] using h5
/-- the data of a send: how long its routes are -/
def HasSnd (d : DataW H) (n : Nat) : Prop := ∃ d0 d1 d2, d = .agg [d0, d1, d2] ∧ HasLen d1 n
set_option maxRecDepth 100000 in
theorem trod_spec {fuel : Nat} {cs : List Value} {y : DataW H × List MemPlace} (h : DataW.trod enc Try.prog W 0 (fun _ => true) true fuel 52 cs = some y) :
    ∃ (m : Int) (A : Option Addr) (n c : Nat) (l : List Int) (b : Int), cs = [.int .i64 m, .slice A n c, .int .i64 b] ∧ RI W W.heap.size A n l ∧ n ≤ c ∧ HasSnd y.1 n := by
  obtain ⟨ys, q, _, hag, hl, hyl, hf⟩ := DataW.trod_struct Try.underlying52 h
  rw [cellsSpec] at hl
  have hys : ys.length = 3 := hyl
  match cs, hl, ys, hys with
  | [v0, v1, v2], _, [y0, y1, y2], _ =>
    have t0 : DataW.trod enc Try.prog W 0 (fun _ => true) true q 3 [v0] = some y0 := by
      have h := hf 0 _ rfl
      simpa [cellsI] using h
    have t1 : DataW.trod enc Try.prog W 0 (fun _ => true) true q 30 [v1] = some y1 := by
      have h := hf 1 _ rfl
      simpa [cellsLs] using h
    have t2 : DataW.trod enc Try.prog W 0 (fun _ => true) true q 3 [v2] = some y2 := by
      have h := hf 2 _ rfl
      simpa [cellsI] using h
    obtain ⟨m, e0, _, _⟩ := DataW.trod_int Try.underlying3 t0
    obtain ⟨A, n, c, l, rfl, h1, h2, h3⟩ := openIc t1
    obtain ⟨b, e2, _, _⟩ := DataW.trod_int Try.underlying3 t2
    obtain rfl : v0 = .int .i64 m := by simpa using e0
    obtain rfl : v2 = .int .i64 b := by simpa using e2
    exact ⟨m, A, n, c, l, b, rfl, h1, h2, y0.1, y1.1, y2.1, by rw [hag]; rfl, h3⟩
def HasSnds (d : DataW H) (ls : List Nat) : Prop := (d = .nil ∧ ls = []) ∨ ∃ es sp : List (DataW H), d = .slice es sp ∧ es.length = ls.length ∧ ∀ i, i < ls.length → ∃ di, es[i]? = some di ∧ HasSnd di (ls.getD i 0)
set_option maxRecDepth 100000 in
theorem openSnds {fuel : Nat} {v : Value} {y : DataW H × List MemPlace} (hf : DataW.trod enc Try.prog W 0 (fun _ => true) true fuel 25 [v] = some y) :
    ∃ (A : Option Addr) (n c : Nat) (ss : List Snd), v = .slice A n c ∧ RSn W W.heap.size A n ss ∧ n ≤ c ∧ HasSnds y.1 (ss.map fun s => s.rts.length) := by
  obtain ⟨A, n, c, css, rfl, hr, hc, hd⟩ := open_rows (size := 3) Try.underlying25 cellsSpec (by decide) hf
  rcases hd with ⟨hd, rfl⟩ | ⟨es, sp, hd, hel, hi⟩
  · have : css = [] := List.eq_nil_of_length_eq_zero hr.len
    subst this
    exact ⟨A, 0, c, [], rfl, ⟨rfl, [], hr, fun i hi => absurd hi (Nat.not_lt_zero _)⟩, hc, .inl ⟨hd, rfl⟩⟩
  · have hcl := hr.len
    have key : ∀ i, i < n → ∃ x : (Option Addr × Nat × Nat) × Snd, css[i]? = some [.int .i64 x.2.msg, .slice x.1.1 x.1.2.1 x.1.2.2, .int .i64 x.2.blk] ∧ x.1.2.1 ≤ x.1.2.2 ∧ RI W W.heap.size x.1.1 x.1.2.1 x.2.rts ∧ ∃ di, es[i]? = some di ∧ HasSnd di x.2.rts.length := by
      intro i hin
      have hci := List.getElem?_eq_getElem (l := css) (i := i) (by omega)
      obtain ⟨q, y2, ht, he⟩ := hi i _ hci
      obtain ⟨m, Ai, ni, ci, l, b, hcs, h1, h2, h3⟩ := trod_spec ht
      exact ⟨⟨⟨Ai, ni, ci⟩, ⟨m, l, b⟩⟩, by rw [hci, hcs], h2, h1, _, he, by rw [h1.len]; exact h3⟩
    have : Inhabited ((Option Addr × Nat × Nat) × Snd) := ⟨⟨⟨none, 0, 0⟩, ⟨0, [], 0⟩⟩⟩
    obtain ⟨f, hfn⟩ := Go.Deep.choose_lt key
    have hdat : ∀ i, i < n → dat ((List.range n).map fun i => (f i).2) i = (f i).2 := fun i hin => by simp [dat, hin]
    refine ⟨A, n, c, (List.range n).map fun i => (f i).2, rfl, ⟨by simp, css, hr, fun i hin => ?_⟩, hc, .inr ⟨es, sp, hd, by simp [hel], fun i hin => ?_⟩⟩
    · obtain ⟨h1, h2, h3, _⟩ := hfn i hin
      rw [hdat i hin]
      exact ⟨_, _, _, h1, h2, h3⟩
    · have hin' : i < n := by simpa using hin
      obtain ⟨_, _, _, di, h4, h5⟩ := hfn i hin'
      refine ⟨di, h4, ?_⟩
      simpa [hin'] using h5
set_option maxRecDepth 100000 in
/-- bytes in a cell -/
theorem openBc {H : Type} {enc : TypeId × Value → H} {P : Program} {W : World} {fuel : Nat} {t e : TypeId} {v : Value} {y : DataW H × List MemPlace} (he : P.underlying t = some (.slice e)) (hu : P.underlying e = some (.int .u8)) (hcu : P.cellsOf e = 1)
    (hf : DataW.trod enc P W 0 (fun _ => true) true fuel t [v] = some y) :
    ∃ A n c l, v = .slice A n c ∧ RB W W.heap.size A n l ∧ n ≤ c ∧ HasLen y.1 n := by
  rcases open_ints he hu hcu hf with ⟨hcs, hx⟩ | ⟨x, l, cc, zs, hcs, _, hll, hmm, hz, hx, hcell, hwz⟩
  · obtain rfl : v = .slice none 0 0 := by simpa using hcs
    subst hx
    exact ⟨none, 0, 0, [], rfl, RB.none_, Nat.le_refl _, .inl ⟨rfl, rfl⟩⟩
  · obtain rfl : v = .slice (some x) l cc := by simpa using hcs
    subst hx
    simp only [if_true] at hz
    have hlen : (toB (zs.take l)).length = l := by simp [toB]; omega
    refine ⟨some x, l, cc, toB (zs.take l), rfl, ⟨by rw [length_bv, hlen]; omega, ?_⟩, hll, .inr ⟨_, _, rfl, by simp [lits]; omega⟩⟩
    rcases Nat.eq_zero_or_pos l with h0 | h0
    · left
      apply List.eq_nil_of_length_eq_zero
      rw [length_bv, hlen, h0]
    refine .inr ⟨x, rfl, ?_, fun j hj => ?_⟩
    · have := hcell 0 (by omega)
      have hb := World.block_lt_of_cell? W _ this
      rw [block_of_add] at hb
      exact hb
    · rw [length_bv, hlen] at hj
      rw [bv_at _ _ (by rw [hlen]; exact hj), hcell j (by omega), bt_toB _ _ (by rw [List.length_take]; omega) (fun q hq => hwz q (List.mem_of_mem_take hq))]
      congr 2
      simp [hj]
set_option maxRecDepth 100000 in
/-- lists of bytes in a cell -/
theorem openMs {fuel : Nat} {v : Value} {y : DataW H × List MemPlace} (hf : DataW.trod enc Try.prog W 0 (fun _ => true) true fuel 23 [v] = some y) :
    ∃ (A : Option Addr) (n c : Nat) (ls : List (List UInt8)), v = .slice A n c ∧ RBB W W.heap.size A n ls ∧ n ≤ c ∧ HasRows y.1 (ls.map List.length) := by
  obtain ⟨A, n, c, css, rfl, hr, hc, hd⟩ := open_rows (size := 1) Try.underlying23 (by kernel_rfl) (by decide) hf
  rcases hd with ⟨hd, rfl⟩ | ⟨es, sp, hd, hel, hi⟩
  · have : css = [] := List.eq_nil_of_length_eq_zero hr.len
    subst this
    exact ⟨A, 0, c, [], rfl, ⟨rfl, [], RR.reads hr (by decide), fun i hi => absurd hi (Nat.not_lt_zero _)⟩, hc, .inl ⟨hd, rfl⟩⟩
  · have hcl := hr.len
    have key : ∀ i, i < n → ∃ x : (Option Addr × Nat × Nat) × List UInt8, css[i]? = some [.slice x.1.1 x.1.2.1 x.1.2.2] ∧ x.1.2.1 ≤ x.1.2.2 ∧ RB W W.heap.size x.1.1 x.1.2.1 x.2 ∧ ∃ di, es[i]? = some di ∧ HasLen di x.2.length := by
      intro i hin
      have hci := List.getElem?_eq_getElem (l := css) (i := i) (by omega)
      obtain ⟨q, y2, ht, he⟩ := hi i _ hci
      have hl1 := hr.2.1 _ (List.mem_of_getElem? hci)
      match hcs : css[i]'(by omega), hl1 with
      | [u], _ =>
        rw [hcs] at ht
        obtain ⟨Ai, ni, ci, l, rfl, h1, h2, h3⟩ := openBc Try.underlying66 Try.underlying5 cells1b ht
        exact ⟨⟨⟨Ai, ni, ci⟩, l⟩, by rw [hci, hcs], h2, h1, _, he, by rw [h1.len]; exact h3⟩
    have : Inhabited ((Option Addr × Nat × Nat) × List UInt8) := ⟨⟨⟨none, 0, 0⟩, []⟩⟩
    obtain ⟨f, hfn⟩ := Go.Deep.choose_lt key
    have hlat : ∀ i, i < n → lat ((List.range n).map fun i => (f i).2) i = (f i).2 := fun i hin => by simp [lat, hin]
    have hflat : ∀ (l : List (List Value)), (∀ cs ∈ l, cs.length = 1) → ∀ i u, l[i]? = some [u] → l.flatten[i]? = some u := fun l hl i u hu => by
      have := flat_at hl i [u] hu 0 u rfl
      simpa using this
    refine ⟨A, n, c, (List.range n).map fun i => (f i).2, rfl, ⟨by simp, css.flatten, RR.reads hr (by decide), fun i hin => ?_⟩, hc, .inr ⟨es, sp, hd, by simp [hel], fun i hin => ?_⟩⟩
    · obtain ⟨h1, h2, h3, _⟩ := hfn i hin
      rw [hlat i hin]
      exact ⟨_, _, _, hflat css hr.2.1 i _ h1, h2, h3⟩
    · have hin' : i < n := by simpa using hin
      obtain ⟨_, _, _, di, h4, h5⟩ := hfn i hin'
      refine ⟨di, h4, ?_⟩
      simpa [hin'] using h5
end
end Go.Proofs.Ytkmcjjoicpgjfaa
/-
  A program among the arguments. No statement of the seat is proved here.
-/
namespace Go.Proofs.Ytkmcjjoicpgjfaa
open Go Go.RowKit Go.Sh Go.ChangeShapes Go.WideShapes Go.ChangeAt

/-- the data of a program: how long its slices are -/
def HasPrg {H : Type} (d : DataW H) (p : Prg) : Prop := ∃ d0 d1 d2 d3 d4 d5 d6 d7, d = .agg [d0, d1, d2, d3, d4, d5, d6, d7] ∧ HasLen d0 p.code.length ∧ HasRows d1 (p.msgs.map List.length) ∧ HasRows d2 (p.rts.map List.length) ∧ HasSnds d3 (p.snds.map fun s => s.rts.length)
/-- a program in memory, but for what its sizes say -/
structure PR0 (w : World) (B : Nat) (d : Pad) (p : Prg) : Prop where
  code : RR w B 3 d.A1 d.n1 (p.code.map Ins.cells)
  msgs : RBB w B d.A2 d.n2 p.msgs
  rts : RRt w B d.A3 d.n3 p.rts
  snds : RSn w B d.A4 d.n4 p.snds
  k1 : d.n1 ≤ d.c1
  k2 : d.n2 ≤ d.c2
  k3 : d.n3 ≤ d.c3
  k4 : d.n4 ≤ d.c4
set_option maxRecDepth 100000 in
theorem cellsPrg : Try.prog.cellsOf 27 = 8 := by kernel_rfl
section
variable {H : Type} {enc : TypeId × Value → H} {W : World}
theorem openCode {fuel : Nat} {v : Value} {y : DataW H × List MemPlace} (hf : DataW.trod enc Try.prog W 0 (fun _ => true) true fuel 22 [v] = some y) :
    ∃ (A : Option Addr) (n c : Nat) (l : List Ins), v = .slice A n c ∧ RR W W.heap.size 3 A n (l.map Ins.cells) ∧ n ≤ c ∧ HasLen y.1 l.length := by
  obtain ⟨A, n, c, css, rfl, hr, hc, hd⟩ := open_rows (size := 3) Try.underlying22 cellsIns (by decide) hf
  have hel : ∀ cs ∈ css, ∃ s : Ins, cs = s.cells := fun cs hcs => by
    obtain ⟨i, hi, rfl⟩ := List.mem_iff_getElem.1 hcs
    rcases hd with ⟨_, h0⟩ | ⟨es, sp, _, _, hel⟩
    · have := hr.len
      omega
    · obtain ⟨q, y2, ht, _⟩ := hel i _ (List.getElem?_eq_getElem hi)
      exact trod_ins ht
  obtain ⟨l, rfl⟩ := rows_map Ins.cells css hel
  have hl : l.length = n := by have := hr.len; rw [List.length_map] at this; exact this
  exact ⟨A, n, c, l, rfl, hr, hc, by rw [hl]; exact hd.has⟩
set_option maxRecDepth 100000 in
theorem openPrg {b0 : Nat} {r : Reach} {v : Value} {d : DataW H} {p : List MemPlace} (hok : Value.okWide Try.prog W r b0 27 v) (h : DataW.Trod enc Try.prog W 0 (fun _ => true) true 27 v d p) :
    ∃ (d' : Pad) (p' : Prg), v = .agg (pcs d' p') ∧ PR0 W W.heap.size d' p' ∧ HasPrg d p' := by
  obtain ⟨cs, rfl, hsz, _⟩ : ∃ cs, v = .agg cs ∧ cs.size = Try.prog.cellsOf 27 ∧ Row.okWide Try.prog W r b0 27 cs := by
    simpa [Value.okWide, Try.underlying27] using hok
  obtain ⟨fuel, hf⟩ := h
  obtain ⟨ys, q, _, hag, hlen, hyl, hfield⟩ := DataW.trod_struct Try.underlying27 hf
  have hys : ys.length = 8 := hyl
  rw [cellsPrg] at hlen
  obtain ⟨l, hl⟩ : ∃ l, (Value.agg cs).cells.toList = l := ⟨_, rfl⟩
  rw [hl] at hlen hfield
  match l, hlen, ys, hys with
  | [v0, v1, v2, v3, v4, v5, v6, v7], _, [y0, y1, y2, y3, y4, y5, y6, y7], _ =>
    have t0 : DataW.trod enc Try.prog W 0 (fun _ => true) true q 22 [v0] = some y0 := by
      have h := hfield 0 _ rfl
      simpa [show Try.prog.cellsOf 22 = 1 by kernel_rfl] using h
    have t1 : DataW.trod enc Try.prog W 0 (fun _ => true) true q 23 [v1] = some y1 := by
      have h := hfield 1 _ rfl
      simpa [show Try.prog.cellsOf 23 = 1 by kernel_rfl] using h
    have t2 : DataW.trod enc Try.prog W 0 (fun _ => true) true q 24 [v2] = some y2 := by
      have h := hfield 2 _ rfl
      simpa [show Try.prog.cellsOf 24 = 1 by kernel_rfl] using h
    have t3 : DataW.trod enc Try.prog W 0 (fun _ => true) true q 25 [v3] = some y3 := by
      have h := hfield 3 _ rfl
      simpa [show Try.prog.cellsOf 25 = 1 by kernel_rfl] using h
    have t4 : DataW.trod enc Try.prog W 0 (fun _ => true) true q 3 [v4] = some y4 := by
      have h := hfield 4 _ rfl
      simpa [cellsI] using h
    have t5 : DataW.trod enc Try.prog W 0 (fun _ => true) true q 3 [v5] = some y5 := by
      have h := hfield 5 _ rfl
      simpa [cellsI] using h
    have t6 : DataW.trod enc Try.prog W 0 (fun _ => true) true q 3 [v6] = some y6 := by
      have h := hfield 6 _ rfl
      simpa [cellsI] using h
    have t7 : DataW.trod enc Try.prog W 0 (fun _ => true) true q 3 [v7] = some y7 := by
      have h := hfield 7 _ rfl
      simpa [cellsI] using h
    obtain ⟨A1, n1, c1, l1, rfl, a1, a2, a3⟩ := openCode t0
    obtain ⟨A2, n2, c2, l2, rfl, b1, b2, b3⟩ := openMs t1
    obtain ⟨A3, n3, c3, l3, rfl, g1, g2, g3⟩ := openRts t2
    obtain ⟨A4, n4, c4, l4, rfl, h1, h2, h3⟩ := openSnds t3
    obtain ⟨z4, e4, _, _⟩ := DataW.trod_int Try.underlying3 t4
    obtain ⟨z5, e5, _, _⟩ := DataW.trod_int Try.underlying3 t5
    obtain ⟨z6, e6, _, _⟩ := DataW.trod_int Try.underlying3 t6
    obtain ⟨z7, e7, _, _⟩ := DataW.trod_int Try.underlying3 t7
    simp only [List.cons.injEq, and_true] at e4 e5 e6 e7
    subst e4 e5 e6 e7
    refine ⟨⟨A1, n1, c1, A2, n2, c2, A3, n3, c3, A4, n4, c4⟩, ⟨l1, l2, l3, l4, z4, z5, z6, z7⟩, ?_, ⟨a1, b1, g1, h1, a2, b2, g2, h2⟩, y0.1, y1.1, y2.1, y3.1, y4.1, y5.1, y6.1, y7.1, ?_, a3, b3, g3, h3⟩
    · have e' : cs.toList = [.slice A1 n1 c1, .slice A2 n2 c2, .slice A3 n3 c3, .slice A4 n4 c4, .int .i64 z4, .int .i64 z5, .int .i64 z6, .int .i64 z7] := by simpa [Value.cells] using hl
      have : cs = #[.slice A1 n1 c1, .slice A2 n2 c2, .slice A3 n3 c3, .slice A4 n4 c4, .int .i64 z4, .int .i64 z5, .int .i64 z6, .int .i64 z7] := by rw [← e']
      rw [this]
      rfl
    · have := congrArg Prod.fst hag
      exact this
end
end Go.Proofs.Ytkmcjjoicpgjfaa
/-
  What the sizes of an argument say of a program. No statement of the seat is proved here.
-/
namespace Go.Proofs.Ytkmcjjoicpgjfaa
open Go Go.RowKit Go.Sh Go.ChangeShapes Go.WideShapes Go.ChangeAt

section
variable {H : Type}
theorem weights_all' {P : Program} {e : TypeId} : ∀ (xs : List (DataW H)) (x : DataW H), x ∈ xs → ∀ n ∈ x.weights P e, n ∈ DataW.weightsAll P e xs := by
  intro xs
  induction xs with
  | nil => intro x hx; cases hx
  | cons y ys ih =>
    intro x hx n hn
    simp only [DataW.weightsAll, List.mem_append]
    rcases List.mem_cons.1 hx with rfl | hx
    · exact .inl hn
    · exact .inr (ih x hx n hn)
theorem w_len {t e : TypeId} (ht : Try.prog.underlying t = some (.slice e)) (es sp : List (DataW H)) : (es.length + sp.length) * Try.prog.bytesOf e ∈ (DataW.slice es sp).weights Try.prog t := by
  simp [DataW.weights, ht]
theorem w_in {t e : TypeId} (ht : Try.prog.underlying t = some (.slice e)) {es sp : List (DataW H)} {x : DataW H} (hx : x ∈ es) {n : Nat} (hn : n ∈ x.weights Try.prog e) : n ∈ (DataW.slice es sp).weights Try.prog t := by
  simp only [DataW.weights, ht, List.mem_cons, List.mem_append]
  exact .inr (.inl (weights_all' es x hx n hn))
/-- a slice's length times an element's bytes is within reach -/
theorem w_has {t e : TypeId} (ht : Try.prog.underlying t = some (.slice e)) {d : DataW H} {n b : Nat} (hb : Try.prog.bytesOf e = b) (h : HasLen d n) (hall : ∀ x ∈ d.weights Try.prog t, x ≤ reachBytes) : n * b ≤ 140737488355328 := by
  rcases h with ⟨_, rfl⟩ | ⟨es, sp, rfl, rfl⟩
  · omega
  · have := hall _ (w_len ht es sp)
    rw [hb, Nat.add_mul] at this
    simp only [reachBytes] at this
    omega
theorem w_rows {t e f : TypeId} (ht : Try.prog.underlying t = some (.slice e)) (he : Try.prog.underlying e = some (.slice f)) {d : DataW H} {ls : List Nat} {b c : Nat} (hb : Try.prog.bytesOf e = b) (hc : Try.prog.bytesOf f = c) (h : HasRows d ls) (hall : ∀ x ∈ d.weights Try.prog t, x ≤ reachBytes) :
    ls.length * b ≤ 140737488355328 ∧ ∀ n ∈ ls, n * c ≤ 140737488355328 := by
  rcases h with ⟨_, rfl⟩ | ⟨es, sp, rfl, hl, hi⟩
  · exact ⟨by simp, fun n hn => by cases hn⟩
  · refine ⟨w_has ht hb (.inr ⟨es, sp, rfl, hl⟩) hall, fun n hn => ?_⟩
    obtain ⟨i, hin, rfl⟩ := List.getElem_of_mem hn
    obtain ⟨di, hdi, hlen⟩ := hi i hin
    rw [List.getD_eq_getElem?_getD, List.getElem?_eq_getElem hin] at hlen
    exact w_has he hc hlen fun x hx => hall x (w_in ht (List.mem_of_getElem? hdi) hx)
set_option maxRecDepth 100000 in
theorem fit_prg {d : DataW H} {p : Prg} (hd : HasPrg d p) (hall : ∀ x ∈ d.weights Try.prog 27, x ≤ reachBytes) : Fit p := by
  obtain ⟨d0, d1, d2, d3, d4, d5, d6, d7, rfl, h0, h1, h2, h3⟩ := hd
  have a0 : ∀ x ∈ d0.weights Try.prog 22, x ≤ reachBytes := fun x hx => hall x (by rw [DataW.weights, Try.underlying27]; exact DataW.weights_mem_each (j := 0) (t := 22) rfl rfl _ hx)
  have a1 : ∀ x ∈ d1.weights Try.prog 23, x ≤ reachBytes := fun x hx => hall x (by rw [DataW.weights, Try.underlying27]; exact DataW.weights_mem_each (j := 1) (t := 23) rfl rfl _ hx)
  have a2 : ∀ x ∈ d2.weights Try.prog 24, x ≤ reachBytes := fun x hx => hall x (by rw [DataW.weights, Try.underlying27]; exact DataW.weights_mem_each (j := 2) (t := 24) rfl rfl _ hx)
  have a3 : ∀ x ∈ d3.weights Try.prog 25, x ≤ reachBytes := fun x hx => hall x (by rw [DataW.weights, Try.underlying27]; exact DataW.weights_mem_each (j := 3) (t := 25) rfl rfl _ hx)
  have m := w_rows Try.underlying23 Try.underlying66 (b := 24) (c := 1) (by kernel_rfl) (by kernel_rfl) h1 a1
  have r := w_rows Try.underlying24 Try.underlying50 (b := 24) (c := 32) (by kernel_rfl) (by kernel_rfl) h2 a2
  rw [List.length_map] at m r
  refine ⟨w_has Try.underlying22 (by kernel_rfl) h0 a0, m.1, r.1, ?_, fun l hl => by have := m.2 _ (List.mem_map.2 ⟨l, hl, rfl⟩); omega, fun l hl => r.2 _ (List.mem_map.2 ⟨l, hl, rfl⟩), fun s hs => ?_⟩
  · rcases h3 with ⟨_, hn⟩ | ⟨es, sp, rfl, hl, _⟩
    · have : p.snds.length = 0 := by rw [← List.length_map (f := fun s : Snd => s.rts.length), hn]; rfl
      omega
    · rw [List.length_map] at hl
      exact w_has Try.underlying25 (by kernel_rfl) (.inr ⟨es, sp, rfl, hl⟩) a3
  · rcases h3 with ⟨_, hn⟩ | ⟨es, sp, rfl, hl, hi⟩
    · have h : s.rts.length ∈ p.snds.map fun s => s.rts.length := List.mem_map.2 ⟨s, hs, rfl⟩
      rw [hn] at h
      cases h
    · obtain ⟨i, hin, rfl⟩ := List.getElem_of_mem hs
      obtain ⟨di, hdi, e0, e1, e2, rfl, hlen⟩ := hi i (by rw [List.length_map]; exact hin)
      rw [List.getD_eq_getElem?_getD, List.getElem?_map, List.getElem?_eq_getElem hin] at hlen
      refine w_has Try.underlying30 (by kernel_rfl) hlen fun x hx => a3 x (w_in Try.underlying25 (List.mem_of_getElem? hdi) ?_)
      rw [DataW.weights, Try.underlying52]
      exact DataW.weights_mem_each (j := 1) (t := 30) rfl rfl _ hx
end
end Go.Proofs.Ytkmcjjoicpgjfaa
/-
  The final analysis of a program keeps its heights within bounds. No statement of the seat is proved here.
-/
namespace Go.Proofs.Ytkmcjjoicpgjfaa
open Go Go.RowKit Go.Sh

theorem goS_good {p : Prg} {n : Nat} (hf : Formed p) (hl : p.code.length = n) : ∀ (f : Nat) (s : St), Good n s → Good n (goS p n f s).2
  | 0, s, h => h
  | f + 1, s, h => by
    have h2 := (nextS_good h).1
    unfold goS
    split
    · rename_i hx
      have h3 := (procS_good hf h2 hl _ hx).1
      unfold thenS
      split
      · exact goS_good hf hl f _ h3
      · exact h3
    · exact h2
theorem anaS_good {p : Prg} (hf : Formed p) : Good p.code.length (anaS p).2 := by
  have h := (findS_good (st0_good p.code.length) 0 0 false (by decide) (by decide)).1
  unfold anaS thenS
  split
  · exact goS_good hf rfl _ _ h
  · exact h
/-- when Verify says no error, heights are within bounds -/
theorem verP_bounds {p : Prg} {ns : List Hp} (h : (verP p ns).1 = 0) : ∀ z ∈ (verP p ns).2.hs, -9223372036854775808 ≤ z ∧ z ≤ 9223372036854775807 := by
  by_cases h1 : fitP p ns = 0
  · have hf := fit_formed h1
    unfold verP at h ⊢
    rw [if_neg (by simp [h1])] at h ⊢
    by_cases h2 : rfP p = 0
    · rw [if_neg (by simp [h2])] at h ⊢
      have hg := anaS_good hf
      intro z hz
      obtain ⟨i, hi, rfl⟩ := List.getElem_of_mem hz
      have hb := hg.hh i (by rw [← hg.lh]; exact hi)
      have e : it (anaS p).2.hs i = (anaS p).2.hs[i] := by
        unfold it
        rw [List.getD_eq_getElem?_getD, List.getElem?_eq_getElem hi]
        rfl
      rw [e] at hb
      omega
    · rw [if_pos h2] at h
      exact absurd h h2
  · unfold verP at h
    rw [if_pos h1] at h
    exact absurd h h1
end Go.Proofs.Ytkmcjjoicpgjfaa
/-
  What Verify hands back, in one form for both of its ends. No statement of the seat is proved here.
-/
namespace Go.Sh
open Go Go.RowKit
theorem own_same {w w' : World} {base size n : Nat} {e : TypeId} {v : Value} {xs : List Value} (h : w.ownsRow base e size v n xs) (hs : ∀ b, base ≤ b → w'.heap[b]? = w.heap[b]?) : w'.ownsRow base e size v n xs := by
  refine ⟨h.1, ?_⟩
  rcases h.2 with hn | ⟨g, cap, cur, rfl, hbg, hgg, rest⟩
  · exact .inl hn
  · exact .inr ⟨g, cap, cur, rfl, hbg, by rw [hs g hbg]; exact hgg, rest⟩
end Go.Sh
namespace Go.Proofs.Ytkmcjjoicpgjfaa
open Go Go.RowKit Go.Sh

/-- the heights that are handed back -/
def htL (r : Int × St) : List Int := if r.1 ≠ 0 then [] else r.2.hs
/-- m heights that the call owns, in a block of their own from B to T, or none -/
def HtB (w : World) (B T : Nat) (H : Option Addr) (m : Nat) (l : List Int) : Prop :=
  l.length = m ∧ (m = 0 ∨ ∃ g, H = some ⟨g, 0, none⟩ ∧ B ≤ g ∧ g < T ∧ w.heap[g]? = some (.cells (iv l).toArray 3 (0, 0)))
theorem HtB.ri {w : World} {B T m : Nat} {H : Option Addr} {l : List Int} (h : HtB w B T H m l) (hb : ∀ z ∈ l, -9223372036854775808 ≤ z ∧ z ≤ 9223372036854775807) : RI w T H m l := by
  obtain ⟨h1, h2⟩ := h
  rcases h2 with rfl | ⟨g, rfl, _, hg, hc⟩
  · obtain rfl : l = [] := List.eq_nil_of_length_eq_zero h1
    exact ⟨⟨rfl, .inl rfl⟩, hb⟩
  · exact ri_of_blk hc hg h1 hb
theorem HtB.below {w w' : World} {B T m : Nat} {H : Option Addr} {l : List Int} (h : HtB w B T H m l) (hb : Below T w w') : HtB w' B T H m l :=
  ⟨h.1, h.2.imp id fun ⟨g, a, b, c, d⟩ => ⟨g, a, b, c, (hb.block g c).trans d⟩⟩
/-- one form of what Verify hands back -/
theorem VPost.one {w w' : World} {n : Nat} {r : Int × St} {e : Ending} (h : VPost w n r e w') (hb : r.1 = 0 → ∀ z ∈ r.2.hs, -9223372036854775808 ≤ z ∧ z ≤ 9223372036854775807) :
    Below w.heap.size w w' ∧ (∀ z ∈ htL r, -9223372036854775808 ≤ z ∧ z ≤ 9223372036854775807) ∧ (htL r).length ≤ n ∧ ∃ H T pk, e = .returned (.tuple #[.agg #[.slice H (htL r).length (htL r).length, .slice T (htL r).length (htL r).length, .int .i64 pk], .int .i64 r.1]) ∧ HtB w' w.heap.size w'.heap.size H (htL r).length (htL r) := by
  obtain ⟨h1, h2⟩ := h
  refine ⟨h1, ?_⟩
  rcases h2 with ⟨hne, rfl⟩ | ⟨hz, gh, gt, k1, k2, k3, rfl, k4, k5, k6, k7⟩
  · have e : htL r = [] := if_pos hne
    rw [e]
    exact ⟨(fun z hz => by cases hz), Nat.zero_le _, none, none, 0, rfl, ⟨rfl, .inl rfl⟩⟩
  · have e : htL r = r.2.hs := if_neg (by simp [hz])
    rw [e]
    exact ⟨hb hz, by omega, some ⟨gh, 0, none⟩, some ⟨gt, 0, none⟩, r.2.pk, (by rw [hz, k6]), ⟨rfl, .inr ⟨gh, rfl, k1, (Array.getElem?_eq_some_iff.1 k4).1, k4⟩⟩⟩
end Go.Proofs.Ytkmcjjoicpgjfaa
/-
  A program among the arguments: what is asked of it in memory and in size. No statement of the seat is proved here.
-/
namespace Go.Proofs.Ytkmcjjoicpgjfaa
open Go Go.RowKit Go.Sh Go.ChangeShapes Go.WideShapes Go.ChangeAt

theorem sizedPrg {H : Type} {ts : List TypeId} {ds : List (DataW H)} (hsz : ((DataW.weightsEach Try.prog ts ds).all fun x => decide (x ≤ reachBytes)) = true) {j : Nat} {d : DataW H} {p : Prg}
    (h1 : ts[j]? = some 27) (h2 : ds[j]? = some d) (hd : HasPrg d p) : Fit p :=
  fit_prg hd fun _ hx => of_decide_eq_true (List.all_eq_true.1 hsz _ (DataW.weights_mem_each h1 h2 _ hx))
theorem PR0.pr {w : World} {B : Nat} {d : Pad} {p : Prg} (h : PR0 w B d p) (hf : Fit p) : PR w B d p := by
  have a1 := h.code.len
  have a2 := h.msgs.len
  have a3 := h.rts.len
  have a4 := h.snds.len
  have f1 := hf.n1
  have f2 := hf.n2
  have f3 := hf.n3
  have f4 := hf.n4
  rw [List.length_map] at a1
  exact ⟨h.code, h.msgs, h.rts, h.snds, h.k1, h.k2, h.k3, h.k4, by omega, by omega, by omega, by omega⟩
end Go.Proofs.Ytkmcjjoicpgjfaa
/-
  The walk of shallotlaw19.VerifyKeeps: it returns true; nothing that was there has turned. Conditions: the sizes that slices can have.
-/
namespace Go.Proofs.Ytkmcjjoicpgjfaa
open Go Go.RowKit Go.Sh

set_option maxHeartbeats 8000000 in
set_option maxRecDepth 100000 in
theorem VerifyKeeps_walk (d : Pad) (p : Prg) (A : Option Addr) (n c : Nat) (ns : List Hp) (w : World) (hp : PR w w.heap.size d p) (hf : Fit p) (hr : RR w w.heap.size 66 A n (ns.map Hp.node)) (hok : ∀ h ∈ ns, h.OK) (hby : ∀ h ∈ ns, h.By) (hn : n * 88 ≤ 140737488351232) :
    Calls Try.prog 4 #[.agg (pcs d p), .slice A n c] w (fun e w' => e = .returned (.bool true) ∧ Below w.heap.size w w') := by
  have HF := Lib.hid hf
  have HOK := Lib.hid hok
  have HBY := Lib.hid hby
  have hz1 : (w.alloc (.cells (pcs d p) 27)).heap.size = w.heap.size + 1 := by simp
  have hb1 := (Below.refl w.heap.size w).alloc (Nat.le_refl _) (.cells (pcs d p) 27)
  have HB1 := Lib.hid hb1
  have HP1 := Lib.hid (hp.below hb1)
  have HR1 := Lib.hid (hr.below hb1)
  have HC1 := Lib.hid (show (w.alloc (.cells (pcs d p) 27)).heap[w.heap.size]? = some (.cells (pcs d p).toList.toArray 27 (0, 0)) from heap_alloc_new w _)
  have HI := Lib.hid (show (Try.prog.info? 27).map (·.size) = some (pcs d p).toList.length by
    obtain ⟨A1, n1, k1, A2, n2, k2, A3, n3, k3, A4, n4, k4⟩ := d
    obtain ⟨_, _, _, _, v, st, k, f⟩ := p
    kernel_rfl)
  have HPL := Lib.hid (show (pcs d p).toList.toArray = pcs d p from rfl)
  have HAW := Lib.hid (fun W : World => awake19_any W)
  have HTW := Lib.hid (fun (W : World) (B : Nat) (h : PR W B d p) (hB : B ≤ W.heap.size) => Twin_any d p W B h hB hf)
  have HSA := Lib.hid (fun (W : World) (d' : Pad) (B : Nat) (h1 : PR W B d' p) (h2 : PR W w.heap.size d p) (hB : B ≤ W.heap.size) (hB' : w.heap.size ≤ W.heap.size) => Same_eq d' d p W B w.heap.size h1 h2 hB hB' hf.ms (fun r hr => by have := hf.rs r hr; omega) (fun r hr => by have := hf.ss r hr; omega))
  have hps : (pcs d p).size = 8 := rfl
  clear hp hr hb1 hf hok hby
  obtain ⟨X, hX⟩ : ∃ X, pcs d p = X := ⟨_, rfl⟩
  rw [hX] at HB1 HP1 HR1 HC1 HI HPL HTW HSA hps hz1 ⊢
  have hxe : ¬ X = #[] := by intro h; rw [h] at hps; cases hps
  generalize X.toList = L at *
  have HX := Lib.hid hX
  clear hX
  go_enter Try.func4, Try.ntmps4
  go_wp2_with fail
  generalize w.alloc (.cells X 27) = w1 at *
  refine (HAW.out w1).mono ?_
  rintro e w2 ⟨rfl, hb2⟩
  rw [hz1] at hb2
  have HB2 := Lib.hid hb2
  have HC2 := Lib.hid (blk_range ((hb2.block w.heap.size (Nat.lt_succ_self _)).trans HC1.out))
  have HP2 := Lib.hid (HP1.out.below (hb2.mono (Nat.le_succ _)))
  have HR2 := Lib.hid (HR1.out.below (hb2.mono (Nat.le_succ _)))
  have hs2 := hb2.size
  clear hb2
  go_wp2_with (refine wl_load_mid (by rfl) 27 _ (by rfl) w.heap.size 0 (by rfl) L _ HC2.out Try.underlying27 rfl HI.out ?_; rw [HPL.out])
  refine (HTW.out w2 w.heap.size HP2.out (by omega)).mono ?_
  rintro e w3 ⟨d', rfl, hp3, hb3⟩
  have hs3 := hb3.size
  have HB3 := Lib.hid (HB2.out.trans (hb3.mono (by omega)))
  have HP3 := Lib.hid hp3
  have HR3 := Lib.hid (HR2.out.below (hb3.mono (by omega)))
  obtain ⟨Y, hY⟩ : ∃ Y, pcs d' p = Y := ⟨_, rfl⟩
  have hys : (pcs d' p).size = 8 := rfl
  rw [hY] at hys ⊢
  have hye : ¬ Y = #[] := by intro h; rw [h] at hys; cases hys
  have HY := Lib.hid hY
  have hbE := (Below.refl w3.heap.size w3).alloc (Nat.le_refl _) (.cells #[] 59)
  have HON := Lib.hid (show (w3.alloc (.cells #[] 59)).ownsRow w3.heap.size 59 66 (.slice (some ⟨w3.heap.size, 0, none⟩) 0 0) 0 [] from World.ownsRow_lit w3 #[] 0 (Nat.le_refl _) (by simp) rfl)
  have HCE := Lib.hid (RR.reads (HR3.out.below (hbE.mono (by omega))) (by decide))
  have hzE : (w3.alloc (.cells #[] 59)).heap.size = w3.heap.size + 1 := by simp
  have HBE := Lib.hid hbE
  have hone : ∀ u ∈ (ns.map Hp.node).flatten, u.oneCell' = true := flat_one fun cs hcs u hu => by
    obtain ⟨h, hh, rfl⟩ := List.mem_map.1 hcs
    exact Hp.node_one (HOK.out h hh) u hu
  have HONE := Lib.hid hone
  clear hp3 hb3 hY hbE hone HC2 HR2 HP2
  simp only
  go_wp2_with (at_builtin; refine wl_app TND (by rfl) (.tmp 17) (.tmp 18) (by rfl) (.slice (some ⟨w3.heap.size, 0, none⟩) 0 0) (by rfl) A n c (by rfl) w3.heap.size 0 [] HON.out w.heap.size _ HCE.out HONE.out ?a3 ?a4 ?a5 ?a6)
  case a3 => omega
  case a4 => omega
  case a5 => omega
  case a6 =>
    intro A4 c4 w4 hown hg _
    have hb4 := HBE.out.grown hg (by omega) (own_drop HON.out)
    have hs4 := hb4.size
    have HN4 := Lib.hid (RR.of_own hown (by have := HR3.out.len; exact this) (fun cs hcs => by obtain ⟨h, hh, rfl⟩ := List.mem_map.1 hcs; exact Hp.node_len (HOK.out h hh)))
    have HP4 := Lib.hid (HP3.out.below hb4)
    have HR4 := Lib.hid (HR3.out.below (hb4.mono (by omega)))
    have HB4 := Lib.hid (HB3.out.trans (hb4.mono (by omega)))
    have hzr : ∀ W : World, (zeroValue 27).run Try.prog W = .ok (.agg #[.slice none 0 0, .slice none 0 0, .slice none 0 0, .slice none 0 0, .int .i64 0, .int .i64 0, .int .i64 0, .int .i64 0]) W := fun _ => by kernel_rfl
    have HYE := Lib.hid (show Y = #[.slice d'.A1 d'.n1 d'.c1, .slice d'.A2 d'.n2 d'.c2, .slice d'.A3 d'.n3 d'.c3, .slice d'.A4 d'.n4 d'.c4, .int .i64 p.vars, .int .i64 p.stack, .int .i64 p.blocks, .int .i64 p.fuel] from HY.out.symm)
    clear hown hg hb4 HON HCE HBE HP3 HR3 HB3
    rw [HYE.out]
    go_wp2_with fail
    have hb5 := (Below.refl w4.heap.size w4).alloc (Nat.le_refl _) (.cells #[.slice d'.A1 d'.n1 d'.c1, .slice d'.A2 d'.n2 d'.c2, .slice d'.A3 d'.n3 d'.c3, .slice d'.A4 d'.n4 d'.c4, .int .i64 p.vars, .int .i64 p.stack, .int .i64 p.blocks, .int .i64 p.fuel] 27)
    have hz5 : (w4.alloc (.cells #[.slice d'.A1 d'.n1 d'.c1, .slice d'.A2 d'.n2 d'.c2, .slice d'.A3 d'.n3 d'.c3, .slice d'.A4 d'.n4 d'.c4, .int .i64 p.vars, .int .i64 p.stack, .int .i64 p.blocks, .int .i64 p.fuel] 27)).heap.size = w4.heap.size + 1 := by simp
    have HG5 := Lib.hid (heap_alloc_new w4 (.cells #[.slice d'.A1 d'.n1 d'.c1, .slice d'.A2 d'.n2 d'.c2, .slice d'.A3 d'.n3 d'.c3, .slice d'.A4 d'.n4 d'.c4, .int .i64 p.vars, .int .i64 p.stack, .int .i64 p.blocks, .int .i64 p.fuel] 27))
    have HP5 := Lib.hid ((HP4.out.more hs4).below hb5)
    have HN5 := Lib.hid (HN4.out.below hb5)
    have HR5 := Lib.hid (HR4.out.below (hb5.mono (by omega)))
    have HB5 := Lib.hid (HB4.out.trans (hb5.mono (by omega)))
    have HV := Lib.hid (fun (W : World) (h : PR W w4.heap.size d' p) (h2 : RR W w4.heap.size 66 A4 n (ns.map Hp.node)) (hB : w4.heap.size ≤ W.heap.size) => Verify_any d' p ns A4 n c4 W w4.heap.size h hB h2 HOK.out (by omega))
    have HBD := Lib.hid (fun h : (verP p ns).1 = 0 => verP_bounds h)
    generalize verP p ns = R at *
    generalize w4.alloc (.cells #[.slice d'.A1 d'.n1 d'.c1, .slice d'.A2 d'.n2 d'.c2, .slice d'.A3 d'.n3 d'.c3, .slice d'.A4 d'.n4 d'.c4, .int .i64 p.vars, .int .i64 p.stack, .int .i64 p.blocks, .int .i64 p.fuel] 27) = w5 at *
    refine (HV.out w5 HP5.out HN5.out (by omega)).mono ?_
    rintro e w6 hpost
    obtain ⟨hb6, hbd, hle, hrest⟩ := hpost.one HBD.out
    have HV2 := Lib.hid (fun (W : World) (h : PR W w4.heap.size d' p) (h2 : RR W w4.heap.size 66 A4 n (ns.map Hp.node)) (hB : w4.heap.size ≤ W.heap.size) => (HV.out W h h2 hB).mono fun e w' hh => hh.one HBD.out)
    clear hpost HV HBD
    obtain ⟨ls, hls⟩ : ∃ ls, htL R = ls := ⟨_, rfl⟩
    obtain ⟨e1, he1⟩ : ∃ e1, R.1 = e1 := ⟨_, rfl⟩
    rw [hls, he1] at HV2
    rw [hls] at hbd hle
    rw [hls, he1] at hrest
    obtain ⟨m, hm⟩ : ∃ m, ls.length = m := ⟨_, rfl⟩
    rw [hm] at HV2 hle hrest
    have HLM := Lib.hid hm
    obtain ⟨H, T, pk, rfl, hht⟩ := hrest
    have hm8 : m * 8 ≤ 140737488355328 := by have := HF.out.n1; omega
    have hm47 : m ≤ 140737488355328 := by omega
    have hz6 : (w6.alloc (.cells #[.slice H m m, .slice T m m, .int .i64 pk] 33)).heap.size = w6.heap.size + 1 := by simp
    have hs6 := hb6.size
    have HBD := Lib.hid hbd
    have HRI6 := Lib.hid (hht.ri hbd)
    have HHT6 := Lib.hid hht
    have HB6 := Lib.hid (HB5.out.trans (hb6.mono (by omega)))
    have HP6 := Lib.hid (HP5.out.below (hb6.mono (by omega)))
    have HN6 := Lib.hid (HN5.out.below (hb6.mono (by omega)))
    have HR6 := Lib.hid (HR5.out.below (hb6.mono (by omega)))
    have HG6 := Lib.hid ((hb6.block w4.heap.size (by omega)).trans HG5.out)
    clear hb6 hbd hht hls he1 hm HB5 HP5 HN5 HR5 HG5 HP4 HN4 HR4 HB4
    obtain ⟨hz7, hc7, hd7, hb7⟩ := two_new w6 (.cells #[.slice H m m, .slice T m m, .int .i64 pk] 33) (.cells #[] 3)
    have HON := Lib.hid (show ((w6.alloc (.cells #[.slice H m m, .slice T m m, .int .i64 pk] 33)).alloc (.cells #[] 3)).ownsRow (w6.heap.size + 1) 3 1 (.slice (some ⟨w6.heap.size + 1, 0, none⟩) 0 0) 0 [] from by
      have h := World.ownsRow_lit (w6.alloc (.cells #[.slice H m m, .slice T m m, .int .i64 pk] 33)) (e := 3) #[] 0 (size := 1) (Nat.le_refl _) (by simp) rfl
      rw [hz6] at h
      exact h)
    have HC7 := Lib.hid hc7
    have HB7 := Lib.hid hb7
    have rc0 : ((w6.alloc (.cells #[.slice H m m, .slice T m m, .int .i64 pk] 33)).alloc (.cells #[] 3)).cell? ⟨w6.heap.size, 0, none⟩ = some (.slice H m m) := by rw [blk_cell hc7]; rfl
    clear hc7 hd7 hb7
    simp only
    go_wp2_with (at_builtin; refine wl_app TIt (by rfl) (.tmp 26) (.tmp 28) (by rfl) (.slice (some ⟨w6.heap.size + 1, 0, none⟩) 0 0) (by rfl) H m m (by rfl) (w6.heap.size + 1) 0 [] HON.out w6.heap.size (iv ls) (HRI6.out.below HB7.out).1 (iv_one ls) ?b3 ?b4 ?b5 ?b6)
    case b3 => omega
    case b4 => omega
    case b5 => omega
    case b6 =>
      intro A8 c8 w8 hown8 hg8 _
      have hb8 : Below (w6.heap.size + 1) ((w6.alloc (.cells #[.slice H m m, .slice T m m, .int .i64 pk] 33)).alloc (.cells #[] 3)) w8 := (Below.refl _ _).grown hg8 (by omega) (by simp [Value.ownBlock])
      have hs8 := hb8.size
      have hb68 := HB7.out.trans (hb8.mono (Nat.le_succ _))
      have hs68 : w6.heap.size ≤ w8.heap.size := hb68.size
      have HO8 := Lib.hid (show w8.ownsRow (w6.heap.size + 1) 3 1 (.slice A8 m c8) m (iv ls) by simpa using hown8)
      have HC8 := Lib.hid ((hb8.block w6.heap.size (Nat.lt_succ_self _)).trans HC7.out)
      have HHT8 := Lib.hid (HHT6.out.below hb68)
      have HB8 := Lib.hid (HB6.out.trans (hb68.mono (by omega)))
      have HP8 := Lib.hid (HP6.out.below (hb68.mono (by omega)))
      have HN8 := Lib.hid (HN6.out.below (hb68.mono (by omega)))
      have HG8 := Lib.hid ((hb68.block w4.heap.size (by omega)).trans HG6.out)
      have c0 : w8.cell? ⟨w6.heap.size, 0, none⟩ = some (.slice H m m) := by rw [blk_cell HC8.out]; rfl
      clear hown8 hg8 hb8 hb68 HON HC7 HB7 rc0 HRI6 HHT6 HB6 HP6 HN6 HR6 HG6
      go_wp2_with fail
      go_loopw [10, 33] (fun _ i wr => ∃ (k : Nat) (l2 : List Int), k ≤ m ∧ i = .int .i64 (k : Int) ∧ HtB wr w5.heap.size w6.heap.size H m l2 ∧ Below w5.heap.size w8 wr ∧ (∀ b, w6.heap.size ≤ b → wr.heap[b]? = w8.heap[b]?)) (fun _ i _ => m - (intOf i).toNat)
      case' atStart => exact ⟨0, ls, by omega, rfl, HHT8.out, Below.refl _ _, fun _ _ => rfl⟩
      case' round =>
        obtain ⟨k, l2, hk, rfl, hht, hbr, hfar⟩ := hrel
        have HF9 := Lib.hid hfar
        have HC9 := Lib.hid ((hfar w6.heap.size (Nat.le_refl _)).trans HC8.out)
        have HB9 := Lib.hid hbr
        clear hfar hbr c0
        have c0 : wr.cell? ⟨w6.heap.size, 0, none⟩ = some (.slice H m m) := by rw [blk_cell HC9.out]; rfl
        by_cases hlt : k < m
        · obtain ⟨hl2, hht⟩ := hht
          obtain ⟨g, rfl, hg1, hg2, hgc⟩ := hht.resolve_left (by omega)
          have dk : (k : Int) < (m : Int) := by omega
          have ck : wr.cell? ⟨g, k, none⟩ = some (.int .i64 (it l2 k)) := by rw [blk_cell hgc, List.getElem?_toArray, iv_at' _ (by omega)]
          have fk : wr.frozen? ⟨g, k, none⟩ = false := frozen_of_row _ _ _ _ _ hgc
          have HGC := Lib.hid hgc
          have HL2 := Lib.hid hl2
          clear hgc hl2 hht
          go_wp2_with fail
          refine ⟨⟨k + 1, l2.set k 99, by omega, by go_num, ⟨by rw [List.length_set]; exact HL2.out, .inr ⟨g, rfl, hg1, hg2, ?_⟩⟩, HB9.out.setCell (p := ⟨g, k, none⟩) hg1 _, fun b hb => ?_⟩, by simp [intOf]; omega⟩
          · rw [set_blk HGC.out, iv_set]
          · rw [far_blk (show b ≠ g by omega)]
            exact HF9.out b hb
        · obtain rfl : k = m := by omega
          have HO9 := Lib.hid (own_same HO8.out fun b hb => HF9.out b (by omega))
          have HRI9 := Lib.hid (RI.of_own HO9.out HBD.out)
          have hs9 := HB9.out.size
          have HB0 := Lib.hid (HB8.out.trans (HB9.out.mono (by omega)))
          have HP9 := Lib.hid (HP8.out.below (HB9.out.mono (by omega)))
          have HN9 := Lib.hid (HN8.out.below (HB9.out.mono (by omega)))
          have HG9 := Lib.hid ((HB9.out.block w4.heap.size (by omega)).trans HG8.out)
          clear hht HO8 HO9 HC8 HHT8 HB8 HP8 HN8 HG8 c0 HB9 HC9 HF9
          have HRG := Lib.hid (blk_range HG9.out)
          have HI2 := Lib.hid (show (Try.prog.info? 27).map (·.size) = some ([.slice d'.A1 d'.n1 d'.c1, .slice d'.A2 d'.n2 d'.c2, .slice d'.A3 d'.n3 d'.c3, .slice d'.A4 d'.n4 d'.c4, .int .i64 p.vars, .int .i64 p.stack, .int .i64 p.blocks, .int .i64 p.fuel] : List Value).length by kernel_rfl)
          clear hlt hk hs8 hz7 hz6
          go_wp2_with (refine wl_load_mid (by rfl) 27 _ (by rfl) w4.heap.size 0 (by rfl) [.slice d'.A1 d'.n1 d'.c1, .slice d'.A2 d'.n2 d'.c2, .slice d'.A3 d'.n3 d'.c3, .slice d'.A4 d'.n4 d'.c4, .int .i64 p.vars, .int .i64 p.stack, .int .i64 p.blocks, .int .i64 p.fuel] _ HRG.out Try.underlying27 rfl HI2.out ?_)
          refine (HV2.out wr HP9.out HN9.out (by omega)).mono ?_
          rintro e w10 ⟨hb10, _, _, H2, T2, pk2, rfl, hht2⟩
          have hb11 := (Below.refl w10.heap.size w10).alloc (Nat.le_refl _) (.cells #[.slice H2 k k, .slice T2 k k, .int .i64 pk2] 33)
          have hc11 := heap_alloc_new w10 (.cells #[.slice H2 k k, .slice T2 k k, .int .i64 pk2] 33)
          have hz11 : (w10.alloc (.cells #[.slice H2 k k, .slice T2 k k, .int .i64 pk2] 33)).heap.size = w10.heap.size + 1 := by simp
          have hs10 := hb10.size
          have hb := hb10.trans (hb11.mono hs10)
          have HRI11 := Lib.hid ((hht2.ri HBD.out).below hb11)
          have HRI9b := Lib.hid (HRI9.out.below hb)
          have HB11 := Lib.hid (HB0.out.trans (hb.mono (by omega)))
          have HP11 := Lib.hid (HP9.out.below (hb.mono (by omega)))
          have HN11 := Lib.hid (HN9.out.below (hb.mono (by omega)))
          have HG11 := Lib.hid ((hb.block w4.heap.size (by omega)).trans HG9.out)
          have c0 : (w10.alloc (.cells #[.slice H2 k k, .slice T2 k k, .int .i64 pk2] 33)).cell? ⟨w10.heap.size, 0, none⟩ = some (.slice H2 k k) := by rw [blk_cell hc11]; rfl
          clear hb10 hht2 hb11 hc11 hb HRG HB0 HP9 HN9 HG9 HRI9
          have q0 : (e1 == e1) = true := by simp
          simp only
          go_wp2_with fail
          refine (SameInts_eq H2 A8 k k c8 ls _ _ _ HRI11.out HRI9b.out hm47).mono ?_
          rintro e w12 ⟨rfl, q12, rfl⟩
          have HB12 := Lib.hid (below_drewN HB11.out q12)
          have hs12 : w10.heap.size + 1 = ((w10.alloc (.cells #[.slice H2 k k, .slice T2 k k, .int .i64 pk2] 33)).drewN q12).heap.size := hz11.symm
          have HP12 := Lib.hid (HP11.out.below (below_drewN (Below.refl _ _) q12))
          have HN12 := Lib.hid (HN11.out.below (below_drewN (Below.refl _ _) q12))
          have HRG := Lib.hid (blk_range (show ((w10.alloc (.cells #[.slice H2 k k, .slice T2 k k, .int .i64 pk2] 33)).drewN q12).heap[w4.heap.size]? = _ from HG11.out))
          have HPO := Lib.hid (HP1.out.below (HB12.out.mono (Nat.le_succ _)))
          have HRO := Lib.hid (HR1.out.below (HB12.out.mono (Nat.le_succ _)))
          have HRC := Lib.hid (blk_range ((HB12.out.block w.heap.size (Nat.lt_succ_self _)).trans HC1.out))
          clear HB11 HP11 HN11 HG11 HRI11 HRI9b c0 hz11 q0
          generalize (w10.alloc (.cells #[.slice H2 k k, .slice T2 k k, .int .i64 pk2] 33)).drewN q12 = w12 at *
          go_wp2_with (first | (refine wl_load_mid (by rfl) 27 _ (by rfl) w4.heap.size 0 (by rfl) [.slice d'.A1 d'.n1 d'.c1, .slice d'.A2 d'.n2 d'.c2, .slice d'.A3 d'.n3 d'.c3, .slice d'.A4 d'.n4 d'.c4, .int .i64 p.vars, .int .i64 p.stack, .int .i64 p.blocks, .int .i64 p.fuel] _ HRG.out Try.underlying27 rfl HI2.out ?_) | (refine wl_load_mid (by rfl) 27 _ (by rfl) w.heap.size 0 (by rfl) L _ HRC.out Try.underlying27 rfl HI.out ?_; rw [HPL.out]))
          refine (HSA.out w12 d' w4.heap.size HP12.out HPO.out (by omega) (by omega)).mono ?_
          rintro e w13 ⟨rfl, hb13⟩
          have HB13 := Lib.hid (HB12.out.trans (hb13.mono (by omega)))
          have HN13 := Lib.hid (HN12.out.below (hb13.mono (by omega)))
          have HRO13 := Lib.hid (HRO.out.below (hb13.mono (by omega)))
          clear hb13 HRG HRC
          go_wp2_with fail
          refine (SameN_any A4 A n c4 c ns w13 _ _ HN13.out HRO13.out HOK.out HBY.out (by omega)).mono ?_
          rintro e w14 ⟨rfl, q14, rfl⟩
          have HBF := Lib.hid (below_drewN (HB1.out.trans (HB13.out.mono (Nat.le_succ _))) q14)
          go_wp2_with fail
          go_ret
          exact ⟨rfl, HBF.out⟩
end Go.Proofs.Ytkmcjjoicpgjfaa
namespace Go.Proofs.Ytkmcjjoicpgjfaa.verifyKeeps
open Go Go.Sh Go.ChangeShapes Go.WideShapes Go.ChangeAt Go.RowKit
open Go.ChangeMaps (open_string shut_string)

set_option maxRecDepth 100000 in
theorem own : ownKnob Try.prog.godebug = none := by kernel_rfl
set_option maxRecDepth 100000 in
theorem laidOut : laidOutB Try.prog = true := by kernel_rfl

set_option maxRecDepth 100000 in
theorem lifted (os : Os) (started : os.Started) (H : Type) (enc : TypeId × Value → H) :
    ReturnsInHanded {} Try.checked os 4 .any (Rows.verifyKeepsSpec.pre6 enc Try.prog Try.f4 Rows.verifyKeepsRow.domain false) (Rows.verifyKeepsSpec.post enc Try.prog Try.f4 false true false false) := by
  refine returnsInHanded_of_change_sized (C := Try.checked) own started (by kernel_rfl) Try.func4
    (ChangeSpec.witness6 (enc := enc) (C := Try.checked) false ⟨#[], #[.agg #[.slice none 0 0, .slice none 0 0, .slice none 0 0, .slice none 0 0, .int .i64 0, .int .i64 0, .int .i64 0, .int .i64 0], .slice none 0 0], []⟩ 8 (by kernel_rfl) (by kernel_rfl) (by kernel_rfl) (by kernel_rfl)) ?_
  intro W base args ds gs before hval0 hW hcnd hsz0 _
  have hval : ∀ (j : Nat) t v, Try.f4.params[j]? = some t → args[j]? = some v → Value.okWide Try.prog W .any base t v := hval0
  have hsz : (DataW.weightsEach Try.prog (Try.f4.params.toList ++ Rows.verifyKeepsSpec.plain.varTypes Try.prog) (ds ++ gs)).all (· ≤ reachBytes) = true := hsz0
  have hW' := hW
  obtain ⟨p, q, hA0, hV, rfl, hfz, hnd⟩ := hW
  have hA : DataW.TrodAll enc Try.prog W 0 (fun _ => true) true Try.f4.params.toList args.toList ds p := hA0
  rw [Try.params4] at hA hval hsz
  obtain ⟨v0, vs0, d0, ds0, p0, q0, hargs, rfl, rfl, h0, r0⟩ := trodAll_cons hA
  obtain ⟨v1, vs1, d1, ds1, p1, q1, rfl, rfl, rfl, h1, r1⟩ := trodAll_cons r0
  obtain ⟨rfl, rfl, rfl⟩ := trodAll_nil r1
  obtain rfl : args = #[v0, v1] := by cases args; simp_all
  obtain ⟨rfl, rfl⟩ := trodVars_none hV
  have k0 := h0
  have lt0 : ∀ x ∈ p0, x.block < W.heap.size := by obtain ⟨m, hm⟩ := k0; exact DataW.trod_lt m _ _ _ hm
  obtain ⟨pd0, pg0, rfl, rp0, hp0⟩ := openPrg (hval 0 27 v0 rfl rfl) h0
  have ft0 : Fit pg0 := sizedPrg hsz (j := 0) rfl rfl hp0
  have k1 := h1
  have lt1 : ∀ x ∈ p1, x.block < W.heap.size := by obtain ⟨m, hm⟩ := k1; exact DataW.trod_lt m _ _ _ hm
  obtain ⟨A1, n1, c1, hs1, rfl, oks1, bys1, rr1, nc1, hl1⟩ := openNodesB (hval 1 28 v1 rfl rfl) h1
  have bd1 : n1 * 88 ≤ 140737488351232 := sizedBy hsz (j := 1) (t := 28) rfl rfl Try.underlying28 (of_decide_eq_true (by kernel_rfl)) hl1
  clear hA0 hval0
  refine (VerifyKeeps_walk pd0 pg0 A1 n1 c1 hs1 W (rp0.pr ft0) ft0 rr1 oks1 bys1 bd1).mono fun e W' ⟨he, bel⟩ => ?_
  subst he
  exact ⟨_, rfl, _, _, _, [], _, [], hW', trodAll_mk1 (shut_bool Try.underlying4 _), (trodAll_cons_mk (Below.trod laidOut (by kernel_rfl) (of_decide_eq_true (by kernel_rfl)) k0 bel lt0) (trodAll_cons_mk (Below.trod laidOut (by kernel_rfl) (of_decide_eq_true (by kernel_rfl)) k1 bel lt1) trodAll_mk0)), rfl, bel.frame _, fun h => by cases h⟩

set_option maxRecDepth 100000 in
theorem proved : Rows.VerifyKeepsSaid :=
  OpenClaim.holds_of_wide 4 Try.f4 rfl rfl rfl rfl rfl rfl rfl ⟨rfl, rfl, rfl, rfl, rfl⟩ rfl rfl rfl rfl rfl (by kernel_rfl) Try.func4 (by kernel_rfl)
    (of_decide_eq_true (by kernel_rfl)) (by unfold Func.isWrapper; first | (rw [if_pos (by decide +kernel)]; kernel_rfl) | (rw [if_neg (by decide +kernel)]; exact ⟨rfl, rfl⟩))
    (fun os started H enc _ => lifted os started H enc)
#print axioms proved
end Go.Proofs.Ytkmcjjoicpgjfaa.verifyKeeps
