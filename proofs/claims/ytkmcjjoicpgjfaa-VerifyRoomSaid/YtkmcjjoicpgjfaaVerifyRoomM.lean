/-
  shallot: VerifyRoomSaid is proved: for every input the law returns true, and each argument reads afterwards as it read before. Conditions: none but the statement's own.
-/
import Derived.Test.YtkmcjjoicpgjfaaVerTwin
import Derived.Test.YtkmcjjoicpgjfaaEqs
import Derived.Test.YtkmcjjoicpgjfaaOpen
import Derived.Test.YtkmcjjoicpgjfaaDirRoute
import Derived.Test.YtkmcjjoicpgjfaaVerPlain
import Derived.Test.YtkmcjjoicpgjfaaRows
/-
  Two nodes that are the same are told equal by '=='. Conditions: the fields fit their types.
-/
namespace Go.Proofs.Ytkmcjjoicpgjfaa
open Go Go.RowKit Go.Sh

/-- the keys of a node are bytes, its name is no longer than a string can be -/
def Hp.By (h : Hp) : Prop := ∃ m r : List Int, m.length = 32 ∧ r.length = 32 ∧ (∀ y ∈ m, 0 ≤ y ∧ y < 256) ∧ (∀ y ∈ r, 0 ≤ y ∧ y < 256) ∧ h.ks = m.map (Value.int .u8) ++ r.map (Value.int .u8) ∧ h.nm.size ≤ maxLen
theorem list32i {l : List Int} (h : l.length = 32) : ∃ m0 m1 m2 m3 m4 m5 m6 m7 m8 m9 m10 m11 m12 m13 m14 m15 m16 m17 m18 m19 m20 m21 m22 m23 m24 m25 m26 m27 m28 m29 m30 m31, l = [m0, m1, m2, m3, m4, m5, m6, m7, m8, m9, m10, m11, m12, m13, m14, m15, m16, m17, m18, m19, m20, m21, m22, m23, m24, m25, m26, m27, m28, m29, m30, m31] := by
  match l, h with
  | [m0, m1, m2, m3, m4, m5, m6, m7, m8, m9, m10, m11, m12, m13, m14, m15, m16, m17, m18, m19, m20, m21, m22, m23, m24, m25, m26, m27, m28, m29, m30, m31], _ => exact ⟨m0, m1, m2, m3, m4, m5, m6, m7, m8, m9, m10, m11, m12, m13, m14, m15, m16, m17, m18, m19, m20, m21, m22, m23, m24, m25, m26, m27, m28, m29, m30, m31, rfl⟩
theorem wf_8 {x : Int} (h : 0 ≤ x ∧ x < 256) : (Lit.int .u8 x).wf = true := by
  simp [Lit.wf, IntKind.min, IntKind.max, IntKind.signed, IntKind.bits]
  omega
theorem wf_64 {x : Int} (h : 0 ≤ x ∧ x < 18446744073709551616) : (Lit.int .u64 x).wf = true := by
  simp [Lit.wf, IntKind.min, IntKind.max, IntKind.signed, IntKind.bits]
  omega
set_option maxRecDepth 100000 in
theorem c32 : Try.prog.cellsOf 57 = 32 := by kernel_rfl
set_option maxRecDepth 100000 in
theorem c1 : Try.prog.cellsOf 5 = 1 := by kernel_rfl
set_option maxRecDepth 100000 in
theorem c8 : Try.prog.cellsOf 56 = 1 := by kernel_rfl
set_option maxRecDepth 100000 in
theorem cstr : Try.prog.cellsOf 9 = 1 := by kernel_rfl
set_option maxRecDepth 100000 in
theorem cnode : Try.prog.cellsOf 59 = 66 := by kernel_rfl
set_option maxRecDepth 100000 in
set_option maxHeartbeats 4000000 in
theorem arr32_lits (m : List Int) (h : m.length = 32) (hb : ∀ y ∈ m, 0 ≤ y ∧ y < 256) : Try.prog.keyLits 2 57 (m.map (Value.int .u8)) = some (m.map (Lit.int .u8)) := by
  obtain ⟨m0, m1, m2, m3, m4, m5, m6, m7, m8, m9, m10, m11, m12, m13, m14, m15, m16, m17, m18, m19, m20, m21, m22, m23, m24, m25, m26, m27, m28, m29, m30, m31, rfl⟩ := list32i h
  have r32 : List.range 32 = [0, 1, 2, 3, 4, 5, 6, 7, 8, 9, 10, 11, 12, 13, 14, 15, 16, 17, 18, 19, 20, 21, 22, 23, 24, 25, 26, 27, 28, 29, 30, 31] := rfl
  simp only [List.mem_cons, List.not_mem_nil, or_false, forall_eq_or_imp, forall_eq] at hb
  obtain ⟨q0, q1, q2, q3, q4, q5, q6, q7, q8, q9, q10, q11, q12, q13, q14, q15, q16, q17, q18, q19, q20, q21, q22, q23, q24, q25, q26, q27, q28, q29, q30, q31⟩ := hb
  simp [Program.keyLits, Try.underlying57, Try.underlying5, c32, c1, r32, wf_8 q0, wf_8 q1, wf_8 q2, wf_8 q3, wf_8 q4, wf_8 q5, wf_8 q6, wf_8 q7, wf_8 q8, wf_8 q9, wf_8 q10, wf_8 q11, wf_8 q12, wf_8 q13, wf_8 q14, wf_8 q15, wf_8 q16, wf_8 q17, wf_8 q18, wf_8 q19, wf_8 q20, wf_8 q21, wf_8 q22, wf_8 q23, wf_8 q24, wf_8 q25, wf_8 q26, wf_8 q27, wf_8 q28, wf_8 q29, wf_8 q30, wf_8 q31]
theorem node_formed (h : Hp) (ok : h.OK) : (Value.agg h.node.toArray).formed Try.prog 59 = true := by
  simp [Value.formed, Try.underlying59, cnode, Hp.node_len ok]
set_option maxRecDepth 100000 in
set_option maxHeartbeats 4000000 in
theorem node_lits (h : Hp) (ok : h.OK) (m r : List Int) (hm : m.length = 32) (hr : r.length = 32) (hb : ∀ y ∈ m, 0 ≤ y ∧ y < 256) (hb' : ∀ y ∈ r, 0 ≤ y ∧ y < 256) (hk : h.ks = m.map (Value.int .u8) ++ r.map (Value.int .u8)) (hn : h.nm.size ≤ maxLen) :
    Try.prog.keyLits 3 59 (Value.agg h.node.toArray).cells.toList = some (.string h.nm.data.toList :: .int .u64 h.id :: (m.map (Lit.int .u8) ++ r.map (Lit.int .u8))) := by
  have e1 := arr32_lits m hm hb
  have e2 := arr32_lits r hr hb'
  have hl : h.node.length = 66 := Hp.node_len ok
  have t1 : List.take 32 (m.map (Value.int .u8) ++ r.map (Value.int .u8)) = m.map (Value.int .u8) := List.take_left' (by simp [hm])
  have t2 : List.take 32 (List.drop 32 (m.map (Value.int .u8) ++ r.map (Value.int .u8))) = r.map (Value.int .u8) := by
    rw [List.drop_left' (by simp [hm]), List.take_of_length_le (by simp [hr])]
  have hcs : (Value.agg h.node.toArray).cells.toList = .string h.nm :: .int .u64 h.id :: (m.map (Value.int .u8) ++ r.map (Value.int .u8)) := by
    show h.node = _
    rw [Hp.node, hk]
  have hw := wf_64 ok.id
  rw [hcs]
  have hlen : (Value.string h.nm :: Value.int .u64 h.id :: (m.map (Value.int .u8) ++ r.map (Value.int .u8))).length = 66 := by simp [hm, hr]
  generalize m.map (Value.int .u8) ++ r.map (Value.int .u8) = ks at *
  unfold Program.keyLits
  simp only [Try.underlying59]
  rw [if_pos ⟨by rw [hlen, cnode], by kernel_rfl⟩]
  have e3 : Try.prog.keyLits 2 9 [.string h.nm] = some [.string h.nm.data.toList] := by
    simp [Program.keyLits, Try.underlying9, hn]
  have e4 : Try.prog.keyLits 2 56 [.int .u64 h.id] = some [.int .u64 h.id] := by
    simp [Program.keyLits, Try.underlying56, hw]
  simp [c32, c8, cstr, e1, e2, e3, e4, t1, t2]
set_option maxRecDepth 100000 in
theorem node_same (h : Hp) (ok : h.OK) (hby : h.By) (w : World) : (Op.equalIn 10000 59 (.agg h.node.toArray) (.agg h.node.toArray)).run Try.prog w = .ok true w := by
  obtain ⟨m, r, hm, hr, hb, hb', hk, hn⟩ := hby
  exact equalIn_keys (P := Try.prog) (t := 59) (m := 3) (by kernel_rfl) 10000 (by omega) (node_formed h ok) (node_formed h ok) (node_lits h ok m r hm hr hb hb' hk hn) (node_lits h ok m r hm hr hb hb' hk hn) _ (by simp) w
set_option maxHeartbeats 2000000 in
set_option maxRecDepth 100000 in
theorem SameN_any (A A' : Option Addr) (n c c' : Nat) (ns : List Hp) (w : World) (B B' : Nat) (hl : RR w B 66 A n (ns.map Hp.node)) (hr : RR w B' 66 A' n (ns.map Hp.node)) (hok : ∀ h ∈ ns, h.OK) (hby : ∀ h ∈ ns, h.By) (hn : n ≤ 140737488355328) :
    Calls Try.prog 13 #[.slice A n c, .slice A' n c'] w (OnlyTrue w) := by
  have hlen : ns.length = n := by have := hl.len; rw [List.length_map] at this; exact this
  have HL := Lib.hid hl
  have HR := Lib.hid hr
  clear hl hr
  have dnn : ((n : Int) != (n : Int)) = false := by simp
  go_enter Try.func13, Try.ntmps13
  go_wp2_with fail
  go_loopw [5] (fun i wr => ∃ k d : Nat, k ≤ n ∧ i = .int .i64 (k : Int) ∧ wr = w.drewN d) (fun i _ => n - (intOf i).toNat)
  case atStart => exact ⟨0, 0, by omega, rfl, rfl⟩
  case round =>
    obtain ⟨k, d, hk, rfl, rfl⟩ := hrel
    by_cases hlt : k < n
    · obtain ⟨b, off, rfl, _, _, _, hrg⟩ := node_at HL.out hlt
      obtain ⟨b', off', rfl, _, _, _, hrg'⟩ := node_at HR.out hlt
      have hok := hok _ (hat_mem (hs := ns) (k := k) (by rw [hlen]; exact hlt))
      have hby := hby _ (hat_mem (hs := ns) (k := k) (by rw [hlen]; exact hlt))
      generalize hat ns k = e at *
      have HI := Lib.hid (show (Try.prog.info? 59).map (·.size) = some e.node.length by rw [Hp.node_len hok]; exact info_anode)
      have heq := node_same e hok hby
      have hki : (k : Int) < (n : Int) := by omega
      go_wp2_with fail
      refine wp_region_held_drew (S := (fun w' => w'.rangeAt b (off + k * 66) e.node ∧ w'.rangeAt b' (off' + k * 66) e.node)) (by kernel_rfl) ?_ (fun hHeld => ?_)
      · (try dsimp only)
        exact ⟨hrg, hrg'⟩
      refine wpAnyH_take (i := 0) (v := ?v1) rfl (by kernel_rfl) (by kernel_rfl) (by kernel_rfl) (fun _ _ _ h => h) (Or.inl ⟨by rfl, ?y1⟩) (by assumption) ?r1
      case y1 => (intro w hSw; (try dsimp only at hSw); first | (go_simp; done) | (go_simp; with_reducible rfl))
      (try simp only [List.getElem_toArray, List.getElem_cons_zero, Act.put, List.setIfInBounds_toArray, List.set_cons_zero, List.set_cons_succ])
      refine wpAnyH_take (i := 1) (v := ?v2) rfl (by kernel_rfl) (by kernel_rfl) (by kernel_rfl) (fun _ _ _ h => h) (Or.inl ⟨by rfl, ?y2⟩) (by assumption) ?r2
      case y2 => (intro w hSw; (try dsimp only at hSw); first | (go_simp; done) | (go_simp; with_reducible rfl))
      (try simp only [List.getElem_toArray, List.getElem_cons_zero, List.getElem_cons_succ, Act.put, List.setIfInBounds_toArray, List.set_cons_zero, List.set_cons_succ])
      refine wpAnyH_take (i := 2) (v := ?v3) rfl (by kernel_rfl) (by kernel_rfl) (by kernel_rfl) (fun _ _ _ h => h) (Or.inl ⟨by rfl, ?y3⟩) (by assumption) ?r3
      case y3 => (intro w hSw; (try dsimp only at hSw); first | (go_simp; done) | (go_simp; with_reducible rfl))
      (try simp only [List.getElem_toArray, List.getElem_cons_zero, List.getElem_cons_succ, Act.put, List.setIfInBounds_toArray, List.set_cons_zero, List.set_cons_succ])
      refine wpAnyH_take (i := 3) rfl (by kernel_rfl) (by kernel_rfl) (by kernel_rfl) (fun _ _ _ h => h) (yieldsIf_load_mid (by rfl) 59 _ rfl b (off + k * 66) rfl e.node _ (fun w hSw => hSw.1) Try.underlying59 rfl HI.out) (by assumption) ?_
      (try simp only [List.getElem_toArray, List.getElem_cons_zero, List.getElem_cons_succ, Act.put, List.setIfInBounds_toArray, List.set_cons_zero, List.set_cons_succ])
      refine wpAnyH_take (i := 4) (v := ?v5) rfl (by kernel_rfl) (by kernel_rfl) (by kernel_rfl) (fun _ _ _ h => h) (Or.inl ⟨by rfl, ?y5⟩) (by assumption) ?r5
      case y5 => (intro w hSw; (try dsimp only at hSw); first | (go_simp; done) | (go_simp; with_reducible rfl))
      (try simp only [List.getElem_toArray, List.getElem_cons_zero, List.getElem_cons_succ, Act.put, List.setIfInBounds_toArray, List.set_cons_zero, List.set_cons_succ])
      refine wpAnyH_take (i := 5) (v := ?v6) rfl (by kernel_rfl) (by kernel_rfl) (by kernel_rfl) (fun _ _ _ h => h) (Or.inl ⟨by rfl, ?y6⟩) (by assumption) ?r6
      case y6 => (intro w hSw; (try dsimp only at hSw); first | (go_simp; done) | (go_simp; with_reducible rfl))
      (try simp only [List.getElem_toArray, List.getElem_cons_zero, List.getElem_cons_succ, Act.put, List.setIfInBounds_toArray, List.set_cons_zero, List.set_cons_succ])
      refine wpAnyH_take (i := 6) (v := ?v7) rfl (by kernel_rfl) (by kernel_rfl) (by kernel_rfl) (fun _ _ _ h => h) (Or.inl ⟨by rfl, ?y7⟩) (by assumption) ?r7
      case y7 => (intro w hSw; (try dsimp only at hSw); first | (go_simp; done) | (go_simp; with_reducible rfl))
      (try simp only [List.getElem_toArray, List.getElem_cons_zero, List.getElem_cons_succ, Act.put, List.setIfInBounds_toArray, List.set_cons_zero, List.set_cons_succ])
      refine wpAnyH_take (i := 7) rfl (by kernel_rfl) (by kernel_rfl) (by kernel_rfl) (fun _ _ _ h => h) (yieldsIf_load_mid (by rfl) 59 _ rfl b' (off' + k * 66) rfl e.node _ (fun w hSw => hSw.2) Try.underlying59 rfl HI.out) (by assumption) ?_
      (try simp only [List.getElem_toArray, List.getElem_cons_zero, List.getElem_cons_succ, Act.put, List.setIfInBounds_toArray, List.set_cons_zero, List.set_cons_succ])
      refine wpAnyH_take (i := 8) (v := ?v9) rfl (by kernel_rfl) (by kernel_rfl) (by kernel_rfl) (fun _ _ _ h => h) (Or.inl ⟨by rfl, ?y9⟩) (by assumption) ?r9
      case y9 => (intro w hSw; (try dsimp only at hSw); first | (go_simp; done) | (go_simp; with_reducible rfl))
      (try simp only [List.getElem_toArray, List.getElem_cons_zero, List.getElem_cons_succ, Act.put, List.setIfInBounds_toArray, List.set_cons_zero, List.set_cons_succ])
      refine wpAnyH_done (by kernel_rfl) ?_ _
      go_wp2_with fail
      exact ⟨⟨k + 1, d + 1, by omega, by go_num, rfl⟩, by simp [intOf]; omega⟩
    · go_wp2_with fail
      go_ret
      exact ⟨rfl, d, rfl⟩
end Go.Proofs.Ytkmcjjoicpgjfaa
/-
  Sizes of slices that came in: so many elements, each so many bytes. No statement of the seat is proved here.
-/
namespace Go.Sh
open Go Go.ChangeShapes Go.WideShapes Go.ChangeAt Go.RowKit

/-- n elements of k bytes each are within what a program can reach -/
theorem sizedBy {H : Type} {P : Program} {ts : List TypeId} {ds : List (DataW H)} (hsz : ((DataW.weightsEach P ts ds).all fun x => decide (x ≤ reachBytes)) = true) {j : Nat} {t e : TypeId} {d : DataW H} {n k : Nat}
    (h1 : ts[j]? = some t) (h2 : ds[j]? = some d) (ht : P.underlying t = some (.slice e)) (hb : k ≤ P.bytesOf e) (hd : HasLen d n) : n * k ≤ 140737488351232 := by
  rcases hd with ⟨_, rfl⟩ | ⟨es, sp, rfl, hl⟩
  · omega
  · have := sized_slice hsz h1 h2 ht
    have h3 : n * k ≤ (es.length + sp.length) * P.bytesOf e := Nat.mul_le_mul (by omega) hb
    simp only [reachBytes] at this
    omega
end Go.Sh
/-
  Nodes and stops among the arguments. No statement of the seat is proved here.
-/
namespace Go.Proofs.Ytkmcjjoicpgjfaa
open Go Go.RowKit Go.Sh Go.ChangeShapes Go.WideShapes Go.ChangeAt

set_option maxRecDepth 100000 in
/-- nodes that came in -/
theorem openNodes {H : Type} {enc : TypeId × Value → H} {W : World} {b0 : Nat} {r : Reach} {v : Value} {d : DataW H} {p : List MemPlace}
    (hok : Value.okWide Try.prog W r b0 28 v) (h : DataW.Trod enc Try.prog W 0 (fun _ => true) true 28 v d p) : ∃ (A : Option Addr) (n c : Nat) (hs : List Hp), v = .slice A n c ∧ (∀ h ∈ hs, h.OK) ∧ RR W W.heap.size 66 A n (hs.map Hp.node) ∧ n ≤ c ∧ HasLen d n := by
  obtain ⟨A, n, c, rfl⟩ := okWide_slice Try.underlying28 hok
  obtain ⟨fuel, hf⟩ := h
  rcases Go.Deep.open_slice Try.underlying28 hf with ⟨hcs, hx⟩ | ⟨a, n', c', m, q, D, Pl, hcs, _, hl, _, hm, hx, hi⟩
  · simp [Value.cells] at hcs
    obtain ⟨rfl, rfl, rfl⟩ := hcs
    injection hx with hd _
    exact ⟨none, 0, 0, [], rfl, (fun _ h => by cases h), ⟨rfl, (fun _ h => by cases h), .inl rfl⟩, Nat.le_refl _, .inl ⟨hd, rfl⟩⟩
  · simp [Value.cells] at hcs
    obtain ⟨rfl, rfl, rfl⟩ := hcs
    injection hx with hd _
    simp only [if_true] at hm
    subst hm
    have key : ∀ i, i < n → ∃ h : Hp, h.OK ∧ ∀ j v, h.node[j]? = some v → W.cell? (a.add (i * 66 + j)) = some v := by
      intro i hin
      obtain ⟨cs', hc, ht'⟩ := hi i (by omega)
      obtain ⟨nm, id, ks, rfl, hid, hkl, ho, _⟩ := trod_node ht'
      obtain ⟨h, hh⟩ : ∃ h : Hp, h = ⟨nm, id, ks, 0, 0⟩ := ⟨_, rfl⟩
      have hok : h.OK := by rw [hh]; exact ⟨hid, hkl, ho, by show (-9223372036854775808 : Int) ≤ 0 ∧ (0 : Int) ≤ 9223372036854775807; decide, by show (-9223372036854775808 : Int) ≤ 0 ∧ (0 : Int) ≤ 9223372036854775807; decide⟩
      have hnd : h.node = .string nm :: .int .u64 id :: ks := by rw [hh]; rfl
      rw [← hnd] at hc
      refine ⟨h, hok, fun j v hv => ?_⟩
      obtain ⟨_, hcl, hat⟩ := World.cells?_some hc
      have hj : j < 66 := by have := (List.getElem?_eq_some_iff.1 hv).1; rw [Hp.node_len hok] at this; exact this
      rw [cellsNode] at hat
      have := hat j hj
      rw [Go.Deep.add_add, hv] at this
      exact this
    have : Inhabited Hp := ⟨⟨⟨#[]⟩, 0, [], 0, 0⟩⟩
    obtain ⟨f, hfn⟩ := Go.Deep.choose_lt key
    refine ⟨some a, n, m, (List.range n).map f, rfl, fun h hh => ?_, ⟨by simp, fun cs hcs => ?_, ?_⟩, hl, .inr ⟨_, _, hd, by simp⟩⟩
    · obtain ⟨i, hin, rfl⟩ := List.mem_map.1 hh
      exact (hfn i (List.mem_range.1 hin)).1
    · obtain ⟨h, hh, rfl⟩ := List.mem_map.1 hcs
      obtain ⟨i, hin, rfl⟩ := List.mem_map.1 hh
      exact Hp.node_len (hfn i (List.mem_range.1 hin)).1
    · rcases Nat.eq_zero_or_pos n with h0 | h0
      · left
        rw [h0]
        rfl
      · right
        have hx0 := (hfn 0 h0).2 0 _ rfl
        obtain ⟨b, off, spot⟩ := a
        have hspot : spot = none := by simpa [Addr.add] using World.cell?_spot hx0
        subst hspot
        have hlt : b < W.heap.size := by
          have := World.block_lt_of_cell? W _ hx0
          rw [block_of_add] at this
          exact this
        refine ⟨b, off, rfl, hlt, fun i cs hc j v hv => ?_⟩
        have hin : i < n := by have := (List.getElem?_eq_some_iff.1 hc).1; simpa using this
        have e : cs = (f i).node := by simpa [hin] using hc.symm
        rw [e] at hv
        have := (hfn i hin).2 j v hv
        rw [add_mk] at this
        rw [Nat.add_assoc]
        exact this

set_option maxRecDepth 100000 in
theorem cellsStop : Try.prog.cellsOf 62 = 3 := by kernel_rfl
set_option maxRecDepth 100000 in
theorem trod_stop {H : Type} {enc : TypeId × Value → H} {W : World} {base : Nat} {spare : Nat → Bool} {held : Bool} {fuel : Nat} {x : DataW H × List MemPlace} {cs : List Value} (h : DataW.trod enc Try.prog W base spare held fuel 62 cs = some x) : ∃ s : Sp, s.OK ∧ cs = s.cells := by
  obtain ⟨xs, q, _, _, hl, hxl, hf⟩ := DataW.trod_struct Try.underlying62 h
  rw [cellsStop] at hl
  match cs, hl with
  | [a, b, c], _ =>
    have h0 : DataW.trod enc Try.prog W base spare held q 9 (List.take (Try.prog.cellsOf 9) (List.drop 0 [a, b, c])) = xs[0]? := hf 0 _ rfl
    have h1 : DataW.trod enc Try.prog W base spare held q 3 (List.take (Try.prog.cellsOf 3) (List.drop 1 [a, b, c])) = xs[1]? := hf 1 _ rfl
    have h2 : DataW.trod enc Try.prog W base spare held q 3 (List.take (Try.prog.cellsOf 3) (List.drop 2 [a, b, c])) = xs[2]? := hf 2 _ rfl
    have hxs : xs.length = 3 := hxl
    simp only [cellsS, cellsI, List.drop_zero, List.drop_succ_cons, List.take_succ_cons, List.take_zero] at h0 h1 h2
    rw [List.getElem?_eq_getElem (by omega)] at h0 h1 h2
    obtain ⟨nm, e0, _, _⟩ := DataW.trod_string Try.underlying9 h0
    obtain ⟨dl, e1, _, w1⟩ := DataW.trod_int Try.underlying3 h1
    obtain ⟨fl, e2, _, w2⟩ := DataW.trod_int Try.underlying3 h2
    obtain rfl : a = .string nm := by simpa using e0
    obtain rfl : b = .int .i64 dl := by simpa using e1
    obtain rfl : c = .int .i64 fl := by simpa using e2
    exact ⟨⟨nm, dl, fl⟩, ⟨bounds_i64 w1, bounds_i64 w2⟩, rfl⟩
set_option maxRecDepth 100000 in
/-- stops that came in -/
theorem openStops {H : Type} {enc : TypeId × Value → H} {W : World} {b0 : Nat} {r : Reach} {v : Value} {d : DataW H} {p : List MemPlace}
    (hok : Value.okWide Try.prog W r b0 50 v) (h : DataW.Trod enc Try.prog W 0 (fun _ => true) true 50 v d p) : ∃ (A : Option Addr) (n c : Nat) (hs : List Sp), v = .slice A n c ∧ (∀ h ∈ hs, h.OK) ∧ RR W W.heap.size 3 A n (hs.map Sp.cells) ∧ n ≤ c ∧ HasLen d n := by
  obtain ⟨A, n, c, rfl⟩ := okWide_slice Try.underlying50 hok
  obtain ⟨fuel, hf⟩ := h
  rcases Go.Deep.open_slice Try.underlying50 hf with ⟨hcs, hx⟩ | ⟨a, n', c', m, q, D, Pl, hcs, _, hl, _, hm, hx, hi⟩
  · simp [Value.cells] at hcs
    obtain ⟨rfl, rfl, rfl⟩ := hcs
    injection hx with hd _
    exact ⟨none, 0, 0, [], rfl, (fun _ h => by cases h), ⟨rfl, (fun _ h => by cases h), .inl rfl⟩, Nat.le_refl _, .inl ⟨hd, rfl⟩⟩
  · simp [Value.cells] at hcs
    obtain ⟨rfl, rfl, rfl⟩ := hcs
    injection hx with hd _
    simp only [if_true] at hm
    subst hm
    have key : ∀ i, i < n → ∃ h : Sp, h.OK ∧ ∀ j v, h.cells[j]? = some v → W.cell? (a.add (i * 3 + j)) = some v := by
      intro i hin
      obtain ⟨cs', hc, ht'⟩ := hi i (by omega)
      obtain ⟨h, hok, rfl⟩ := trod_stop ht'
      refine ⟨h, hok, fun j v hv => ?_⟩
      obtain ⟨_, hcl, hat⟩ := World.cells?_some hc
      have hj : j < 3 := by have := (List.getElem?_eq_some_iff.1 hv).1; exact this
      rw [cellsStop] at hat
      have := hat j hj
      rw [Go.Deep.add_add, hv] at this
      exact this
    have : Inhabited Sp := ⟨⟨⟨#[]⟩, 0, 0⟩⟩
    obtain ⟨f, hfn⟩ := Go.Deep.choose_lt key
    refine ⟨some a, n, m, (List.range n).map f, rfl, fun h hh => ?_, ⟨by simp, fun cs hcs => ?_, ?_⟩, hl, .inr ⟨_, _, hd, by simp⟩⟩
    · obtain ⟨i, hin, rfl⟩ := List.mem_map.1 hh
      exact (hfn i (List.mem_range.1 hin)).1
    · obtain ⟨h, hh, rfl⟩ := List.mem_map.1 hcs
      obtain ⟨i, hin, rfl⟩ := List.mem_map.1 hh
      exact rfl
    · rcases Nat.eq_zero_or_pos n with h0 | h0
      · left
        rw [h0]
        rfl
      · right
        have hx0 := (hfn 0 h0).2 0 _ rfl
        obtain ⟨b, off, spot⟩ := a
        have hspot : spot = none := by simpa [Addr.add] using World.cell?_spot hx0
        subst hspot
        have hlt : b < W.heap.size := by
          have := World.block_lt_of_cell? W _ hx0
          rw [block_of_add] at this
          exact this
        refine ⟨b, off, rfl, hlt, fun i cs hc j v hv => ?_⟩
        have hin : i < n := by have := (List.getElem?_eq_some_iff.1 hc).1; simpa using this
        have e : cs = (f i).cells := by simpa [hin] using hc.symm
        rw [e] at hv
        have := (hfn i hin).2 j v hv
        rw [add_mk] at this
        rw [Nat.add_assoc]
        exact this

end Go.Proofs.Ytkmcjjoicpgjfaa
/-
  Nodes among the arguments, whose keys are bytes. No statement of the seat is proved here.
-/
namespace Go.Proofs.Ytkmcjjoicpgjfaa
open Go Go.RowKit Go.Sh Go.ChangeShapes Go.WideShapes Go.ChangeAt

section
variable {H : Type} {enc : TypeId × Value → H} {W : World} {base : Nat} {spare : Nat → Bool} {held : Bool} {fuel : Nat} {x : DataW H × List MemPlace}
theorem trod_key2 {cs : List Value} (h : DataW.trod enc Try.prog W base spare held fuel 57 cs = some x) : ∃ m : List Int, m.length = 32 ∧ (∀ y ∈ m, 0 ≤ y ∧ y < 256) ∧ cs = m.map (Value.int .u8) := by
  obtain ⟨xs, q, _, _, hl, hxl, hi⟩ := DataW.trod_array Try.underlying57 h
  rw [cells32] at hl
  have key : ∀ i (hi' : i < cs.length), ∃ z : Int, cs[i] = .int .u8 z ∧ 0 ≤ z ∧ z < 256 := by
    intro i hi'
    have h1 := hi i (by omega)
    rw [cells1b, Nat.mul_one, List.drop_eq_getElem_cons hi', List.take_succ_cons, List.take_zero, List.getElem?_eq_getElem (by omega)] at h1
    exact trod_u8 h1
  refine ⟨cs.map intOf, by rw [List.length_map, hl], ?_, ?_⟩
  · intro y hy
    obtain ⟨v, hv, rfl⟩ := List.mem_map.1 hy
    obtain ⟨i, hi', rfl⟩ := List.mem_iff_getElem.1 hv
    obtain ⟨z, e, h1, h2⟩ := key i hi'
    rw [e]
    exact ⟨h1, h2⟩
  · rw [List.map_map]
    conv => lhs; rw [← List.map_id cs]
    refine List.map_congr_left fun v hv => ?_
    obtain ⟨i, hi', rfl⟩ := List.mem_iff_getElem.1 hv
    obtain ⟨z, e, _, _⟩ := key i hi'
    rw [e]
    rfl
set_option maxRecDepth 100000 in
theorem trod_keys {nm : ByteArray} {id : Int} {ks : List Value} (h : DataW.trod enc Try.prog W base spare held fuel 59 (.string nm :: .int .u64 id :: ks) = some x) : ∃ m r : List Int, m.length = 32 ∧ r.length = 32 ∧ (∀ y ∈ m, 0 ≤ y ∧ y < 256) ∧ (∀ y ∈ r, 0 ≤ y ∧ y < 256) ∧ ks = m.map (Value.int .u8) ++ r.map (Value.int .u8) := by
  obtain ⟨xs, q, _, _, hl, hxl, hf⟩ := DataW.trod_struct Try.underlying59 h
  rw [cellsNode] at hl
  have hkl : ks.length = 64 := by simpa using hl
  have h2 : DataW.trod enc Try.prog W base spare held q 57 (List.take (Try.prog.cellsOf 57) (List.drop 2 (.string nm :: .int .u64 id :: ks))) = xs[2]? := hf 2 _ rfl
  have h3 : DataW.trod enc Try.prog W base spare held q 57 (List.take (Try.prog.cellsOf 57) (List.drop 34 (.string nm :: .int .u64 id :: ks))) = xs[3]? := hf 3 _ rfl
  have hxs : xs.length = 4 := hxl
  simp only [cells32, List.drop_succ_cons] at h2 h3
  rw [List.getElem?_eq_getElem (by omega)] at h2 h3
  obtain ⟨m, m1, m2, m3⟩ := trod_key2 h2
  obtain ⟨r, r1, r2, r3⟩ := trod_key2 h3
  refine ⟨m, r, m1, r1, m2, r2, ?_⟩
  rw [← m3, ← r3]
  rw [List.drop_zero, ← List.take_add, List.take_of_length_le (by omega)]
end
set_option maxRecDepth 100000 in
/-- nodes that came in -/
theorem openNodesB {H : Type} {enc : TypeId × Value → H} {W : World} {b0 : Nat} {r : Reach} {v : Value} {d : DataW H} {p : List MemPlace}
    (hok : Value.okWide Try.prog W r b0 28 v) (h : DataW.Trod enc Try.prog W 0 (fun _ => true) true 28 v d p) : ∃ (A : Option Addr) (n c : Nat) (hs : List Hp), v = .slice A n c ∧ (∀ h ∈ hs, h.OK) ∧ (∀ h ∈ hs, h.By) ∧ RR W W.heap.size 66 A n (hs.map Hp.node) ∧ n ≤ c ∧ HasLen d n := by
  obtain ⟨A, n, c, rfl⟩ := okWide_slice Try.underlying28 hok
  obtain ⟨fuel, hf⟩ := h
  rcases Go.Deep.open_slice Try.underlying28 hf with ⟨hcs, hx⟩ | ⟨a, n', c', m, q, D, Pl, hcs, _, hl, _, hm, hx, hi⟩
  · simp [Value.cells] at hcs
    obtain ⟨rfl, rfl, rfl⟩ := hcs
    injection hx with hd _
    exact ⟨none, 0, 0, [], rfl, (fun _ h => by cases h), (fun _ h => by cases h), ⟨rfl, (fun _ h => by cases h), .inl rfl⟩, Nat.le_refl _, .inl ⟨hd, rfl⟩⟩
  · simp [Value.cells] at hcs
    obtain ⟨rfl, rfl, rfl⟩ := hcs
    injection hx with hd _
    simp only [if_true] at hm
    subst hm
    have key : ∀ i, i < n → ∃ h : Hp, (h.OK ∧ h.By) ∧ ∀ j v, h.node[j]? = some v → W.cell? (a.add (i * 66 + j)) = some v := by
      intro i hin
      obtain ⟨cs', hc, ht'⟩ := hi i (by omega)
      obtain ⟨nm, id, ks, rfl, hid, hkl, ho, hnm⟩ := trod_node ht'
      obtain ⟨mm, rr, hm1, hr1, hm2, hr2, hks⟩ := trod_keys ht'
      obtain ⟨h, hh⟩ : ∃ h : Hp, h = ⟨nm, id, ks, 0, 0⟩ := ⟨_, rfl⟩
      have hok : h.OK := by rw [hh]; exact ⟨hid, hkl, ho, by show (-9223372036854775808 : Int) ≤ 0 ∧ (0 : Int) ≤ 9223372036854775807; decide, by show (-9223372036854775808 : Int) ≤ 0 ∧ (0 : Int) ≤ 9223372036854775807; decide⟩
      have hby : h.By := ⟨mm, rr, hm1, hr1, hm2, hr2, by rw [hh]; exact hks, by rw [hh]; exact hnm⟩
      have hnd : h.node = .string nm :: .int .u64 id :: ks := by rw [hh]; rfl
      rw [← hnd] at hc
      refine ⟨h, ⟨hok, hby⟩, fun j v hv => ?_⟩
      obtain ⟨_, hcl, hat⟩ := World.cells?_some hc
      have hj : j < 66 := by have := (List.getElem?_eq_some_iff.1 hv).1; rw [Hp.node_len hok] at this; exact this
      rw [cellsNode] at hat
      have := hat j hj
      rw [Go.Deep.add_add, hv] at this
      exact this
    have : Inhabited Hp := ⟨⟨⟨#[]⟩, 0, [], 0, 0⟩⟩
    obtain ⟨f, hfn⟩ := Go.Deep.choose_lt key
    refine ⟨some a, n, m, (List.range n).map f, rfl, fun h hh => ?_, fun h hh => ?_, ⟨by simp, fun cs hcs => ?_, ?_⟩, hl, .inr ⟨_, _, hd, by simp⟩⟩
    · obtain ⟨i, hin, rfl⟩ := List.mem_map.1 hh
      exact (hfn i (List.mem_range.1 hin)).1.1
    · obtain ⟨i, hin, rfl⟩ := List.mem_map.1 hh
      exact (hfn i (List.mem_range.1 hin)).1.2
    · obtain ⟨h, hh, rfl⟩ := List.mem_map.1 hcs
      obtain ⟨i, hin, rfl⟩ := List.mem_map.1 hh
      exact Hp.node_len (hfn i (List.mem_range.1 hin)).1.1
    · rcases Nat.eq_zero_or_pos n with h0 | h0
      · left
        rw [h0]
        rfl
      · right
        have hx0 := (hfn 0 h0).2 0 _ rfl
        obtain ⟨b, off, spot⟩ := a
        have hspot : spot = none := by simpa [Addr.add] using World.cell?_spot hx0
        subst hspot
        have hlt : b < W.heap.size := by
          have := World.block_lt_of_cell? W _ hx0
          rw [block_of_add] at this
          exact this
        refine ⟨b, off, rfl, hlt, fun i cs hc j v hv => ?_⟩
        have hin : i < n := by have := (List.getElem?_eq_some_iff.1 hc).1; simpa using this
        have e : cs = (f i).node := by simpa [hin] using hc.symm
        rw [e] at hv
        have := (hfn i hin).2 j v hv
        rw [add_mk] at this
        rw [Nat.add_assoc]
        exact this
end Go.Proofs.Ytkmcjjoicpgjfaa
/-
  A slice that came in, of whatever elements: its rows, and what the reader says of each. No statement of the seat is proved here.
-/
namespace Go.Proofs.Ytkmcjjoicpgjfaa
open Go Go.RowKit Go.Sh Go.ChangeShapes Go.WideShapes Go.ChangeAt

section
variable {H : Type} {enc : TypeId × Value → H} {W : World}
/-- what the data of a slice of n elements of type e says: each element's cells were read -/
def Rowed (enc : TypeId × Value → H) (W : World) (e : TypeId) (d : DataW H) (n : Nat) (css : List (List Value)) : Prop :=
  (d = .nil ∧ n = 0) ∨ ∃ es sp : List (DataW H), d = .slice es sp ∧ es.length = n ∧ ∀ (i : Nat) (cs : List Value), css[i]? = some cs → ∃ (q : Nat) (y : DataW H × List MemPlace), DataW.trod enc Try.prog W 0 (fun _ => true) true q e cs = some y ∧ es[i]? = some y.1
theorem Rowed.has {e : TypeId} {d : DataW H} {n : Nat} {css : List (List Value)} (h : Rowed enc W e d n css) : HasLen d n := by
  rcases h with h | ⟨es, sp, h1, h2, _⟩
  · exact .inl h
  · exact .inr ⟨es, sp, h1, h2⟩
set_option maxRecDepth 100000 in
theorem open_rows {t e : TypeId} {size fuel : Nat} {v : Value} {y : DataW H × List MemPlace} (ht : Try.prog.underlying t = some (.slice e)) (hs : Try.prog.cellsOf e = size) (h0 : 0 < size)
    (hf : DataW.trod enc Try.prog W 0 (fun _ => true) true fuel t [v] = some y) :
    ∃ A n c css, v = .slice A n c ∧ RR W W.heap.size size A n css ∧ n ≤ c ∧ Rowed enc W e y.1 n css := by
  rcases Go.Deep.open_slice ht hf with ⟨hcs, hx⟩ | ⟨a, n, c, m, q, D, Pl, hcs, _, hl, _, hm, hx, hi⟩
  · obtain rfl : v = .slice none 0 0 := by simpa using hcs
    subst hx
    exact ⟨none, 0, 0, [], rfl, ⟨rfl, (fun _ h => by cases h), .inl rfl⟩, Nat.le_refl _, .inl ⟨rfl, rfl⟩⟩
  · obtain rfl : v = .slice (some a) n c := by simpa using hcs
    subst hx
    simp only [if_true] at hm
    subst hm
    have key : ∀ i, i < n → ∃ cs : List Value, cs.length = size ∧ (∀ j v, cs[j]? = some v → W.cell? (a.add (i * size + j)) = some v) ∧ DataW.trod enc Try.prog W 0 (fun _ => true) true q e cs = some (D i, Pl i) := by
      intro i hin
      obtain ⟨cs', hc, ht'⟩ := hi i (by omega)
      rw [hs] at hc
      obtain ⟨_, hcl, hat⟩ := World.cells?_some hc
      refine ⟨cs', hcl, fun j v hv => ?_, ht'⟩
      have hj : j < size := by have := (List.getElem?_eq_some_iff.1 hv).1; omega
      have := hat j hj
      rw [Go.Deep.add_add, hv] at this
      exact this
    obtain ⟨f, hfn⟩ := Go.Deep.choose_lt key
    refine ⟨some a, n, m, (List.range n).map f, rfl, ⟨by simp, fun cs hcs => ?_, ?_⟩, hl, .inr ⟨_, _, rfl, by simp, fun i cs hc => ?_⟩⟩
    · obtain ⟨i, hin, rfl⟩ := List.mem_map.1 hcs
      exact (hfn i (List.mem_range.1 hin)).1
    · rcases Nat.eq_zero_or_pos n with hn | hn
      · left
        rw [hn]
        rfl
      · right
        obtain ⟨hl0, hx0, _⟩ := hfn 0 hn
        have hx0 := hx0 0 _ (List.getElem?_eq_getElem (by omega))
        obtain ⟨b, off, spot⟩ := a
        have hspot : spot = none := by simpa [Addr.add] using World.cell?_spot hx0
        subst hspot
        have hlt : b < W.heap.size := by
          have := World.block_lt_of_cell? W _ hx0
          rw [block_of_add] at this
          exact this
        refine ⟨b, off, rfl, hlt, fun i cs hc j v hv => ?_⟩
        have hin : i < n := by have := (List.getElem?_eq_some_iff.1 hc).1; simpa using this
        have e : cs = f i := by simpa [hin] using hc.symm
        rw [e] at hv
        have := (hfn i hin).2.1 j v hv
        rw [add_mk] at this
        rw [Nat.add_assoc]
        exact this
    · have hin : i < n := by have := (List.getElem?_eq_some_iff.1 hc).1; simpa using this
      have e : cs = f i := by simpa [hin] using hc.symm
      exact ⟨q, (D i, Pl i), by rw [e]; exact (hfn i hin).2.2, by simp [hin]⟩
end
end Go.Proofs.Ytkmcjjoicpgjfaa
/-
  The elements of a program that came in: instructions, lists of bytes, routes, sends. No statement of the seat is proved here.
-/
namespace Go.Proofs.Ytkmcjjoicpgjfaa
open Go Go.RowKit Go.Sh Go.ChangeShapes Go.WideShapes Go.ChangeAt

theorem rows_map {α : Type} (f : α → List Value) : ∀ css : List (List Value), (∀ cs ∈ css, ∃ x, cs = f x) → ∃ xs : List α, css = xs.map f
  | [], _ => ⟨[], rfl⟩
  | c :: css, h => by
    obtain ⟨x, hx⟩ := h c (by simp)
    obtain ⟨xs, hxs⟩ := rows_map f css fun cs hcs => h cs (by simp [hcs])
    exact ⟨x :: xs, by rw [List.map_cons, ← hx, ← hxs]⟩
section
variable {H : Type} {enc : TypeId × Value → H} {W : World} {base : Nat} {spare : Nat → Bool} {held : Bool} {fuel : Nat} {x : DataW H × List MemPlace}
set_option maxRecDepth 100000 in
theorem cellsIns : Try.prog.cellsOf 39 = 3 := by kernel_rfl
set_option maxRecDepth 100000 in
theorem cellsSpec : Try.prog.cellsOf 52 = 3 := by kernel_rfl
set_option maxRecDepth 100000 in
theorem cellsLs : Try.prog.cellsOf 30 = 1 := by kernel_rfl
set_option maxRecDepth 100000 in
theorem trod_ins {cs : List Value} (h : DataW.trod enc Try.prog W base spare held fuel 39 cs = some x) : ∃ i : Ins, cs = i.cells := by
  obtain ⟨xs, q, _, _, hl, hxl, hf⟩ := DataW.trod_struct Try.underlying39 h
  rw [cellsIns] at hl
  match cs, hl with
  | [a, b, c], _ =>
    have h0 : DataW.trod enc Try.prog W base spare held q 5 (List.take (Try.prog.cellsOf 5) (List.drop 0 [a, b, c])) = xs[0]? := hf 0 _ rfl
    have h1 : DataW.trod enc Try.prog W base spare held q 3 (List.take (Try.prog.cellsOf 3) (List.drop 1 [a, b, c])) = xs[1]? := hf 1 _ rfl
    have h2 : DataW.trod enc Try.prog W base spare held q 3 (List.take (Try.prog.cellsOf 3) (List.drop 2 [a, b, c])) = xs[2]? := hf 2 _ rfl
    have hxs : xs.length = 3 := hxl
    simp only [cells1b, cellsI, List.drop_zero, List.drop_succ_cons, List.take_succ_cons, List.take_zero] at h0 h1 h2
    rw [List.getElem?_eq_getElem (by omega)] at h0 h1 h2
    obtain ⟨op, e0, o1, o2⟩ := trod_u8 h0
    obtain ⟨dl, e1, _, w1⟩ := DataW.trod_int Try.underlying3 h1
    obtain ⟨fl, e2, _, w2⟩ := DataW.trod_int Try.underlying3 h2
    obtain rfl : b = .int .i64 dl := by simpa using e1
    obtain rfl : c = .int .i64 fl := by simpa using e2
    refine ⟨⟨UInt8.ofNat op.toNat, dl, fl⟩, ?_⟩
    rw [e0, Ins.cells]
    have : (((UInt8.ofNat op.toNat).toNat : Nat) : Int) = op := by
      rw [UInt8.toNat_ofNat']
      omega
    rw [this]
/-- numbers in a cell -/
theorem openIc {fuel : Nat} {v : Value} {y : DataW H × List MemPlace} (hf : DataW.trod enc Try.prog W 0 (fun _ => true) true fuel 30 [v] = some y) :
    ∃ A n c l, v = .slice A n c ∧ RI W W.heap.size A n l ∧ n ≤ c ∧ HasLen y.1 n := by
  obtain ⟨A, n, c, css, rfl, hr, hc, hd⟩ := open_rows (size := 1) Try.underlying30 cellsI (by decide) hf
  have hel : ∀ cs ∈ css, ∃ z : Int, cs = [.int .i64 z] ∧ -9223372036854775808 ≤ z ∧ z ≤ 9223372036854775807 := fun cs hcs => by
    obtain ⟨i, hi, rfl⟩ := List.mem_iff_getElem.1 hcs
    rcases hd with ⟨_, h0⟩ | ⟨es, sp, _, _, hel⟩
    · have := hr.len
      omega
    · obtain ⟨q, y2, ht, _⟩ := hel i _ (List.getElem?_eq_getElem hi)
      obtain ⟨z, e, _, w⟩ := DataW.trod_int Try.underlying3 ht
      exact ⟨z, e, bounds_i64 w⟩
  obtain ⟨zs, hzs⟩ := rows_map (fun z : Int => [Value.int .i64 z]) css fun cs hcs => by obtain ⟨z, e, _⟩ := hel cs hcs; exact ⟨z, e⟩
  have hflat : css.flatten = iv zs := by
    rw [hzs]
    clear hzs
    induction zs with
    | nil => rfl
    | cons z zs ih => simp [iv] at ih ⊢; exact ih
  have hrd := RR.reads hr (by decide)
  rw [hflat] at hrd
  refine ⟨A, n, c, zs, rfl, ⟨hrd, fun z hz => ?_⟩, hc, hd.has⟩
  obtain ⟨z', e, hb⟩ := hel [.int .i64 z] (by rw [hzs]; exact List.mem_map.2 ⟨z, hz, rfl⟩)
  injection e with e _
  injection e with _ e
  rw [e]
  exact hb
/-- stops in a cell -/
theorem openSc {fuel : Nat} {v : Value} {y : DataW H × List MemPlace} (hf : DataW.trod enc Try.prog W 0 (fun _ => true) true fuel 50 [v] = some y) :
    ∃ (A : Option Addr) (n c : Nat) (ss : List Sp), v = .slice A n c ∧ RR W W.heap.size 3 A n (ss.map Sp.cells) ∧ n ≤ c ∧ HasLen y.1 n := by
  obtain ⟨A, n, c, css, rfl, hr, hc, hd⟩ := open_rows (size := 3) Try.underlying50 cellsStop (by decide) hf
  have hel : ∀ cs ∈ css, ∃ s : Sp, cs = s.cells := fun cs hcs => by
    obtain ⟨i, hi, rfl⟩ := List.mem_iff_getElem.1 hcs
    rcases hd with ⟨_, h0⟩ | ⟨es, sp, _, _, hel⟩
    · have := hr.len
      omega
    · obtain ⟨q, y2, ht, _⟩ := hel i _ (List.getElem?_eq_getElem hi)
      obtain ⟨s, _, e⟩ := trod_stop ht
      exact ⟨s, e⟩
  obtain ⟨ss, rfl⟩ := rows_map Sp.cells css hel
  exact ⟨A, n, c, ss, rfl, hr, hc, hd.has⟩
/-- the data of rows of rows: how long each is -/
def HasRows (d : DataW H) (ls : List Nat) : Prop := (d = .nil ∧ ls = []) ∨ ∃ es sp : List (DataW H), d = .slice es sp ∧ es.length = ls.length ∧ ∀ i, i < ls.length → ∃ di, es[i]? = some di ∧ HasLen di (ls.getD i 0)
set_option maxRecDepth 100000 in
theorem openRts {fuel : Nat} {v : Value} {y : DataW H × List MemPlace} (hf : DataW.trod enc Try.prog W 0 (fun _ => true) true fuel 24 [v] = some y) :
    ∃ (A : Option Addr) (n c : Nat) (rs : List (List Sp)), v = .slice A n c ∧ RRt W W.heap.size A n rs ∧ n ≤ c ∧ HasRows y.1 (rs.map List.length) := by
  obtain ⟨A, n, c, css, rfl, hr, hc, hd⟩ := open_rows (size := 1) Try.underlying24 (by kernel_rfl) (by decide) hf
  rcases hd with ⟨hd, rfl⟩ | ⟨es, sp, hd, hel, hi⟩
  · have : css = [] := List.eq_nil_of_length_eq_zero hr.len
    subst this
    exact ⟨A, 0, c, [], rfl, ⟨rfl, [], RR.reads hr (by decide), fun i hi => absurd hi (Nat.not_lt_zero _)⟩, hc, .inl ⟨hd, rfl⟩⟩
  · have hcl := hr.len
    have key : ∀ i, i < n → ∃ x : (Option Addr × Nat × Nat) × List Sp, css[i]? = some [.slice x.1.1 x.1.2.1 x.1.2.2] ∧ x.1.2.1 ≤ x.1.2.2 ∧ RR W W.heap.size 3 x.1.1 x.1.2.1 (x.2.map Sp.cells) ∧ ∃ di, es[i]? = some di ∧ HasLen di x.2.length := by
      intro i hin
      have hci := List.getElem?_eq_getElem (l := css) (i := i) (by omega)
      obtain ⟨q, y2, ht, he⟩ := hi i _ hci
      have hl1 := hr.2.1 _ (List.mem_of_getElem? hci)
      match hcs : css[i]'(by omega), hl1 with
      | [u], _ =>
        rw [hcs] at ht
        obtain ⟨Ai, ni, ci, ss, rfl, h1, h2, h3⟩ := openSc ht
        have hsl : ss.length = ni := by have := h1.len; rw [List.length_map] at this; exact this
        exact ⟨⟨⟨Ai, ni, ci⟩, ss⟩, by rw [hci, hcs], h2, h1, _, he, by rw [hsl]; exact h3⟩
    have : Inhabited ((Option Addr × Nat × Nat) × List Sp) := ⟨⟨⟨none, 0, 0⟩, []⟩⟩
    obtain ⟨f, hfn⟩ := Go.Deep.choose_lt key
    have hrat : ∀ i, i < n → rat ((List.range n).map fun i => (f i).2) i = (f i).2 := fun i hin => by simp [rat, hin]
    have hflat : ∀ (l : List (List Value)), (∀ cs ∈ l, cs.length = 1) → ∀ i u, l[i]? = some [u] → l.flatten[i]? = some u := fun l hl i u hu => by
      have := flat_at hl i [u] hu 0 u rfl
      simpa using this
    refine ⟨A, n, c, (List.range n).map fun i => (f i).2, rfl, ⟨by simp, css.flatten, RR.reads hr (by decide), fun i hin => ?_⟩, hc, .inr ⟨es, sp, hd, by simp [hel], fun i hin => ?_⟩⟩
    · obtain ⟨h1, h2, h3, _⟩ := hfn i hin
      rw [hrat i hin]
      exact ⟨_, _, _, hflat css hr.2.1 i _ h1, h2, h3⟩
    · have hin' : i < n := by simpa using hin
      obtain ⟨_, _, _, di, h4, h5⟩ := hfn i hin'
      refine ⟨di, h4, ?_⟩
      simpa [hin'] using h5
/-- the data of a send: how long its routes are -/
def HasSnd (d : DataW H) (n : Nat) : Prop := ∃ d0 d1 d2, d = .agg [d0, d1, d2] ∧ HasLen d1 n
set_option maxRecDepth 100000 in
theorem trod_spec {fuel : Nat} {cs : List Value} {y : DataW H × List MemPlace} (h : DataW.trod enc Try.prog W 0 (fun _ => true) true fuel 52 cs = some y) :
    ∃ (m : Int) (A : Option Addr) (n c : Nat) (l : List Int) (b : Int), cs = [.int .i64 m, .slice A n c, .int .i64 b] ∧ RI W W.heap.size A n l ∧ n ≤ c ∧ HasSnd y.1 n := by
  obtain ⟨ys, q, _, hag, hl, hyl, hf⟩ := DataW.trod_struct Try.underlying52 h
  rw [cellsSpec] at hl
  have hys : ys.length = 3 := hyl
  match cs, hl, ys, hys with
  | [v0, v1, v2], _, [y0, y1, y2], _ =>
    have t0 : DataW.trod enc Try.prog W 0 (fun _ => true) true q 3 [v0] = some y0 := by
      have h := hf 0 _ rfl
      simpa [cellsI] using h
    have t1 : DataW.trod enc Try.prog W 0 (fun _ => true) true q 30 [v1] = some y1 := by
      have h := hf 1 _ rfl
      simpa [cellsLs] using h
    have t2 : DataW.trod enc Try.prog W 0 (fun _ => true) true q 3 [v2] = some y2 := by
      have h := hf 2 _ rfl
      simpa [cellsI] using h
    obtain ⟨m, e0, _, _⟩ := DataW.trod_int Try.underlying3 t0
    obtain ⟨A, n, c, l, rfl, h1, h2, h3⟩ := openIc t1
    obtain ⟨b, e2, _, _⟩ := DataW.trod_int Try.underlying3 t2
    obtain rfl : v0 = .int .i64 m := by simpa using e0
    obtain rfl : v2 = .int .i64 b := by simpa using e2
    exact ⟨m, A, n, c, l, b, rfl, h1, h2, y0.1, y1.1, y2.1, by rw [hag]; rfl, h3⟩
def HasSnds (d : DataW H) (ls : List Nat) : Prop := (d = .nil ∧ ls = []) ∨ ∃ es sp : List (DataW H), d = .slice es sp ∧ es.length = ls.length ∧ ∀ i, i < ls.length → ∃ di, es[i]? = some di ∧ HasSnd di (ls.getD i 0)
set_option maxRecDepth 100000 in
theorem openSnds {fuel : Nat} {v : Value} {y : DataW H × List MemPlace} (hf : DataW.trod enc Try.prog W 0 (fun _ => true) true fuel 25 [v] = some y) :
    ∃ (A : Option Addr) (n c : Nat) (ss : List Snd), v = .slice A n c ∧ RSn W W.heap.size A n ss ∧ n ≤ c ∧ HasSnds y.1 (ss.map fun s => s.rts.length) := by
  obtain ⟨A, n, c, css, rfl, hr, hc, hd⟩ := open_rows (size := 3) Try.underlying25 cellsSpec (by decide) hf
  rcases hd with ⟨hd, rfl⟩ | ⟨es, sp, hd, hel, hi⟩
  · have : css = [] := List.eq_nil_of_length_eq_zero hr.len
    subst this
    exact ⟨A, 0, c, [], rfl, ⟨rfl, [], hr, fun i hi => absurd hi (Nat.not_lt_zero _)⟩, hc, .inl ⟨hd, rfl⟩⟩
  · have hcl := hr.len
    have key : ∀ i, i < n → ∃ x : (Option Addr × Nat × Nat) × Snd, css[i]? = some [.int .i64 x.2.msg, .slice x.1.1 x.1.2.1 x.1.2.2, .int .i64 x.2.blk] ∧ x.1.2.1 ≤ x.1.2.2 ∧ RI W W.heap.size x.1.1 x.1.2.1 x.2.rts ∧ ∃ di, es[i]? = some di ∧ HasSnd di x.2.rts.length := by
      intro i hin
      have hci := List.getElem?_eq_getElem (l := css) (i := i) (by omega)
      obtain ⟨q, y2, ht, he⟩ := hi i _ hci
      obtain ⟨m, Ai, ni, ci, l, b, hcs, h1, h2, h3⟩ := trod_spec ht
      exact ⟨⟨⟨Ai, ni, ci⟩, ⟨m, l, b⟩⟩, by rw [hci, hcs], h2, h1, _, he, by rw [h1.len]; exact h3⟩
    have : Inhabited ((Option Addr × Nat × Nat) × Snd) := ⟨⟨⟨none, 0, 0⟩, ⟨0, [], 0⟩⟩⟩
    obtain ⟨f, hfn⟩ := Go.Deep.choose_lt key
    have hdat : ∀ i, i < n → dat ((List.range n).map fun i => (f i).2) i = (f i).2 := fun i hin => by simp [dat, hin]
    refine ⟨A, n, c, (List.range n).map fun i => (f i).2, rfl, ⟨by simp, css, hr, fun i hin => ?_⟩, hc, .inr ⟨es, sp, hd, by simp [hel], fun i hin => ?_⟩⟩
    · obtain ⟨h1, h2, h3, _⟩ := hfn i hin
      rw [hdat i hin]
      exact ⟨_, _, _, h1, h2, h3⟩
    · have hin' : i < n := by simpa using hin
      obtain ⟨_, _, _, di, h4, h5⟩ := hfn i hin'
      refine ⟨di, h4, ?_⟩
      simpa [hin'] using h5
set_option maxRecDepth 100000 in
/-- bytes in a cell -/
theorem openBc {H : Type} {enc : TypeId × Value → H} {P : Program} {W : World} {fuel : Nat} {t e : TypeId} {v : Value} {y : DataW H × List MemPlace} (he : P.underlying t = some (.slice e)) (hu : P.underlying e = some (.int .u8)) (hcu : P.cellsOf e = 1)
    (hf : DataW.trod enc P W 0 (fun _ => true) true fuel t [v] = some y) :
    ∃ A n c l, v = .slice A n c ∧ RB W W.heap.size A n l ∧ n ≤ c ∧ HasLen y.1 n := by
  rcases open_ints he hu hcu hf with ⟨hcs, hx⟩ | ⟨x, l, cc, zs, hcs, _, hll, hmm, hz, hx, hcell, hwz⟩
  · obtain rfl : v = .slice none 0 0 := by simpa using hcs
    subst hx
    exact ⟨none, 0, 0, [], rfl, RB.none_, Nat.le_refl _, .inl ⟨rfl, rfl⟩⟩
  · obtain rfl : v = .slice (some x) l cc := by simpa using hcs
    subst hx
    simp only [if_true] at hz
    have hlen : (toB (zs.take l)).length = l := by simp [toB]; omega
    refine ⟨some x, l, cc, toB (zs.take l), rfl, ⟨by rw [length_bv, hlen]; omega, ?_⟩, hll, .inr ⟨_, _, rfl, by simp [lits]; omega⟩⟩
    rcases Nat.eq_zero_or_pos l with h0 | h0
    · left
      apply List.eq_nil_of_length_eq_zero
      rw [length_bv, hlen, h0]
    refine .inr ⟨x, rfl, ?_, fun j hj => ?_⟩
    · have := hcell 0 (by omega)
      have hb := World.block_lt_of_cell? W _ this
      rw [block_of_add] at hb
      exact hb
    · rw [length_bv, hlen] at hj
      rw [bv_at _ _ (by rw [hlen]; exact hj), hcell j (by omega), bt_toB _ _ (by rw [List.length_take]; omega) (fun q hq => hwz q (List.mem_of_mem_take hq))]
      congr 2
      simp [hj]
set_option maxRecDepth 100000 in
/-- lists of bytes in a cell -/
theorem openMs {fuel : Nat} {v : Value} {y : DataW H × List MemPlace} (hf : DataW.trod enc Try.prog W 0 (fun _ => true) true fuel 23 [v] = some y) :
    ∃ (A : Option Addr) (n c : Nat) (ls : List (List UInt8)), v = .slice A n c ∧ RBB W W.heap.size A n ls ∧ n ≤ c ∧ HasRows y.1 (ls.map List.length) := by
  obtain ⟨A, n, c, css, rfl, hr, hc, hd⟩ := open_rows (size := 1) Try.underlying23 (by kernel_rfl) (by decide) hf
  rcases hd with ⟨hd, rfl⟩ | ⟨es, sp, hd, hel, hi⟩
  · have : css = [] := List.eq_nil_of_length_eq_zero hr.len
    subst this
    exact ⟨A, 0, c, [], rfl, ⟨rfl, [], RR.reads hr (by decide), fun i hi => absurd hi (Nat.not_lt_zero _)⟩, hc, .inl ⟨hd, rfl⟩⟩
  · have hcl := hr.len
    have key : ∀ i, i < n → ∃ x : (Option Addr × Nat × Nat) × List UInt8, css[i]? = some [.slice x.1.1 x.1.2.1 x.1.2.2] ∧ x.1.2.1 ≤ x.1.2.2 ∧ RB W W.heap.size x.1.1 x.1.2.1 x.2 ∧ ∃ di, es[i]? = some di ∧ HasLen di x.2.length := by
      intro i hin
      have hci := List.getElem?_eq_getElem (l := css) (i := i) (by omega)
      obtain ⟨q, y2, ht, he⟩ := hi i _ hci
      have hl1 := hr.2.1 _ (List.mem_of_getElem? hci)
      match hcs : css[i]'(by omega), hl1 with
      | [u], _ =>
        rw [hcs] at ht
        obtain ⟨Ai, ni, ci, l, rfl, h1, h2, h3⟩ := openBc Try.underlying66 Try.underlying5 cells1b ht
        exact ⟨⟨⟨Ai, ni, ci⟩, l⟩, by rw [hci, hcs], h2, h1, _, he, by rw [h1.len]; exact h3⟩
    have : Inhabited ((Option Addr × Nat × Nat) × List UInt8) := ⟨⟨⟨none, 0, 0⟩, []⟩⟩
    obtain ⟨f, hfn⟩ := Go.Deep.choose_lt key
    have hlat : ∀ i, i < n → lat ((List.range n).map fun i => (f i).2) i = (f i).2 := fun i hin => by simp [lat, hin]
    have hflat : ∀ (l : List (List Value)), (∀ cs ∈ l, cs.length = 1) → ∀ i u, l[i]? = some [u] → l.flatten[i]? = some u := fun l hl i u hu => by
      have := flat_at hl i [u] hu 0 u rfl
      simpa using this
    refine ⟨A, n, c, (List.range n).map fun i => (f i).2, rfl, ⟨by simp, css.flatten, RR.reads hr (by decide), fun i hin => ?_⟩, hc, .inr ⟨es, sp, hd, by simp [hel], fun i hin => ?_⟩⟩
    · obtain ⟨h1, h2, h3, _⟩ := hfn i hin
      rw [hlat i hin]
      exact ⟨_, _, _, hflat css hr.2.1 i _ h1, h2, h3⟩
    · have hin' : i < n := by simpa using hin
      obtain ⟨_, _, _, di, h4, h5⟩ := hfn i hin'
      refine ⟨di, h4, ?_⟩
      simpa [hin'] using h5
end
end Go.Proofs.Ytkmcjjoicpgjfaa
/-
  A program among the arguments. No statement of the seat is proved here.
-/
namespace Go.Proofs.Ytkmcjjoicpgjfaa
open Go Go.RowKit Go.Sh Go.ChangeShapes Go.WideShapes Go.ChangeAt

/-- the data of a program: how long its slices are -/
def HasPrg {H : Type} (d : DataW H) (p : Prg) : Prop := ∃ d0 d1 d2 d3 d4 d5 d6 d7, d = .agg [d0, d1, d2, d3, d4, d5, d6, d7] ∧ HasLen d0 p.code.length ∧ HasRows d1 (p.msgs.map List.length) ∧ HasRows d2 (p.rts.map List.length) ∧ HasSnds d3 (p.snds.map fun s => s.rts.length)
/-- a program in memory, but for what its sizes say -/
structure PR0 (w : World) (B : Nat) (d : Pad) (p : Prg) : Prop where
  code : RR w B 3 d.A1 d.n1 (p.code.map Ins.cells)
  msgs : RBB w B d.A2 d.n2 p.msgs
  rts : RRt w B d.A3 d.n3 p.rts
  snds : RSn w B d.A4 d.n4 p.snds
  k1 : d.n1 ≤ d.c1
  k2 : d.n2 ≤ d.c2
  k3 : d.n3 ≤ d.c3
  k4 : d.n4 ≤ d.c4
set_option maxRecDepth 100000 in
theorem cellsPrg : Try.prog.cellsOf 27 = 8 := by kernel_rfl
section
variable {H : Type} {enc : TypeId × Value → H} {W : World}
theorem openCode {fuel : Nat} {v : Value} {y : DataW H × List MemPlace} (hf : DataW.trod enc Try.prog W 0 (fun _ => true) true fuel 22 [v] = some y) :
    ∃ (A : Option Addr) (n c : Nat) (l : List Ins), v = .slice A n c ∧ RR W W.heap.size 3 A n (l.map Ins.cells) ∧ n ≤ c ∧ HasLen y.1 l.length := by
  obtain ⟨A, n, c, css, rfl, hr, hc, hd⟩ := open_rows (size := 3) Try.underlying22 cellsIns (by decide) hf
  have hel : ∀ cs ∈ css, ∃ s : Ins, cs = s.cells := fun cs hcs => by
    obtain ⟨i, hi, rfl⟩ := List.mem_iff_getElem.1 hcs
    rcases hd with ⟨_, h0⟩ | ⟨es, sp, _, _, hel⟩
    · have := hr.len
      omega
    · obtain ⟨q, y2, ht, _⟩ := hel i _ (List.getElem?_eq_getElem hi)
      exact trod_ins ht
  obtain ⟨l, rfl⟩ := rows_map Ins.cells css hel
  have hl : l.length = n := by have := hr.len; rw [List.length_map] at this; exact this
  exact ⟨A, n, c, l, rfl, hr, hc, by rw [hl]; exact hd.has⟩
set_option maxRecDepth 100000 in
theorem openPrg {b0 : Nat} {r : Reach} {v : Value} {d : DataW H} {p : List MemPlace} (hok : Value.okWide Try.prog W r b0 27 v) (h : DataW.Trod enc Try.prog W 0 (fun _ => true) true 27 v d p) :
    ∃ (d' : Pad) (p' : Prg), v = .agg (pcs d' p') ∧ PR0 W W.heap.size d' p' ∧ HasPrg d p' := by
  obtain ⟨cs, rfl, hsz, _⟩ : ∃ cs, v = .agg cs ∧ cs.size = Try.prog.cellsOf 27 ∧ Row.okWide Try.prog W r b0 27 cs := by
    simpa [Value.okWide, Try.underlying27] using hok
  obtain ⟨fuel, hf⟩ := h
  obtain ⟨ys, q, _, hag, hlen, hyl, hfield⟩ := DataW.trod_struct Try.underlying27 hf
  have hys : ys.length = 8 := hyl
  rw [cellsPrg] at hlen
  obtain ⟨l, hl⟩ : ∃ l, (Value.agg cs).cells.toList = l := ⟨_, rfl⟩
  rw [hl] at hlen hfield
  match l, hlen, ys, hys with
  | [v0, v1, v2, v3, v4, v5, v6, v7], _, [y0, y1, y2, y3, y4, y5, y6, y7], _ =>
    have t0 : DataW.trod enc Try.prog W 0 (fun _ => true) true q 22 [v0] = some y0 := by
      have h := hfield 0 _ rfl
      simpa [show Try.prog.cellsOf 22 = 1 by kernel_rfl] using h
    have t1 : DataW.trod enc Try.prog W 0 (fun _ => true) true q 23 [v1] = some y1 := by
      have h := hfield 1 _ rfl
      simpa [show Try.prog.cellsOf 23 = 1 by kernel_rfl] using h
    have t2 : DataW.trod enc Try.prog W 0 (fun _ => true) true q 24 [v2] = some y2 := by
      have h := hfield 2 _ rfl
      simpa [show Try.prog.cellsOf 24 = 1 by kernel_rfl] using h
    have t3 : DataW.trod enc Try.prog W 0 (fun _ => true) true q 25 [v3] = some y3 := by
      have h := hfield 3 _ rfl
      simpa [show Try.prog.cellsOf 25 = 1 by kernel_rfl] using h
    have t4 : DataW.trod enc Try.prog W 0 (fun _ => true) true q 3 [v4] = some y4 := by
      have h := hfield 4 _ rfl
      simpa [cellsI] using h
    have t5 : DataW.trod enc Try.prog W 0 (fun _ => true) true q 3 [v5] = some y5 := by
      have h := hfield 5 _ rfl
      simpa [cellsI] using h
    have t6 : DataW.trod enc Try.prog W 0 (fun _ => true) true q 3 [v6] = some y6 := by
      have h := hfield 6 _ rfl
      simpa [cellsI] using h
    have t7 : DataW.trod enc Try.prog W 0 (fun _ => true) true q 3 [v7] = some y7 := by
      have h := hfield 7 _ rfl
      simpa [cellsI] using h
    obtain ⟨A1, n1, c1, l1, rfl, a1, a2, a3⟩ := openCode t0
    obtain ⟨A2, n2, c2, l2, rfl, b1, b2, b3⟩ := openMs t1
    obtain ⟨A3, n3, c3, l3, rfl, g1, g2, g3⟩ := openRts t2
    obtain ⟨A4, n4, c4, l4, rfl, h1, h2, h3⟩ := openSnds t3
    obtain ⟨z4, e4, _, _⟩ := DataW.trod_int Try.underlying3 t4
    obtain ⟨z5, e5, _, _⟩ := DataW.trod_int Try.underlying3 t5
    obtain ⟨z6, e6, _, _⟩ := DataW.trod_int Try.underlying3 t6
    obtain ⟨z7, e7, _, _⟩ := DataW.trod_int Try.underlying3 t7
    simp only [List.cons.injEq, and_true] at e4 e5 e6 e7
    subst e4 e5 e6 e7
    refine ⟨⟨A1, n1, c1, A2, n2, c2, A3, n3, c3, A4, n4, c4⟩, ⟨l1, l2, l3, l4, z4, z5, z6, z7⟩, ?_, ⟨a1, b1, g1, h1, a2, b2, g2, h2⟩, y0.1, y1.1, y2.1, y3.1, y4.1, y5.1, y6.1, y7.1, ?_, a3, b3, g3, h3⟩
    · have e' : cs.toList = [.slice A1 n1 c1, .slice A2 n2 c2, .slice A3 n3 c3, .slice A4 n4 c4, .int .i64 z4, .int .i64 z5, .int .i64 z6, .int .i64 z7] := by simpa [Value.cells] using hl
      have : cs = #[.slice A1 n1 c1, .slice A2 n2 c2, .slice A3 n3 c3, .slice A4 n4 c4, .int .i64 z4, .int .i64 z5, .int .i64 z6, .int .i64 z7] := by rw [← e']
      rw [this]
      rfl
    · have := congrArg Prod.fst hag
      exact this
end
end Go.Proofs.Ytkmcjjoicpgjfaa
/-
  What the sizes of an argument say of a program. No statement of the seat is proved here.
-/
namespace Go.Proofs.Ytkmcjjoicpgjfaa
open Go Go.RowKit Go.Sh Go.ChangeShapes Go.WideShapes Go.ChangeAt

section
variable {H : Type}
theorem weights_all' {P : Program} {e : TypeId} : ∀ (xs : List (DataW H)) (x : DataW H), x ∈ xs → ∀ n ∈ x.weights P e, n ∈ DataW.weightsAll P e xs := by
  intro xs
  induction xs with
  | nil => intro x hx; cases hx
  | cons y ys ih =>
    intro x hx n hn
    simp only [DataW.weightsAll, List.mem_append]
    rcases List.mem_cons.1 hx with rfl | hx
    · exact .inl hn
    · exact .inr (ih x hx n hn)
theorem w_len {t e : TypeId} (ht : Try.prog.underlying t = some (.slice e)) (es sp : List (DataW H)) : (es.length + sp.length) * Try.prog.bytesOf e ∈ (DataW.slice es sp).weights Try.prog t := by
  simp [DataW.weights, ht]
theorem w_in {t e : TypeId} (ht : Try.prog.underlying t = some (.slice e)) {es sp : List (DataW H)} {x : DataW H} (hx : x ∈ es) {n : Nat} (hn : n ∈ x.weights Try.prog e) : n ∈ (DataW.slice es sp).weights Try.prog t := by
  simp only [DataW.weights, ht, List.mem_cons, List.mem_append]
  exact .inr (.inl (weights_all' es x hx n hn))
/-- a slice's length times an element's bytes is within reach -/
theorem w_has {t e : TypeId} (ht : Try.prog.underlying t = some (.slice e)) {d : DataW H} {n b : Nat} (hb : Try.prog.bytesOf e = b) (h : HasLen d n) (hall : ∀ x ∈ d.weights Try.prog t, x ≤ reachBytes) : n * b ≤ 140737488355328 := by
  rcases h with ⟨_, rfl⟩ | ⟨es, sp, rfl, rfl⟩
  · omega
  · have := hall _ (w_len ht es sp)
    rw [hb, Nat.add_mul] at this
    simp only [reachBytes] at this
    omega
theorem w_rows {t e f : TypeId} (ht : Try.prog.underlying t = some (.slice e)) (he : Try.prog.underlying e = some (.slice f)) {d : DataW H} {ls : List Nat} {b c : Nat} (hb : Try.prog.bytesOf e = b) (hc : Try.prog.bytesOf f = c) (h : HasRows d ls) (hall : ∀ x ∈ d.weights Try.prog t, x ≤ reachBytes) :
    ls.length * b ≤ 140737488355328 ∧ ∀ n ∈ ls, n * c ≤ 140737488355328 := by
  rcases h with ⟨_, rfl⟩ | ⟨es, sp, rfl, hl, hi⟩
  · exact ⟨by simp, fun n hn => by cases hn⟩
  · refine ⟨w_has ht hb (.inr ⟨es, sp, rfl, hl⟩) hall, fun n hn => ?_⟩
    obtain ⟨i, hin, rfl⟩ := List.getElem_of_mem hn
    obtain ⟨di, hdi, hlen⟩ := hi i hin
    rw [List.getD_eq_getElem?_getD, List.getElem?_eq_getElem hin] at hlen
    exact w_has he hc hlen fun x hx => hall x (w_in ht (List.mem_of_getElem? hdi) hx)
set_option maxRecDepth 100000 in
theorem fit_prg {d : DataW H} {p : Prg} (hd : HasPrg d p) (hall : ∀ x ∈ d.weights Try.prog 27, x ≤ reachBytes) : Fit p := by
  obtain ⟨d0, d1, d2, d3, d4, d5, d6, d7, rfl, h0, h1, h2, h3⟩ := hd
  have a0 : ∀ x ∈ d0.weights Try.prog 22, x ≤ reachBytes := fun x hx => hall x (by rw [DataW.weights, Try.underlying27]; exact DataW.weights_mem_each (j := 0) (t := 22) rfl rfl _ hx)
  have a1 : ∀ x ∈ d1.weights Try.prog 23, x ≤ reachBytes := fun x hx => hall x (by rw [DataW.weights, Try.underlying27]; exact DataW.weights_mem_each (j := 1) (t := 23) rfl rfl _ hx)
  have a2 : ∀ x ∈ d2.weights Try.prog 24, x ≤ reachBytes := fun x hx => hall x (by rw [DataW.weights, Try.underlying27]; exact DataW.weights_mem_each (j := 2) (t := 24) rfl rfl _ hx)
  have a3 : ∀ x ∈ d3.weights Try.prog 25, x ≤ reachBytes := fun x hx => hall x (by rw [DataW.weights, Try.underlying27]; exact DataW.weights_mem_each (j := 3) (t := 25) rfl rfl _ hx)
  have m := w_rows Try.underlying23 Try.underlying66 (b := 24) (c := 1) (by kernel_rfl) (by kernel_rfl) h1 a1
  have r := w_rows Try.underlying24 Try.underlying50 (b := 24) (c := 32) (by kernel_rfl) (by kernel_rfl) h2 a2
  rw [List.length_map] at m r
  refine ⟨w_has Try.underlying22 (by kernel_rfl) h0 a0, m.1, r.1, ?_, fun l hl => by have := m.2 _ (List.mem_map.2 ⟨l, hl, rfl⟩); omega, fun l hl => r.2 _ (List.mem_map.2 ⟨l, hl, rfl⟩), fun s hs => ?_⟩
  · rcases h3 with ⟨_, hn⟩ | ⟨es, sp, rfl, hl, _⟩
    · have : p.snds.length = 0 := by rw [← List.length_map (f := fun s : Snd => s.rts.length), hn]; rfl
      omega
    · rw [List.length_map] at hl
      exact w_has Try.underlying25 (by kernel_rfl) (.inr ⟨es, sp, rfl, hl⟩) a3
  · rcases h3 with ⟨_, hn⟩ | ⟨es, sp, rfl, hl, hi⟩
    · have h : s.rts.length ∈ p.snds.map fun s => s.rts.length := List.mem_map.2 ⟨s, hs, rfl⟩
      rw [hn] at h
      cases h
    · obtain ⟨i, hin, rfl⟩ := List.getElem_of_mem hs
      obtain ⟨di, hdi, e0, e1, e2, rfl, hlen⟩ := hi i (by rw [List.length_map]; exact hin)
      rw [List.getD_eq_getElem?_getD, List.getElem?_map, List.getElem?_eq_getElem hin] at hlen
      refine w_has Try.underlying30 (by kernel_rfl) hlen fun x hx => a3 x (w_in Try.underlying25 (List.mem_of_getElem? hdi) ?_)
      rw [DataW.weights, Try.underlying52]
      exact DataW.weights_mem_each (j := 1) (t := 30) rfl rfl _ hx
end
end Go.Proofs.Ytkmcjjoicpgjfaa
/-
  The final analysis of a program keeps its heights within bounds. No statement of the seat is proved here.
-/
namespace Go.Proofs.Ytkmcjjoicpgjfaa
open Go Go.RowKit Go.Sh

theorem goS_good {p : Prg} {n : Nat} (hf : Formed p) (hl : p.code.length = n) : ∀ (f : Nat) (s : St), Good n s → Good n (goS p n f s).2
  | 0, s, h => h
  | f + 1, s, h => by
    have h2 := (nextS_good h).1
    unfold goS
    split
    · rename_i hx
      have h3 := (procS_good hf h2 hl _ hx).1
      unfold thenS
      split
      · exact goS_good hf hl f _ h3
      · exact h3
    · exact h2
theorem anaS_good {p : Prg} (hf : Formed p) : Good p.code.length (anaS p).2 := by
  have h := (findS_good (st0_good p.code.length) 0 0 false (by decide) (by decide)).1
  unfold anaS thenS
  split
  · exact goS_good hf rfl _ _ h
  · exact h
/-- when Verify says no error, heights are within bounds -/
theorem verP_bounds {p : Prg} {ns : List Hp} (h : (verP p ns).1 = 0) : ∀ z ∈ (verP p ns).2.hs, -9223372036854775808 ≤ z ∧ z ≤ 9223372036854775807 := by
  by_cases h1 : fitP p ns = 0
  · have hf := fit_formed h1
    unfold verP at h ⊢
    rw [if_neg (by simp [h1])] at h ⊢
    by_cases h2 : rfP p = 0
    · rw [if_neg (by simp [h2])] at h ⊢
      have hg := anaS_good hf
      intro z hz
      obtain ⟨i, hi, rfl⟩ := List.getElem_of_mem hz
      have hb := hg.hh i (by rw [← hg.lh]; exact hi)
      have e : it (anaS p).2.hs i = (anaS p).2.hs[i] := by
        unfold it
        rw [List.getD_eq_getElem?_getD, List.getElem?_eq_getElem hi]
        rfl
      rw [e] at hb
      omega
    · rw [if_pos h2] at h
      exact absurd h h2
  · unfold verP at h
    rw [if_pos h1] at h
    exact absurd h h1
end Go.Proofs.Ytkmcjjoicpgjfaa
/-
  In a program whose analysis ends without an error each instruction that is reached finds what it takes, stays within the stack, and leads to one that is reached with that height: in plain Lean. No statement of the seat is proved here.
-/
namespace Go.Proofs.Ytkmcjjoicpgjfaa
open Go Go.RowKit Go.Sh

/-- the place k was reached with that height, of main or a timer -/
def Fd (n : Nat) (s : St) (k : Int) (h : Int) (t : Bool) : Prop := 0 ≤ k ∧ k < n ∧ it s.hs k.toNat = h ∧ bat s.ts k.toNat = t
/-- the height behind an op -/
def bhI (o : Nat) (x : Int) : Int := x - ((efN o).1 : Int) + ((efN o).2 : Int)
def opA (p : Prg) (i : Nat) : Nat := (iat p.code i).op.toNat
/-- what holds of an instruction that was looked at -/
structure Okd (p : Prg) (n : Nat) (s : St) (i : Nat) : Prop where
  pop : ((efN (opA p i)).1 : Int) ≤ it s.hs i
  stk : bhI (opA p i) (it s.hs i) ≤ p.stack
  pk : bhI (opA p i) (it s.hs i) ≤ s.pk
  fin : opA p i = 0 ∨ opA p i = 16 → it s.hs i = 0 ∧ bat s.ts i = decide (opA p i = 16)
  wai : opA p i = 12 → bat s.ts i = false
  nxt : opA p i ≠ 0 → opA p i ≠ 16 → opA p i ≠ 7 → Fd n s ((i + 1 : Nat) : Int) (bhI (opA p i) (it s.hs i)) (bat s.ts i)
  jmp : opA p i = 7 ∨ opA p i = 8 → Fd n s (iat p.code i).a (bhI (opA p i) (it s.hs i)) (bat s.ts i)
  aft : opA p i = 13 → Fd n s (iat p.code i).a 0 true
/-- what was reached stays as it is -/
structure StLe (n : Nat) (s s' : St) : Prop where
  h : ∀ j, j < n → 0 ≤ it s.hs j → it s'.hs j = it s.hs j ∧ bat s'.ts j = bat s.ts j
  p : s.pk ≤ s'.pk
theorem StLe.refl (n : Nat) (s : St) : StLe n s s := ⟨fun _ _ _ => ⟨rfl, rfl⟩, Int.le_refl _⟩
theorem StLe.trans {n : Nat} {a b c : St} (h : StLe n a b) (k : StLe n b c) : StLe n a c :=
  ⟨fun j hj h0 => by
    obtain ⟨e1, e2⟩ := h.h j hj h0
    obtain ⟨f1, f2⟩ := k.h j hj (by rw [e1]; exact h0)
    exact ⟨f1.trans e1, f2.trans e2⟩, Int.le_trans h.p k.p⟩
theorem Fd.mono {n : Nat} {s s' : St} {k h : Int} {t : Bool} (hf : Fd n s k h t) (h0 : 0 ≤ h) (hl : StLe n s s') : Fd n s' k h t := by
  obtain ⟨a, b, c, d⟩ := hf
  obtain ⟨e1, e2⟩ := hl.h k.toNat (by omega) (by rw [c]; exact h0)
  exact ⟨a, b, e1.trans c, e2.trans d⟩
theorem Okd.mono {p : Prg} {n : Nat} {s s' : St} {i : Nat} (h : Okd p n s i) (hi : i < n) (hl : StLe n s s') : Okd p n s' i := by
  have h0 : 0 ≤ it s.hs i := Int.le_trans (Int.natCast_nonneg _) h.pop
  have hb : 0 ≤ bhI (opA p i) (it s.hs i) := by have := h.pop; unfold bhI; omega
  obtain ⟨e1, e2⟩ := hl.h i hi h0
  refine ⟨by rw [e1]; exact h.pop, by rw [e1]; exact h.stk, by rw [e1]; exact Int.le_trans h.pk hl.p, by rw [e1, e2]; exact h.fin, by rw [e2]; exact h.wai, ?_, ?_, ?_⟩
  · rw [e1, e2]; exact fun a b c => (h.nxt a b c).mono hb hl
  · rw [e1, e2]; exact fun a => (h.jmp a).mono hb hl
  · exact fun a => (h.aft a).mono (Int.le_refl _) hl
/-- what holds of an analysis on its way; of ex nothing is asked -/
structure Rm (p : Prg) (n : Nat) (s : St) (ex : Nat) : Prop where
  g : Good n s
  un : ∀ i, i < n → it s.hs i < 0 → bat s.ts i = false ∧ bat s.wt i = false
  ok : ∀ i, i < n → i ≠ ex → 0 ≤ it s.hs i → bat s.wt i = false → Okd p n s i
  lo : ∀ i, i < s.fs → bat s.wt i = false
  p0 : 0 ≤ s.pk
  pa : s.pk = 0 ∨ ∃ i, i < n ∧ 0 ≤ it s.hs i ∧ bhI (opA p i) (it s.hs i) = s.pk
theorem bat_set (l : List Bool) (k j : Nat) (x : Bool) (h : k < l.length) : bat (l.set k x) j = if j = k then x else bat l j := by
  unfold bat
  rw [List.getD_eq_getElem?_getD, List.getD_eq_getElem?_getD, List.getElem?_set]
  by_cases hj : k = j
  · subst hj
    rw [if_pos rfl, if_pos h, if_pos rfl]
    rfl
  · rw [if_neg hj, if_neg (Ne.symm hj)]
theorem thenS_zero {r : Int × St} {f : St → Int × St} (h : (thenS r f).1 = 0) : r.1 = 0 ∧ thenS r f = f r.2 := by
  unfold thenS at h ⊢
  by_cases hr : r.1 = 0
  · rw [if_pos hr]; exact ⟨hr, rfl⟩
  · rw [if_neg hr] at h; exact absurd h hr
set_option maxRecDepth 100000 in
theorem findS_rm {p : Prg} {n : Nat} {s : St} {ex : Nat} (hg : Rm p n s ex) (k : Nat) (h : Int) (t : Bool) (h0 : 0 ≤ h) (h1 : h ≤ 64) (hz : (findS n s (k : Int) h t).1 = 0) :
    Rm p n (findS n s (k : Int) h t).2 ex ∧ StLe n s (findS n s (k : Int) h t).2 ∧ Fd n (findS n s (k : Int) h t).2 (k : Int) h t ∧ (findS n s (k : Int) h t).2.pk = s.pk := by
  have hG := (findS_good hg.g k h t h0 h1).1
  unfold findS at hz hG ⊢
  by_cases a1 : (n : Int) ≤ (k : Int)
  · rw [if_pos a1] at hz; exact absurd hz (by show ¬ (14 : Int) = 0; decide)
  · rw [if_neg a1] at hz hG ⊢
    rw [Int.toNat_natCast] at hz hG ⊢
    have hk : k < n := by omega
    by_cases a2 : 0 ≤ it s.hs k
    · rw [if_pos a2] at hz hG ⊢
      by_cases a3 : (bat s.ts k != t) = true
      · rw [if_pos a3] at hz; exact absurd hz (by show ¬ (10 : Int) = 0; decide)
      · rw [if_neg a3] at hz hG ⊢
        by_cases a4 : it s.hs k ≠ h
        · rw [if_pos a4] at hz; exact absurd hz (by show ¬ (13 : Int) = 0; decide)
        · rw [if_neg a4]
          refine ⟨hg, StLe.refl _ _, ⟨by omega, by omega, ?_, ?_⟩, rfl⟩
          · rw [Int.toNat_natCast]; show it s.hs k = h; omega
          · rw [Int.toNat_natCast]; show bat s.ts k = t; simpa using a3
    · rw [if_neg a2] at hz hG ⊢
      have lh : k < s.hs.length := by rw [hg.g.lh]; exact hk
      have lt : k < s.ts.length := by rw [hg.g.lt]; exact hk
      have lw : k < s.wt.length := by rw [hg.g.lw]; exact hk
      have hle : StLe n s { s with hs := s.hs.set k h, ts := s.ts.set k t, wt := s.wt.set k true, fs := min s.fs k } := by
        refine ⟨fun j hj hj0 => ?_, Int.le_refl _⟩
        have hjk : j ≠ k := by rintro rfl; exact a2 hj0
        simp only
        rw [it_set _ _ _ _ lh, bat_set _ _ _ _ lt, if_neg hjk, if_neg hjk]
        exact ⟨rfl, rfl⟩
      refine ⟨⟨hG, ?_, ?_, ?_, hg.p0, ?_⟩, hle, ⟨by omega, by omega, ?_, ?_⟩, rfl⟩
      · intro i hi
        simp only
        rw [it_set _ _ _ _ lh, bat_set _ _ _ _ lt, bat_set _ _ _ _ lw]
        by_cases hik : i = k
        · rw [if_pos hik, if_pos hik, if_pos hik]; intro hh; omega
        · rw [if_neg hik, if_neg hik, if_neg hik]; exact hg.un i hi
      · intro i hi hx
        simp only
        rw [it_set _ _ _ _ lh, bat_set _ _ _ _ lw]
        by_cases hik : i = k
        · rw [if_pos hik, if_pos hik]; intro _ hh; cases hh
        · rw [if_neg hik, if_neg hik]; exact fun x y => (hg.ok i hi hx x y).mono hi hle
      · intro i hi
        simp only at hi ⊢
        rw [bat_set _ _ _ _ lw, if_neg (by omega)]
        exact hg.lo i (by omega)
      · refine hg.pa.imp id ?_
        rintro ⟨i, hi, x, y⟩
        refine ⟨i, hi, ?_⟩
        have := (hle.h i hi x).1
        rw [this]
        exact ⟨x, y⟩
      · simp only
        rw [Int.toNat_natCast, it_set _ _ _ _ lh, if_pos rfl]
      · simp only
        rw [Int.toNat_natCast, bat_set _ _ _ _ lt, if_pos rfl]
set_option maxRecDepth 100000 in
theorem fwT_low {wt : List Bool} : ∀ m i j, i ≤ j → j < fwT wt i m → bat wt j = false
  | 0, i, j, h1, h2 => by unfold fwT at h2; omega
  | m + 1, i, j, h1, h2 => by
    unfold fwT at h2
    by_cases hb : bat wt i = true
    · rw [if_pos hb] at h2; omega
    · rw [if_neg hb] at h2
      by_cases hj : i = j
      · subst hj; simpa using hb
      · exact fwT_low m (i + 1) j (by omega) h2
theorem nextS_rm {p : Prg} {n : Nat} {s : St} (hg : Rm p n s n) :
    StLe n s (nextS n s).2 ∧ (if (nextS n s).1 < n then Rm p n (nextS n s).2 (nextS n s).1 ∧ 0 ≤ it (nextS n s).2.hs (nextS n s).1 else Rm p n (nextS n s).2 n ∧ ∀ i, i < n → bat (nextS n s).2.wt i = false) := by
  have hG := (nextS_good hg.g).1
  have hle := fwT_le s.wt (n - s.fs) s.fs
  have htr := fwT_true (wt := s.wt) (n - s.fs) s.fs
  have hlo := fwT_low (wt := s.wt) (n - s.fs) s.fs
  have hfs := hg.g.fs
  unfold nextS at hG ⊢
  generalize fwT s.wt s.fs (n - s.fs) = x at *
  by_cases hx : x < n
  · rw [if_pos hx] at hG ⊢
    simp only at hG ⊢
    rw [if_pos hx]
    have lw : x < s.wt.length := by rw [hg.g.lw]; exact hx
    have hb := htr (by omega)
    have hx0 : 0 ≤ it s.hs x := by
      rcases Int.lt_or_le (it s.hs x) 0 with h | h
      · have := (hg.un x hx h).2
        rw [hb] at this
        cases this
      · exact h
    have hle2 : StLe n s { s with wt := s.wt.set x false, fs := x } := ⟨fun _ _ _ => ⟨rfl, rfl⟩, Int.le_refl _⟩
    refine ⟨hle2, ⟨hG, ?_, ?_, ?_, hg.p0, hg.pa⟩, hx0⟩
    · intro i hi hh
      simp only at hh ⊢
      refine ⟨(hg.un i hi hh).1, ?_⟩
      rw [bat_set _ _ _ _ lw]
      split
      · rfl
      · exact (hg.un i hi hh).2
    · intro i hi hix hh hw
      simp only at hh hw
      rw [bat_set _ _ _ _ lw, if_neg hix] at hw
      exact (hg.ok i hi (by omega) hh hw).mono hi hle2
    · intro i hi
      simp only at hi ⊢
      rw [bat_set _ _ _ _ lw, if_neg (by omega)]
      rcases Nat.lt_or_ge i s.fs with h | h
      · exact hg.lo i h
      · exact hlo i h hi
  · rw [if_neg hx] at hG ⊢
    simp only at hG ⊢
    rw [if_neg (Nat.lt_irrefl n)]
    have hle2 : StLe n s { s with fs := n } := ⟨fun _ _ _ => ⟨rfl, rfl⟩, Int.le_refl _⟩
    have hall : ∀ i, i < n → bat s.wt i = false := fun i hi => by
      rcases Nat.lt_or_ge i s.fs with h | h
      · exact hg.lo i h
      · exact hlo i h (by omega)
    exact ⟨hle2, ⟨hG, hg.un, fun i hi hix hh hw => (hg.ok i hi hix hh hw).mono hi hle2, hall, hg.p0, hg.pa⟩, hall⟩
/-- nothing is found, or one more place -/
theorem step_rm {p : Prg} {n : Nat} {s : St} {ex : Nat} (hg : Rm p n s ex) (c : Prop) [Decidable c] (k : Nat) (h : Int) (t : Bool) (h0 : 0 ≤ h) (h1 : h ≤ 64) (hz : (if c then findS n s (k : Int) h t else (0, s)).1 = 0) :
    Rm p n (if c then findS n s (k : Int) h t else (0, s)).2 ex ∧ StLe n s (if c then findS n s (k : Int) h t else (0, s)).2 ∧ (c → Fd n (if c then findS n s (k : Int) h t else (0, s)).2 (k : Int) h t) ∧ (if c then findS n s (k : Int) h t else (0, s)).2.pk = s.pk := by
  by_cases hc : c
  · rw [if_pos hc] at hz ⊢
    obtain ⟨a, b, d, e⟩ := findS_rm hg k h t h0 h1 hz
    exact ⟨a, b, fun _ => d, e⟩
  · rw [if_neg hc] at hz ⊢
    exact ⟨hg, StLe.refl _ _, fun h => absurd h hc, rfl⟩
theorem procS_rm {p : Prg} {n : Nat} {s : St} (hf : Formed p) (k : Nat) (hg : Rm p n s k) (hl : p.code.length = n) (hk : k < n) (hx0 : 0 ≤ it s.hs k) (hz : (procS p n s k).1 = 0) :
    Rm p n (procS p n s k).2 n ∧ StLe n s (procS p n s k).2 := by
  have hx := hg.g.hh k hk
  have hsh := hf.ins _ (iat_mem (l := p.code) (k := k) (by omega))
  have hst := hf.stack
  have ha : (iat p.code k).op.toNat = 7 ∨ (iat p.code k).op.toNat = 8 ∨ (iat p.code k).op.toNat = 13 → 0 ≤ (iat p.code k).a := fun ho => by
    have hu : usN (iat p.code k).op.toNat = 2 := by rcases ho with e | e | e <;> rw [e] <;> rfl
    unfold shB at hsh
    rw [if_neg (by omega), if_pos hu, Bool.and_eq_true, wi_iff] at hsh
    exact hsh.1.1
  have key : ∀ s', Okd p n s' k → Rm p n s' k → Rm p n s' n := fun s' ho hr => ⟨hr.g, hr.un, fun i hi _ hh hw => by
    by_cases hik : i = k
    · rw [hik]; exact ho
    · exact hr.ok i hi hik hh hw, hr.lo, hr.p0, hr.pa⟩
  have okd : ∀ s', StLe n s s' → _ := fun s' hl => (hl.h k hk hx0)
  unfold procS procT at hz ⊢
  have he := efN_le (iat p.code k).op.toNat
  by_cases c1 : (((iat p.code k).op.toNat = 0 ∨ (iat p.code k).op.toNat = 12) ∧ bat s.ts k = true) ∨ ((iat p.code k).op.toNat = 16 ∧ bat s.ts k = false)
  · rw [if_pos c1] at hz; exact absurd hz (by show ¬ (10 : Int) = 0; decide)
  rw [if_neg c1] at hz ⊢
  by_cases c2 : it s.hs k < ((efN (iat p.code k).op.toNat).1 : Int) ∨ p.stack < it s.hs k - ((efN (iat p.code k).op.toNat).1 : Int) + ((efN (iat p.code k).op.toNat).2 : Int) ∨ (((iat p.code k).op.toNat = 0 ∨ (iat p.code k).op.toNat = 16) ∧ it s.hs k ≠ 0)
  · rw [if_pos c2] at hz; exact absurd hz (by show ¬ (13 : Int) = 0; decide)
  rw [if_neg c2] at hz ⊢
  obtain ⟨y, hy⟩ : ∃ y, it s.hs k - ((efN (iat p.code k).op.toNat).1 : Int) + ((efN (iat p.code k).op.toNat).2 : Int) = y := ⟨_, rfl⟩
  have hbh : bhI (opA p k) (it s.hs k) = y := hy
  rw [hy] at c2 hz ⊢
  have b1 : 0 ≤ y := by omega
  have b2 : y ≤ 64 := by omega
  have hle1 : StLe n s { s with pk := max s.pk y } := ⟨fun _ _ _ => ⟨rfl, rfl⟩, by simp only; omega⟩
  have hr1 : Rm p n { s with pk := max s.pk y } k := by
    refine ⟨(good_pk hg.g _).1, hg.un, fun i hi hik hh hw => (hg.ok i hi hik hh hw).mono hi hle1, hg.lo, by have := hg.p0; simp only; omega, ?_⟩
    simp only
    by_cases hm : s.pk ≤ y
    · right
      exact ⟨k, hk, hx0, by rw [hbh]; omega⟩
    · have e : max s.pk y = s.pk := by omega
      rw [e]
      exact hg.pa
  obtain ⟨z1, e1⟩ := thenS_zero hz
  rw [e1] at hz ⊢
  obtain ⟨r1, l1, f1, p1⟩ := step_rm hr1 ((iat p.code k).op.toNat ≠ 0 ∧ (iat p.code k).op.toNat ≠ 16 ∧ (iat p.code k).op.toNat ≠ 7) (k + 1) y (bat s.ts k) b1 b2 z1
  generalize (if (iat p.code k).op.toNat ≠ 0 ∧ (iat p.code k).op.toNat ≠ 16 ∧ (iat p.code k).op.toNat ≠ 7 then findS n { s with pk := max s.pk y } ((k + 1 : Nat) : Int) y (bat s.ts k) else (0, { s with pk := max s.pk y })) = q1 at *
  obtain ⟨z2, e2⟩ := thenS_zero hz
  rw [e2] at hz ⊢
  have hj : (if (iat p.code k).op.toNat = 7 ∨ (iat p.code k).op.toNat = 8 then findS n q1.2 (iat p.code k).a y (bat s.ts k) else (0, q1.2)) = (if (iat p.code k).op.toNat = 7 ∨ (iat p.code k).op.toNat = 8 then findS n q1.2 (((iat p.code k).a.toNat : Nat) : Int) y (bat s.ts k) else (0, q1.2)) := by
    by_cases ho : (iat p.code k).op.toNat = 7 ∨ (iat p.code k).op.toNat = 8
    · rw [if_pos ho, if_pos ho, Int.toNat_of_nonneg (ha (by omega))]
    · rw [if_neg ho, if_neg ho]
  rw [hj] at z2 hz ⊢
  obtain ⟨r2, l2, f2, p2⟩ := step_rm r1 ((iat p.code k).op.toNat = 7 ∨ (iat p.code k).op.toNat = 8) (iat p.code k).a.toNat y (bat s.ts k) b1 b2 z2
  generalize (if (iat p.code k).op.toNat = 7 ∨ (iat p.code k).op.toNat = 8 then findS n q1.2 (((iat p.code k).a.toNat : Nat) : Int) y (bat s.ts k) else (0, q1.2)) = q2 at *
  have hj : (if (iat p.code k).op.toNat = 13 then findS n q2.2 (iat p.code k).a 0 true else (0, q2.2)) = (if (iat p.code k).op.toNat = 13 then findS n q2.2 (((iat p.code k).a.toNat : Nat) : Int) 0 true else (0, q2.2)) := by
    by_cases ho : (iat p.code k).op.toNat = 13
    · rw [if_pos ho, if_pos ho, Int.toNat_of_nonneg (ha (by omega))]
    · rw [if_neg ho, if_neg ho]
  rw [hj] at hz ⊢
  obtain ⟨r3, l3, f3, p3⟩ := step_rm r2 ((iat p.code k).op.toNat = 13) (iat p.code k).a.toNat 0 true (by decide) (by decide) hz
  generalize (if (iat p.code k).op.toNat = 13 then findS n q2.2 (((iat p.code k).a.toNat : Nat) : Int) 0 true else (0, q2.2)) = q3 at *
  have lt := ((hle1.trans l1).trans l2).trans l3
  refine ⟨key _ ?_ r3, lt⟩
  obtain ⟨g1, g2⟩ := lt.h k hk hx0
  have cast : ∀ h : (iat p.code k).op.toNat = 7 ∨ (iat p.code k).op.toNat = 8 ∨ (iat p.code k).op.toNat = 13, (((iat p.code k).a.toNat : Nat) : Int) = (iat p.code k).a := fun h => Int.toNat_of_nonneg (ha h)
  have hop : opA p k = (iat p.code k).op.toNat := rfl
  refine ⟨?_, ?_, ?_, ?_, ?_, ?_, ?_, ?_⟩
  · rw [g1, hop]; omega
  · rw [g1, hbh]; omega
  · rw [g1, hbh, p3, p2, p1]; simp only; omega
  · rw [g1, g2, hop]
    intro ho
    refine ⟨by omega, ?_⟩
    rcases ho with ho | ho
    · rw [ho]
      cases hb : bat s.ts k
      · rfl
      · exact absurd (.inl ⟨.inl ho, hb⟩) c1
    · rw [ho]
      cases hb : bat s.ts k
      · exact absurd (.inr ⟨ho, hb⟩) c1
      · rfl
  · rw [g2, hop]
    intro ho
    cases hb : bat s.ts k
    · rfl
    · exact absurd (.inl ⟨.inr ho, hb⟩) c1
  · rw [g1, g2, hbh, hop]
    exact fun x1 x2 x3 => ((f1 ⟨x1, x2, x3⟩).mono b1 l2).mono b1 l3
  · rw [g1, g2, hbh, hop]
    intro ho
    have := (f2 ho).mono b1 l3
    rw [cast (by omega)] at this
    exact this
  · rw [hop]
    intro ho
    have := f3 ho
    rw [cast (by omega)] at this
    exact this
theorem goS_rm {p : Prg} {n : Nat} (hf : Formed p) (hl : p.code.length = n) : ∀ (f : Nat) (s : St), Rm p n s n → mu s < f → (goS p n f s).1 = 0 → Rm p n (goS p n f s).2 n ∧ StLe n s (goS p n f s).2 ∧ ∀ i, i < n → bat (goS p n f s).2.wt i = false
  | 0, s, _, h, _ => absurd h (Nat.not_lt_zero _)
  | f + 1, s, hg, hm, hz => by
    have hN := nextS_rm hg
    have hNG := nextS_good hg.g
    unfold goS at hz ⊢
    by_cases hx : (nextS n s).1 < n
    · rw [if_pos hx] at hz hN hNG ⊢
      obtain ⟨z1, e1⟩ := thenS_zero hz
      rw [e1] at hz ⊢
      obtain ⟨r1, l1⟩ := procS_rm hf _ hN.2.1 hl hx hN.2.2 z1
      have hm2 := (procS_good hf hNG.1 hl _ hx).2
      obtain ⟨r2, l2, w2⟩ := goS_rm hf hl f _ r1 (by omega) hz
      exact ⟨r2, (hN.1.trans l1).trans l2, w2⟩
    · rw [if_neg hx] at hN ⊢
      exact ⟨hN.2.1, hN.1, hN.2.2⟩
theorem st0_rm (p : Prg) (n : Nat) : Rm p n (st0 n) n := by
  have hneg : ∀ i, i < n → it (st0 n).hs i = -1 := fun i hi => by
    unfold it st0
    rw [List.getD_eq_getElem?_getD]
    simp [hi]
  have hf : ∀ i, bat (List.replicate n false) i = false := fun i => by
    unfold bat
    rw [List.getD_eq_getElem?_getD, List.getElem?_replicate]
    split <;> rfl
  exact ⟨st0_good n, fun i _ _ => ⟨hf i, hf i⟩, fun i hi _ h _ => by rw [hneg i hi] at h; exact absurd h (by decide), fun i _ => hf i, Int.le_refl _, .inl rfl⟩
/-- an analysis without an error: what it says of each instruction -/
theorem anaS_room {p : Prg} (hf : Formed p) (hz : (anaS p).1 = 0) :
    Rm p p.code.length (anaS p).2 p.code.length ∧ (∀ i, i < p.code.length → bat (anaS p).2.wt i = false) ∧ Fd p.code.length (anaS p).2 0 0 false := by
  unfold anaS at hz ⊢
  obtain ⟨z1, e1⟩ := thenS_zero hz
  rw [e1] at hz ⊢
  obtain ⟨r1, l1, f1, _⟩ := findS_rm (st0_rm p p.code.length) 0 0 false (by decide) (by decide) z1
  have hm := (findS_good (st0_good p.code.length) 0 0 false (by decide) (by decide)).2
  have hm0 := mu_st0 p.code.length
  obtain ⟨r2, l2, w2⟩ := goS_rm hf rfl _ _ r1 (by omega) hz
  exact ⟨r2, w2, f1.mono (Int.le_refl _) l2⟩
end Go.Proofs.Ytkmcjjoicpgjfaa
/-
  Contracts of shallotref19.Takes and Puts and of shallotlaw19.found at a place that was reached. No statement of the seat is proved here.
-/
namespace Go.Proofs.Ytkmcjjoicpgjfaa
open Go Go.RowKit Go.Sh

set_option maxRecDepth 100000 in
theorem Takes_any (o : Nat) (ho : o ≤ 16) (w : World) : Calls Try.prog 8 #[.int .u8 (o : Int)] w (fun e w' => e = .returned (.int .i64 ((efN o).1 : Int)) ∧ w = w') := by
  rcases u8_cases ho with rfl | rfl | rfl | rfl | rfl | rfl | rfl | rfl | rfl | rfl | rfl | rfl | rfl | rfl | rfl | rfl | rfl
  all_goals
    clear ho
    go_enter Try.func8, Try.ntmps8
    go_wp2
    go_ret
    exact ⟨rfl, rfl⟩
set_option maxRecDepth 100000 in
theorem Puts_any (o : Nat) (ho : o ≤ 16) (w : World) : Calls Try.prog 9 #[.int .u8 (o : Int)] w (fun e w' => e = .returned (.int .i64 ((efN o).2 : Int)) ∧ w = w') := by
  rcases u8_cases ho with rfl | rfl | rfl | rfl | rfl | rfl | rfl | rfl | rfl | rfl | rfl | rfl | rfl | rfl | rfl | rfl | rfl
  all_goals
    clear ho
    go_enter Try.func9, Try.ntmps9
    go_wp2
    go_ret
    exact ⟨rfl, rfl⟩
set_option maxRecDepth 100000 in
set_option maxHeartbeats 2000000 in
theorem found_is (gh gt n k : Nat) (pk h : Int) (t : Bool) (hs : List Int) (ts : List Bool) (w : World) (hH : w.heap[gh]? = some (.cells (iv hs).toArray 3 (0, 0))) (hT : w.heap[gt]? = some (.cells (tv ts).toArray 4 (0, 0))) (lh : hs.length = n) (lt : ts.length = n) (hk : k < n) (hh : it hs k = h) (ht : bat ts k = t) :
    Calls Try.prog 10 #[.agg #[.slice (some ⟨gh, 0, none⟩) n n, .slice (some ⟨gt, 0, none⟩) n n, .int .i64 pk], .int .i64 (k : Int), .int .i64 h, .bool t] w (fun e w' => e = .returned (.bool true) ∧ Below w.heap.size w w') := by
  have hb := (Below.refl w.heap.size w).alloc (Nat.le_refl _) (.cells #[.slice (some ⟨gh, 0, none⟩) n n, .slice (some ⟨gt, 0, none⟩) n n, .int .i64 pk] 33)
  have ch : (w.alloc (.cells #[.slice (some ⟨gh, 0, none⟩) n n, .slice (some ⟨gt, 0, none⟩) n n, .int .i64 pk] 33)).cell? ⟨gh, k, none⟩ = some (.int .i64 h) := by
    rw [blk_cell ((hb.block gh (Array.getElem?_eq_some_iff.1 hH).1).trans hH), List.getElem?_toArray, iv_at' _ (by omega), hh]
  have ct : (w.alloc (.cells #[.slice (some ⟨gh, 0, none⟩) n n, .slice (some ⟨gt, 0, none⟩) n n, .int .i64 pk] 33)).cell? ⟨gt, k, none⟩ = some (.bool t) := by
    rw [blk_cell ((hb.block gt (Array.getElem?_eq_some_iff.1 hT).1).trans hT), List.getElem?_toArray, tv_at _ (by omega), ht]
  have dk : (k : Int) < (n : Int) := by omega
  have HB := Lib.hid hb
  clear hb hH hT hh ht lh lt
  go_enter Try.func10, Try.ntmps10
  go_wp2_with fail
  go_ret
  exact ⟨by simp, HB.out⟩
end Go.Proofs.Ytkmcjjoicpgjfaa
/-
  The walk of shallotlaw19.VerifyRoom: it returns true. Conditions: the sizes that slices can have.
-/
namespace Go.Proofs.Ytkmcjjoicpgjfaa
open Go Go.RowKit Go.Sh

/-- when Verify says no error, the program is in form, has instructions, and the analysis is whole -/
theorem verP_ok {p : Prg} {ns : List Hp} (h : (verP p ns).1 = 0) : Formed p ∧ p.code.length ≠ 0 ∧ verP p ns = anaS p := by
  by_cases h1 : fitP p ns = 0
  · have hf := fit_formed h1
    have e : verP p ns = if rfP p ≠ 0 then (rfP p, st0 0) else anaS p := by unfold verP; rw [if_neg (by simp [h1])]
    by_cases h2 : rfP p = 0
    · rw [if_neg (by simp [h2])] at e
      refine ⟨hf, fun h3 => ?_, e⟩
      have : rfP p ≠ 0 := by
        unfold rfP
        rw [if_pos h3]
        split
        · decide
        · split
          · decide
          · split
            · decide
            · decide
      exact this h2
    · rw [if_pos h2] at e
      rw [e] at h
      exact absurd h h2
  · unfold verP at h
    rw [if_pos h1] at h
    exact absurd h h1
theorem TakesQ (o : Nat) (ho : o ≤ 16) (w : World) : Calls Try.prog 8 #[.int .u8 (o : Int)] w (fun e w' => e = .returned (.int .i64 ((efN o).1 : Int)) ∧ w' = w) := (Takes_any o ho w).mono fun _ _ h => ⟨h.1, h.2.symm⟩
theorem PutsQ (o : Nat) (ho : o ≤ 16) (w : World) : Calls Try.prog 9 #[.int .u8 (o : Int)] w (fun e w' => e = .returned (.int .i64 ((efN o).2 : Int)) ∧ w' = w) := (Puts_any o ho w).mono fun _ _ h => ⟨h.1, h.2.symm⟩
set_option maxHeartbeats 8000000 in
set_option maxRecDepth 100000 in
theorem VerifyRoom_walk (d : Pad) (p : Prg) (A : Option Addr) (n c : Nat) (ns : List Hp) (w : World) (hp : PR w w.heap.size d p) (hf : Fit p) (hr : RR w w.heap.size 66 A n (ns.map Hp.node)) (hok : ∀ h ∈ ns, h.OK) (hn : n * 88 ≤ 140737488351232) :
    Calls Try.prog 3 #[.agg (pcs d p), .slice A n c] w (fun e w' => e = .returned (.bool true) ∧ Below w.heap.size w w') := by
  have HF := Lib.hid hf
  have HOK := Lib.hid hok
  have hz1 : (w.alloc (.cells (pcs d p) 27)).heap.size = w.heap.size + 1 := by simp
  have hb1 := (Below.refl w.heap.size w).alloc (Nat.le_refl _) (.cells (pcs d p) 27)
  have HB1 := Lib.hid hb1
  have HP1 := Lib.hid (hp.below hb1)
  have HR1 := Lib.hid (hr.below hb1)
  have HC1 := Lib.hid (show (w.alloc (.cells (pcs d p) 27)).heap[w.heap.size]? = some (.cells (pcs d p).toList.toArray 27 (0, 0)) from heap_alloc_new w _)
  have HI := Lib.hid (show (Try.prog.info? 27).map (·.size) = some (pcs d p).toList.length by
    obtain ⟨A1, n1, k1, A2, n2, k2, A3, n3, k3, A4, n4, k4⟩ := d
    obtain ⟨_, _, _, _, v, st, k, f⟩ := p
    kernel_rfl)
  have HPL := Lib.hid (show (pcs d p).toList.toArray = pcs d p from rfl)
  have HAW := Lib.hid (fun W : World => awake19_any W)
  have HTW := Lib.hid (fun (W : World) (B : Nat) (h : PR W B d p) (hB : B ≤ W.heap.size) => Twin_any d p W B h hB hf)
  have hps : (pcs d p).size = 8 := rfl
  clear hp hr hb1 hf hok
  have HL0 := Lib.hid (show (pcs d p).toList[0]? = some (.slice d.A1 d.n1 d.c1) from rfl)
  have HL5 := Lib.hid (show (pcs d p).toList[5]? = some (.int .i64 p.stack) from rfl)
  obtain ⟨X, hX⟩ : ∃ X, pcs d p = X := ⟨_, rfl⟩
  rw [hX] at HB1 HP1 HR1 HC1 HI HPL HTW HL0 HL5 hps hz1 ⊢
  have hxe : ¬ X = #[] := by intro h; rw [h] at hps; cases hps
  generalize X.toList = L at *
  have HX := Lib.hid hX
  clear hX
  go_enter Try.func3, Try.ntmps3
  go_wp2_with fail
  generalize w.alloc (.cells X 27) = w1 at *
  refine (HAW.out w1).mono ?_
  rintro e w2 ⟨rfl, hb2⟩
  rw [hz1] at hb2
  have HB2 := Lib.hid hb2
  have HC2 := Lib.hid (blk_range ((hb2.block w.heap.size (Nat.lt_succ_self _)).trans HC1.out))
  have HP2 := Lib.hid (HP1.out.below (hb2.mono (Nat.le_succ _)))
  have HR2 := Lib.hid (HR1.out.below (hb2.mono (Nat.le_succ _)))
  have hs2 := hb2.size
  clear hb2
  go_wp2_with (refine wl_load_mid (by rfl) 27 _ (by rfl) w.heap.size 0 (by rfl) L _ HC2.out Try.underlying27 rfl HI.out ?_; rw [HPL.out])
  refine (HTW.out w2 w.heap.size HP2.out (by omega)).mono ?_
  rintro e w3 ⟨d', rfl, hp3, hb3⟩
  have hs3 := hb3.size
  have HB3 := Lib.hid (HB2.out.trans (hb3.mono (by omega)))
  have HP3 := Lib.hid hp3
  have HR3 := Lib.hid (HR2.out.below (hb3.mono (by omega)))
  obtain ⟨Y, hY⟩ : ∃ Y, pcs d' p = Y := ⟨_, rfl⟩
  have hys : (pcs d' p).size = 8 := rfl
  rw [hY] at hys ⊢
  have hye : ¬ Y = #[] := by intro h; rw [h] at hys; cases hys
  have HV := Lib.hid (fun (A4 : Option Addr) (c4 : Nat) (W : World) (B : Nat) (h : PR W B d' p) (h2 : RR W B 66 A4 n (ns.map Hp.node)) (hB : B ≤ W.heap.size) => Verify_any d' p ns A4 n c4 W B h hB h2 HOK.out (by omega))
  rw [hY] at HV
  have hbE := (Below.refl w3.heap.size w3).alloc (Nat.le_refl _) (.cells #[] 59)
  have HON := Lib.hid (show (w3.alloc (.cells #[] 59)).ownsRow w3.heap.size 59 66 (.slice (some ⟨w3.heap.size, 0, none⟩) 0 0) 0 [] from World.ownsRow_lit w3 #[] 0 (Nat.le_refl _) (by simp) rfl)
  have HCE := Lib.hid (RR.reads (HR3.out.below (hbE.mono (by omega))) (by decide))
  have hzE : (w3.alloc (.cells #[] 59)).heap.size = w3.heap.size + 1 := by simp
  have HBE := Lib.hid hbE
  have hone : ∀ u ∈ (ns.map Hp.node).flatten, u.oneCell' = true := flat_one fun cs hcs u hu => by
    obtain ⟨h, hh, rfl⟩ := List.mem_map.1 hcs
    exact Hp.node_one (HOK.out h hh) u hu
  have HONE := Lib.hid hone
  clear hp3 hb3 hY hbE HTW HAW hone HC2 HR2 HP2
  simp only
  go_wp2_with (at_builtin; refine wl_app TND (by rfl) (.tmp 19) (.tmp 20) (by rfl) (.slice (some ⟨w3.heap.size, 0, none⟩) 0 0) (by rfl) A n c (by rfl) w3.heap.size 0 [] HON.out w.heap.size _ HCE.out HONE.out ?a3 ?a4 ?a5 ?a6)
  case a3 => omega
  case a4 => omega
  case a5 => omega
  case a6 =>
    intro A4 c4 w4 hown hg _
    have hb4 := HBE.out.grown hg (by omega) (own_drop HON.out)
    have hs4 := hb4.size
    have HN4 := Lib.hid (RR.of_own hown (by have := HR3.out.len; exact this) (fun cs hcs => by obtain ⟨h, hh, rfl⟩ := List.mem_map.1 hcs; exact Hp.node_len (HOK.out h hh)))
    have HP4 := Lib.hid (HP3.out.below hb4)
    have HR4 := Lib.hid (HR3.out.below (hb4.mono (by omega)))
    have HB4 := Lib.hid (HB3.out.trans (hb4.mono (by omega)))
    have HOKV := Lib.hid (fun h : (verP p ns).1 = 0 => verP_ok h)
    have HN1 := Lib.hid (show p.code.length = d.n1 by have := HP4.out.code.len; have h1 := HP1.out.code.len; rw [List.length_map] at h1; exact h1)
    have HCO := Lib.hid HP1.out.code
    generalize verP p ns = R at *
    clear hown hg hb4 HON HCE HBE HP3 HR3 HB3 HONE
    go_wp2_with fail
    refine (HV.out A4 c4 w4 w4.heap.size (HP4.out.more hs4) HN4.out (Nat.le_refl _)).mono ?_
    rintro e w6 ⟨hb6, hpost⟩
    have HB6 := Lib.hid (HB4.out.trans (hb6.mono (by omega)))
    have hs6 := hb6.size
    clear hb6 HV HP4 HN4 HR4 HB4
    rcases hpost with ⟨hne, rfl⟩ | ⟨hz, gh, gt, k1, k2, k3, rfl, k4, k5, k6, k7⟩
    · have hne' : (R.1 != 0) = true := by rw [bne_iff_ne]; exact hne
      have hc7 := heap_alloc_new w6 (.cells #[.slice none 0 0, .slice none 0 0, .int .i64 0] 33)
      have r0 : (w6.alloc (.cells #[.slice none 0 0, .slice none 0 0, .int .i64 0] 33)).cell? ⟨w6.heap.size, 0, none⟩ = some (.slice none 0 0) := by rw [blk_cell hc7]; rfl
      have r1 : (w6.alloc (.cells #[.slice none 0 0, .slice none 0 0, .int .i64 0] 33)).cell? ⟨w6.heap.size, 1, none⟩ = some (.slice none 0 0) := by rw [blk_cell hc7]; rfl
      have r2 : (w6.alloc (.cells #[.slice none 0 0, .slice none 0 0, .int .i64 0] 33)).cell? ⟨w6.heap.size, 2, none⟩ = some (.int .i64 0) := by rw [blk_cell hc7]; rfl
      have HBF := Lib.hid ((HB1.out.trans (HB6.out.mono (by omega))).alloc (by omega) (.cells #[.slice none 0 0, .slice none 0 0, .int .i64 0] 33))
      clear hc7 hne
      generalize R.1 = e1 at *
      simp only
      go_wp2_with fail
      go_ret
      exact ⟨rfl, HBF.out⟩
    · obtain ⟨hfm, hcl, hana⟩ := HOKV.out hz
      obtain ⟨q, hq⟩ : ∃ q, R.2 = q := ⟨_, rfl⟩
      have hz' : R.1 = 0 := hz
      rw [hana] at hz hq
      have hroom := anaS_room hfm hz
      rw [hq] at hroom
      rw [hana, hq] at k4 k5 k6 k7 ⊢
      clear hana hz hz' hq HOKV
      obtain ⟨hrm, hwt, hf0⟩ := hroom
      have hn1 := HN1.out
      rw [hn1] at hrm hwt hf0 k6 k7 hcl ⊢
      have hn4 : d.n1 ≤ 4000 := by have := hfm.n1; omega
      have HRM := Lib.hid hrm
      have HWT := Lib.hid hwt
      have HFM := Lib.hid hfm
      have hf0' := hf0
      obtain ⟨_, _, hz0, ht0⟩ := hf0'
      rw [show (0 : Int).toNat = 0 from rfl] at hz0 ht0
      generalize d.n1 = m at *
      have hm0 : ((m : Int) == 0) = false := by rw [beq_eq_false_iff_ne]; omega
      have hmp : (0 : Int) < (m : Int) := by omega
      have hc7 := heap_alloc_new w6 (.cells #[.slice (some ⟨gh, 0, none⟩) m m, .slice (some ⟨gt, 0, none⟩) m m, .int .i64 q.pk] 33)
      have hb7 := (Below.refl w6.heap.size w6).alloc (Nat.le_refl _) (.cells #[.slice (some ⟨gh, 0, none⟩) m m, .slice (some ⟨gt, 0, none⟩) m m, .int .i64 q.pk] 33)
      have hz7 : (w6.alloc (.cells #[.slice (some ⟨gh, 0, none⟩) m m, .slice (some ⟨gt, 0, none⟩) m m, .int .i64 q.pk] 33)).heap.size = w6.heap.size + 1 := by simp
      have lgh : gh < w6.heap.size := (Array.getElem?_eq_some_iff.1 k4).1
      have lgt : gt < w6.heap.size := (Array.getElem?_eq_some_iff.1 k5).1
      have HGH := Lib.hid ((hb7.block gh lgh).trans k4)
      have HGT := Lib.hid ((hb7.block gt lgt).trans k5)
      have HGR := Lib.hid hc7
      have HB7 := Lib.hid (HB6.out.trans (hb7.mono (by omega)))
      have HGP := Lib.hid ((HB7.out.block w.heap.size (Nat.lt_succ_self _)).trans HC1.out)
      have HCD := Lib.hid (HCO.out.below (HB7.out.mono (Nat.le_succ _)))
      have HK6 := Lib.hid k6
      have HK7 := Lib.hid k7
      have HZ0 := Lib.hid hz0
      have HT0 := Lib.hid ht0
      clear k4 k5 hb7 hc7 hrm hwt hfm hf0 k1 k2 k3 HB6 HCO k6 k7 hz0 ht0
      have e1 : (w6.alloc (.cells #[.slice (some ⟨gh, 0, none⟩) m m, .slice (some ⟨gt, 0, none⟩) m m, .int .i64 q.pk] 33)).cell? ⟨w6.heap.size, 0, none⟩ = some (.slice (some ⟨gh, 0, none⟩) m m) := by rw [blk_cell HGR.out]; rfl
      have e2 : (w6.alloc (.cells #[.slice (some ⟨gh, 0, none⟩) m m, .slice (some ⟨gt, 0, none⟩) m m, .int .i64 q.pk] 33)).cell? ⟨w6.heap.size, 1, none⟩ = some (.slice (some ⟨gt, 0, none⟩) m m) := by rw [blk_cell HGR.out]; rfl
      have e3 : (w6.alloc (.cells #[.slice (some ⟨gh, 0, none⟩) m m, .slice (some ⟨gt, 0, none⟩) m m, .int .i64 q.pk] 33)).cell? ⟨w.heap.size, 0, none⟩ = some (.slice d.A1 m d.c1) := by rw [blk_cell HGP.out, List.getElem?_toArray]; exact HL0.out
      have e4 : (w6.alloc (.cells #[.slice (some ⟨gh, 0, none⟩) m m, .slice (some ⟨gt, 0, none⟩) m m, .int .i64 q.pk] 33)).cell? ⟨gh, 0, none⟩ = some (.int .i64 0) := by rw [blk_cell HGH.out, List.getElem?_toArray, iv_at' _ (by have := HK6.out; omega), HZ0.out]
      have e5 : (w6.alloc (.cells #[.slice (some ⟨gh, 0, none⟩) m m, .slice (some ⟨gt, 0, none⟩) m m, .int .i64 q.pk] 33)).cell? ⟨gt, 0, none⟩ = some (.bool false) := by rw [blk_cell HGT.out, List.getElem?_toArray, tv_at _ (by have := HK7.out; omega), HT0.out]
      simp only
      go_wp2_with fail
      generalize w6.alloc (.cells #[.slice (some ⟨gh, 0, none⟩) m m, .slice (some ⟨gt, 0, none⟩) m m, .int .i64 q.pk] 33) = w7 at *
      obtain ⟨g6, hg6⟩ : ∃ g6, w6.heap.size = g6 := ⟨_, rfl⟩
      rw [hg6] at HGR hz7 lgh lgt ⊢
      have HCL := Lib.hid hcl
      clear e1 e2 e3 e4 e5 hm0 hmp hcl HZ0 HT0
      go_loopw [7, 8, 9, 10, 11, 12, 13, 80] (fun pk _ _ _ _ _ _ i wr => ∃ k x : Nat, k ≤ m ∧ pk = .int .i64 (x : Int) ∧ i = .int .i64 (k : Int) ∧ Below w7.heap.size w7 wr ∧ (x : Int) ≤ q.pk ∧ ∀ j, j < k → 0 ≤ it q.hs j → bhI (opA p j) (it q.hs j) ≤ (x : Int)) (fun _ _ _ _ _ _ _ i _ => m - (intOf i).toNat)
      case atStart => exact ⟨0, 0, by omega, rfl, rfl, Below.refl _ _, HRM.out.p0, fun j hj => absurd hj (by omega)⟩
      case round =>
        obtain ⟨k, x, hk, rfl, rfl, hb, hxp, hall⟩ := hrel
        have HBr := Lib.hid hb
        have HALL := Lib.hid hall
        have hsr := hb.size
        clear hb hall
        by_cases hlt : k < m
        · have dk : (k : Int) < (m : Int) := by omega
          obtain ⟨b, off, hA1, hbB, c0, c1, c2⟩ := ins_at (HCD.out.below (HBr.out.mono (by omega))) hlt
          rw [hA1]
          have hg := HRM.out.g.hh k hlt
          have hun := HRM.out.un k hlt
          have hokk : 0 ≤ it q.hs k → ((efN (opA p k)).1 : Int) ≤ it q.hs k ∧ bhI (opA p k) (it q.hs k) ≤ p.stack ∧ bhI (opA p k) (it q.hs k) ≤ q.pk ∧ (opA p k = 0 ∨ opA p k = 16 → it q.hs k = 0 ∧ bat q.ts k = decide (opA p k = 16)) ∧ (opA p k = 12 → bat q.ts k = false) ∧ (opA p k ≠ 0 → opA p k ≠ 16 → opA p k ≠ 7 → Fd m q ((k + 1 : Nat) : Int) (bhI (opA p k) (it q.hs k)) (bat q.ts k)) ∧ (opA p k = 7 ∨ opA p k = 8 → Fd m q (iat p.code k).a (bhI (opA p k) (it q.hs k)) (bat q.ts k)) ∧ (opA p k = 13 → Fd m q (iat p.code k).a 0 true) := fun h0 => by
            have h := HRM.out.ok k hlt (by omega) h0 (HWT.out k hlt)
            exact ⟨h.pop, h.stk, h.pk, h.fin, h.wai, h.nxt, h.jmp, h.aft⟩
          have hops := HFM.out.ops _ (iat_mem (l := p.code) (k := k) (by have := HCL.out; omega))
          have HJ := Lib.hid (show ∀ z : Int, 0 ≤ it q.hs k → bhI (opA p k) (it q.hs k) ≤ z → (x : Int) ≤ z → ∀ j, j < k + 1 → 0 ≤ it q.hs j → bhI (opA p j) (it q.hs j) ≤ z from fun z _ h2 h3 j hj h4 => by
            by_cases e : j = k
            · subst e; exact h2
            · exact Int.le_trans (HALL.out j (by omega) h4) h3)
          have HJ0 := Lib.hid (show it q.hs k < 0 → ∀ j, j < k + 1 → 0 ≤ it q.hs j → bhI (opA p j) (it q.hs j) ≤ (x : Int) from fun h1 j hj h4 => by
            by_cases e : j = k
            · subst e; omega
            · exact HALL.out j (by omega) h4)
          have hop : opA p k = (iat p.code k).op.toNat := rfl
          generalize iat p.code k = st at *
          obtain ⟨op, a, bb⟩ := st
          simp only at c0 c1 c2 hops hop
          rw [hop] at hokk HJ
          generalize op.toNat = o at *
          clear hop
          have hba := (Below.refl wr.heap.size wr).alloc (Nat.le_refl _) (.cells #[.int .u8 (o : Int), .int .i64 a, .int .i64 bb] 39)
          have HBA := Lib.hid (HBr.out.trans (hba.mono (by omega)))
          have hcA := heap_alloc_new wr (.cells #[.int .u8 (o : Int), .int .i64 a, .int .i64 bb] 39)
          have HCA := Lib.hid hcA
          have hzA : (wr.alloc (.cells #[.int .u8 (o : Int), .int .i64 a, .int .i64 bb] 39)).heap.size = wr.heap.size + 1 := by simp
          clear hba hcA
          go_wp2_with fail
          generalize wr.alloc (.cells #[.int .u8 (o : Int), .int .i64 a, .int .i64 bb] 39) = wa at *
          clear c0 c1 c2
          obtain ⟨ga, hga⟩ : ∃ ga, wr.heap.size = ga := ⟨_, rfl⟩
          rw [hga] at HCA hzA ⊢
          have r0 : wa.cell? ⟨g6, 0, none⟩ = some (.slice (some ⟨gh, 0, none⟩) m m) := by rw [blk_cell ((HBA.out.block g6 (by omega)).trans HGR.out)]; rfl
          have r1 : wa.cell? ⟨g6, 1, none⟩ = some (.slice (some ⟨gt, 0, none⟩) m m) := by rw [blk_cell ((HBA.out.block g6 (by omega)).trans HGR.out)]; rfl
          have r2 : wa.cell? ⟨gh, k, none⟩ = some (.int .i64 (it q.hs k)) := by rw [blk_cell ((HBA.out.block gh (by omega)).trans HGH.out), List.getElem?_toArray, iv_at' _ (by have := HK6.out; omega)]
          have r3 : wa.cell? ⟨gt, k, none⟩ = some (.bool (bat q.ts k)) := by rw [blk_cell ((HBA.out.block gt (by omega)).trans HGT.out), List.getElem?_toArray, tv_at _ (by have := HK7.out; omega)]
          go_quiet (fail)
          have HBB := Lib.hid (below_drewN HBA.out nq)
          have HCB := Lib.hid (show (wa.drewN nq).heap[ga]? = some (.cells #[.int .u8 (o : Int), .int .i64 a, .int .i64 bb] 39 (0, 0)) from HCA.out)
          have hzB : (wa.drewN nq).heap.size = ga + 1 := hzA
          clear r0 r1 r2 r3 HBA HCA hzA
          generalize wa.drewN nq = wb at *
          by_cases hneg : it q.hs k < 0
          · have htf := (hun hneg).1
            have HJN := Lib.hid (HJ0.out hneg)
            rw [htf]
            clear hun hokk HJ HJ0 htf
            generalize it q.hs k = h at *
            go_wp2_with fail
            exact ⟨⟨k + 1, x, by omega, rfl, by go_num, HBB.out, hxp, HJN.out⟩, by simp [intOf]; omega⟩
          · have h0 : 0 ≤ it q.hs k := by omega
            have hokb := hokk h0
            have hj1 := HJ.out
            have hhi := hg.2
            obtain ⟨y, hy⟩ : ∃ y, bhI o (it q.hs k) = y := ⟨_, rfl⟩
            rw [hy] at hokb hj1
            have HJ1 := Lib.hid hj1
            have hyv : y = it q.hs k - ((efN o).1 : Int) + ((efN o).2 : Int) := hy.symm
            have HTK := Lib.hid (fun W => TakesQ o hops W)
            have HPT := Lib.hid (fun W => PutsQ o hops W)
            have hEN := efN_le o
            clear hun hokk HJ HJ0 hy hg hj1
            generalize (efN o).1 = pp at *
            generalize (efN o).2 = qq at *
            have HF2 := Lib.hid (fun (j : Nat) (z : Int) (tz : Bool) (hj : j < m) (h1 : it q.hs j = z) (h2 : bat q.ts j = tz) (W : World) (B : Below w7.heap.size w7 W) => found_is gh gt m j q.pk z tz q.hs q.ts W ((B.block gh (by omega)).trans HGH.out) ((B.block gt (by omega)).trans HGT.out) HK6.out HK7.out hj h1 h2)
            have HFD := Lib.hid (fun (j z : Int) (tz : Bool) (h : Fd m q j z tz) => show ∃ jn : Nat, j = (jn : Int) ∧ jn < m ∧ it q.hs jn = z ∧ bat q.ts jn = tz from ⟨j.toNat, by have := h.1; omega, by have := h.1; have := h.2.1; omega, h.2.2.1, h.2.2.2⟩)
            have HGPK := Lib.hid (show ∃ pkv, q.pk = pkv from ⟨_, rfl⟩)
            generalize it q.hs k = h at *
            generalize bat q.ts k = tm at *
            obtain ⟨hpop, hstk, hpk, hfin, hwai, hnxt, hjmp, haft⟩ := hokb
            have HNX := Lib.hid hnxt
            have HJM := Lib.hid hjmp
            have HAF := Lib.hid haft
            have hy0 : 0 ≤ y := by omega
            have hy1 : y ≤ 65 := by omega
            have w1a : IntKind.i64.wrap (h - (pp : Int)) = h - (pp : Int) := by rw [IntKind.wrap_i64]; omega
            have w2a : IntKind.i64.wrap (h - (pp : Int) + (qq : Int)) = y := by rw [IntKind.wrap_i64]; omega
            have HST := Lib.hid hstk
            have HYV := Lib.hid hyv
            have HPOP := Lib.hid hpop
            clear hnxt hjmp haft hstk hyv hpop hneg
            have j0 : wb.cell? ⟨ga, 0, none⟩ = some (.int .u8 (o : Int)) := by rw [blk_cell HCB.out]; rfl
            have gh3 : (h < 0) = False := by simp; omega
            go_wp2_with fail
            go_quiet (first | (go_at_call 8; exact Calls.quiet_of_same (HTK.out _)) | (go_at_call 9; exact Calls.quiet_of_same (HPT.out _)))
            have HBC := Lib.hid (below_drewN HBB.out nq)
            have HCC := Lib.hid (show (wb.drewN nq).heap[ga]? = some (.cells #[.int .u8 (o : Int), .int .i64 a, .int .i64 bb] 39 (0, 0)) from HCB.out)
            have hzC : (wb.drewN nq).heap.size = ga + 1 := hzB
            clear j0 HBB HCB hzB
            generalize wb.drewN nq = wc at *
            have j0 : wc.cell? ⟨ga, 0, none⟩ = some (.int .u8 (o : Int)) := by rw [blk_cell HCC.out]; rfl
            have j1 : wc.cell? ⟨ga, 1, none⟩ = some (.int .i64 a) := by rw [blk_cell HCC.out]; rfl
            have r5 : wc.cell? ⟨w.heap.size, 5, none⟩ = some (.int .i64 p.stack) := by rw [blk_cell ((HBC.out.block w.heap.size (by omega)).trans HGP.out), List.getElem?_toArray]; exact HL5.out
            go_wp2_with fail
            refine (HTK.out _).mono ?_
            rintro e wd ⟨rfl, rfl⟩
            have dp : (h < (pp : Int)) = False := by have := HPOP.out; simp; omega
            have ds : (p.stack < y) = False := by have := HST.out; simp; omega
            have hn1 : (k : Int) + 1 = ((k + 1 : Nat) : Int) := by omega
            have HN1b := Lib.hid hn1
            have HBC2 := Lib.hid HBC.out
            have HW1 := Lib.hid w1a
            obtain ⟨z, hzm, hz1x, hz2x⟩ : ∃ z : Nat, (if (x : Int) < y then y else (x : Int)) = (z : Int) ∧ (x : Int) ≤ (z : Int) ∧ y ≤ (z : Int) := by
              by_cases hxy : (x : Int) < y
              · exact ⟨y.toNat, by rw [if_pos hxy]; omega, by omega, by omega⟩
              · exact ⟨x, by rw [if_neg hxy], by omega, by omega⟩
            have hzp : (z : Int) ≤ q.pk := by
              rw [← hzm]; split <;> omega
            have HALL2 := Lib.hid (HJ1.out (z : Int) h0 hz2x hz1x)
            clear w1a w2a hn1 HN1b HBC2 HW1 hz1x hz2x
            have HIR := Lib.hid (show (Try.prog.info? 33).map (·.size) = some 3 by kernel_rfl)
            rcases (show o = 0 ∨ o = 12 ∨ o = 16 ∨ o = 7 ∨ o = 8 ∨ o = 13 ∨ (o ≠ 0 ∧ o ≠ 12 ∧ o ≠ 16 ∧ o ≠ 7 ∧ o ≠ 8 ∧ o ≠ 13) by omega) with e | e | e | e | e | e | e
            · have f0 : ((o : Int) == 0) = true := by rw [beq_iff_eq]; omega
              have f16 : ((o : Int) == 16) = false := by rw [beq_eq_false_iff_ne]; omega
              have f12 : ((o : Int) == 12) = false := by rw [beq_eq_false_iff_ne]; omega
              have f7 : ((o : Int) == 7) = false := by rw [beq_eq_false_iff_ne]; omega
              have n7 : ((o : Int) != 7) = true := by rw [bne_iff_ne]; omega
              have f8 : ((o : Int) == 8) = false := by rw [beq_eq_false_iff_ne]; omega
              have f13 : ((o : Int) == 13) = false := by rw [beq_eq_false_iff_ne]; omega
              have HE0 := Lib.hid e
              have h00 := (hfin (by omega)).1
              have htm := (hfin (by omega)).2
              rw [show decide (o = 16) = false by first | exact decide_eq_true (by omega) | exact decide_eq_false (by omega)] at htm
              have g3 : (h != 0) = false := by rw [bne_eq_false_iff_eq]; exact h00
              clear h00
              subst htm
              clear e hfin hwai
              go_wp2_with fail
              exact ⟨⟨k + 1, z, by omega, rfl, by go_num, HBC.out, hzp, HALL2.out⟩, by simp [intOf]; omega⟩
            · have f0 : ((o : Int) == 0) = false := by rw [beq_eq_false_iff_ne]; omega
              have f16 : ((o : Int) == 16) = false := by rw [beq_eq_false_iff_ne]; omega
              have f12 : ((o : Int) == 12) = true := by rw [beq_iff_eq]; omega
              have f7 : ((o : Int) == 7) = false := by rw [beq_eq_false_iff_ne]; omega
              have n7 : ((o : Int) != 7) = true := by rw [bne_iff_ne]; omega
              have f8 : ((o : Int) == 8) = false := by rw [beq_eq_false_iff_ne]; omega
              have f13 : ((o : Int) == 13) = false := by rw [beq_eq_false_iff_ne]; omega
              have HE0 := Lib.hid e
              have htm := hwai e
              subst htm
              clear e hfin hwai
              obtain ⟨jn0, hj0, hl0, hi0, ht0⟩ := HFD.out _ _ _ (HNX.out (by have := HE0.out; omega) (by have := HE0.out; omega) (by have := HE0.out; omega))
              obtain rfl : jn0 = k + 1 := by omega
              clear hj0
              have HI0 := Lib.hid hi0
              have HT0 := Lib.hid ht0
              clear hi0 ht0
              have q0HBC : wd.cell? ⟨g6, 0, none⟩ = some (.slice (some ⟨gh, 0, none⟩) m m) := by rw [blk_cell ((HBC.out.block g6 (by omega)).trans HGR.out)]; rfl
              have q1HBC : wd.cell? ⟨g6, 1, none⟩ = some (.slice (some ⟨gt, 0, none⟩) m m) := by rw [blk_cell ((HBC.out.block g6 (by omega)).trans HGR.out)]; rfl
              have q2HBC : wd.cell? ⟨g6, 2, none⟩ = some (.int .i64 q.pk) := by rw [blk_cell ((HBC.out.block g6 (by omega)).trans HGR.out)]; rfl
              go_wp2_with fail
              have hq := HF2.out (k + 1) _ _ hl0 HI0.out HT0.out _ HBC.out
              rw [show ((k + 1 : Nat) : Int) = (k : Int) + 1 by omega] at hq
              refine hq.mono ?_
              clear hq
              rintro e wq0 ⟨rfl, hbq0⟩
              have HBQ0 := Lib.hid (HBC.out.trans (hbq0.mono (by have := HBC.out.size; omega)))
              have HCQ0 := Lib.hid ((hbq0.block ga (by omega)).trans HCC.out)
              have hsq0 := hbq0.size
              clear hbq0
              have j00 : wq0.cell? ⟨ga, 0, none⟩ = some (.int .u8 (o : Int)) := by rw [blk_cell HCQ0.out]; rfl
              have j10 : wq0.cell? ⟨ga, 1, none⟩ = some (.int .i64 a) := by rw [blk_cell HCQ0.out]; rfl
              go_wp2_with fail
              exact ⟨⟨k + 1, z, by omega, rfl, by go_num, HBQ0.out, hzp, HALL2.out⟩, by simp [intOf]; omega⟩
            · have f0 : ((o : Int) == 0) = false := by rw [beq_eq_false_iff_ne]; omega
              have f16 : ((o : Int) == 16) = true := by rw [beq_iff_eq]; omega
              have f12 : ((o : Int) == 12) = false := by rw [beq_eq_false_iff_ne]; omega
              have f7 : ((o : Int) == 7) = false := by rw [beq_eq_false_iff_ne]; omega
              have n7 : ((o : Int) != 7) = true := by rw [bne_iff_ne]; omega
              have f8 : ((o : Int) == 8) = false := by rw [beq_eq_false_iff_ne]; omega
              have f13 : ((o : Int) == 13) = false := by rw [beq_eq_false_iff_ne]; omega
              have HE0 := Lib.hid e
              have h00 := (hfin (by omega)).1
              have htm := (hfin (by omega)).2
              rw [show decide (o = 16) = true by first | exact decide_eq_true (by omega) | exact decide_eq_false (by omega)] at htm
              have g3 : (h != 0) = false := by rw [bne_eq_false_iff_eq]; exact h00
              clear h00
              subst htm
              clear e hfin hwai
              go_wp2_with fail
              exact ⟨⟨k + 1, z, by omega, rfl, by go_num, HBC.out, hzp, HALL2.out⟩, by simp [intOf]; omega⟩
            · have f0 : ((o : Int) == 0) = false := by rw [beq_eq_false_iff_ne]; omega
              have f16 : ((o : Int) == 16) = false := by rw [beq_eq_false_iff_ne]; omega
              have f12 : ((o : Int) == 12) = false := by rw [beq_eq_false_iff_ne]; omega
              have f7 : ((o : Int) == 7) = true := by rw [beq_iff_eq]; omega
              have n7 : ((o : Int) != 7) = false := by rw [bne_eq_false_iff_eq]; omega
              have f8 : ((o : Int) == 8) = false := by rw [beq_eq_false_iff_ne]; omega
              have f13 : ((o : Int) == 13) = false := by rw [beq_eq_false_iff_ne]; omega
              have HE0 := Lib.hid e
              clear e hfin hwai
              obtain ⟨jn0, hj0, hl0, hi0, ht0⟩ := HFD.out _ _ _ (HJM.out (by have := HE0.out; omega))
              subst hj0
              have HI0 := Lib.hid hi0
              have HT0 := Lib.hid ht0
              clear hi0 ht0
              have q0HBC : wd.cell? ⟨g6, 0, none⟩ = some (.slice (some ⟨gh, 0, none⟩) m m) := by rw [blk_cell ((HBC.out.block g6 (by omega)).trans HGR.out)]; rfl
              have q1HBC : wd.cell? ⟨g6, 1, none⟩ = some (.slice (some ⟨gt, 0, none⟩) m m) := by rw [blk_cell ((HBC.out.block g6 (by omega)).trans HGR.out)]; rfl
              have q2HBC : wd.cell? ⟨g6, 2, none⟩ = some (.int .i64 q.pk) := by rw [blk_cell ((HBC.out.block g6 (by omega)).trans HGR.out)]; rfl
              go_wp2_with fail
              refine (HF2.out jn0 _ _ hl0 HI0.out HT0.out _ HBC.out).mono ?_
              rintro e wq0 ⟨rfl, hbq0⟩
              have HBQ0 := Lib.hid (HBC.out.trans (hbq0.mono (by have := HBC.out.size; omega)))
              have HCQ0 := Lib.hid ((hbq0.block ga (by omega)).trans HCC.out)
              have hsq0 := hbq0.size
              clear hbq0
              have j00 : wq0.cell? ⟨ga, 0, none⟩ = some (.int .u8 (o : Int)) := by rw [blk_cell HCQ0.out]; rfl
              have j10 : wq0.cell? ⟨ga, 1, none⟩ = some (.int .i64 (jn0 : Int)) := by rw [blk_cell HCQ0.out]; rfl
              go_wp2_with fail
              exact ⟨⟨k + 1, z, by omega, rfl, by go_num, HBQ0.out, hzp, HALL2.out⟩, by simp [intOf]; omega⟩
            · have f0 : ((o : Int) == 0) = false := by rw [beq_eq_false_iff_ne]; omega
              have f16 : ((o : Int) == 16) = false := by rw [beq_eq_false_iff_ne]; omega
              have f12 : ((o : Int) == 12) = false := by rw [beq_eq_false_iff_ne]; omega
              have f7 : ((o : Int) == 7) = false := by rw [beq_eq_false_iff_ne]; omega
              have n7 : ((o : Int) != 7) = true := by rw [bne_iff_ne]; omega
              have f8 : ((o : Int) == 8) = true := by rw [beq_iff_eq]; omega
              have f13 : ((o : Int) == 13) = false := by rw [beq_eq_false_iff_ne]; omega
              have HE0 := Lib.hid e
              clear e hfin hwai
              obtain ⟨jn0, hj0, hl0, hi0, ht0⟩ := HFD.out _ _ _ (HNX.out (by have := HE0.out; omega) (by have := HE0.out; omega) (by have := HE0.out; omega))
              obtain rfl : jn0 = k + 1 := by omega
              clear hj0
              have HI0 := Lib.hid hi0
              have HT0 := Lib.hid ht0
              clear hi0 ht0
              obtain ⟨jn1, hj1, hl1, hi1, ht1⟩ := HFD.out _ _ _ (HJM.out (by have := HE0.out; omega))
              subst hj1
              have HI1 := Lib.hid hi1
              have HT1 := Lib.hid ht1
              clear hi1 ht1
              have q0HBC : wd.cell? ⟨g6, 0, none⟩ = some (.slice (some ⟨gh, 0, none⟩) m m) := by rw [blk_cell ((HBC.out.block g6 (by omega)).trans HGR.out)]; rfl
              have q1HBC : wd.cell? ⟨g6, 1, none⟩ = some (.slice (some ⟨gt, 0, none⟩) m m) := by rw [blk_cell ((HBC.out.block g6 (by omega)).trans HGR.out)]; rfl
              have q2HBC : wd.cell? ⟨g6, 2, none⟩ = some (.int .i64 q.pk) := by rw [blk_cell ((HBC.out.block g6 (by omega)).trans HGR.out)]; rfl
              go_wp2_with fail
              have hq := HF2.out (k + 1) _ _ hl0 HI0.out HT0.out _ HBC.out
              rw [show ((k + 1 : Nat) : Int) = (k : Int) + 1 by omega] at hq
              refine hq.mono ?_
              clear hq
              rintro e wq0 ⟨rfl, hbq0⟩
              have HBQ0 := Lib.hid (HBC.out.trans (hbq0.mono (by have := HBC.out.size; omega)))
              have HCQ0 := Lib.hid ((hbq0.block ga (by omega)).trans HCC.out)
              have hsq0 := hbq0.size
              clear hbq0
              have j00 : wq0.cell? ⟨ga, 0, none⟩ = some (.int .u8 (o : Int)) := by rw [blk_cell HCQ0.out]; rfl
              have j10 : wq0.cell? ⟨ga, 1, none⟩ = some (.int .i64 (jn1 : Int)) := by rw [blk_cell HCQ0.out]; rfl
              have q0HBQ0 : wq0.cell? ⟨g6, 0, none⟩ = some (.slice (some ⟨gh, 0, none⟩) m m) := by rw [blk_cell ((HBQ0.out.block g6 (by omega)).trans HGR.out)]; rfl
              have q1HBQ0 : wq0.cell? ⟨g6, 1, none⟩ = some (.slice (some ⟨gt, 0, none⟩) m m) := by rw [blk_cell ((HBQ0.out.block g6 (by omega)).trans HGR.out)]; rfl
              have q2HBQ0 : wq0.cell? ⟨g6, 2, none⟩ = some (.int .i64 q.pk) := by rw [blk_cell ((HBQ0.out.block g6 (by omega)).trans HGR.out)]; rfl
              go_wp2_with fail
              refine (HF2.out jn1 _ _ hl1 HI1.out HT1.out _ HBQ0.out).mono ?_
              rintro e wq1 ⟨rfl, hbq1⟩
              have HBQ1 := Lib.hid (HBQ0.out.trans (hbq1.mono (by have := HBQ0.out.size; omega)))
              have HCQ1 := Lib.hid ((hbq1.block ga (by omega)).trans HCQ0.out)
              have hsq1 := hbq1.size
              clear hbq1
              have j01 : wq1.cell? ⟨ga, 0, none⟩ = some (.int .u8 (o : Int)) := by rw [blk_cell HCQ1.out]; rfl
              have j11 : wq1.cell? ⟨ga, 1, none⟩ = some (.int .i64 (jn1 : Int)) := by rw [blk_cell HCQ1.out]; rfl
              go_wp2_with fail
              exact ⟨⟨k + 1, z, by omega, rfl, by go_num, HBQ1.out, hzp, HALL2.out⟩, by simp [intOf]; omega⟩
            · have f0 : ((o : Int) == 0) = false := by rw [beq_eq_false_iff_ne]; omega
              have f16 : ((o : Int) == 16) = false := by rw [beq_eq_false_iff_ne]; omega
              have f12 : ((o : Int) == 12) = false := by rw [beq_eq_false_iff_ne]; omega
              have f7 : ((o : Int) == 7) = false := by rw [beq_eq_false_iff_ne]; omega
              have n7 : ((o : Int) != 7) = true := by rw [bne_iff_ne]; omega
              have f8 : ((o : Int) == 8) = false := by rw [beq_eq_false_iff_ne]; omega
              have f13 : ((o : Int) == 13) = true := by rw [beq_iff_eq]; omega
              have HE0 := Lib.hid e
              clear e hfin hwai
              obtain ⟨jn0, hj0, hl0, hi0, ht0⟩ := HFD.out _ _ _ (HNX.out (by have := HE0.out; omega) (by have := HE0.out; omega) (by have := HE0.out; omega))
              obtain rfl : jn0 = k + 1 := by omega
              clear hj0
              have HI0 := Lib.hid hi0
              have HT0 := Lib.hid ht0
              clear hi0 ht0
              obtain ⟨jn1, hj1, hl1, hi1, ht1⟩ := HFD.out _ _ _ (HAF.out HE0.out)
              subst hj1
              have HI1 := Lib.hid hi1
              have HT1 := Lib.hid ht1
              clear hi1 ht1
              have q0HBC : wd.cell? ⟨g6, 0, none⟩ = some (.slice (some ⟨gh, 0, none⟩) m m) := by rw [blk_cell ((HBC.out.block g6 (by omega)).trans HGR.out)]; rfl
              have q1HBC : wd.cell? ⟨g6, 1, none⟩ = some (.slice (some ⟨gt, 0, none⟩) m m) := by rw [blk_cell ((HBC.out.block g6 (by omega)).trans HGR.out)]; rfl
              have q2HBC : wd.cell? ⟨g6, 2, none⟩ = some (.int .i64 q.pk) := by rw [blk_cell ((HBC.out.block g6 (by omega)).trans HGR.out)]; rfl
              go_wp2_with fail
              have hq := HF2.out (k + 1) _ _ hl0 HI0.out HT0.out _ HBC.out
              rw [show ((k + 1 : Nat) : Int) = (k : Int) + 1 by omega] at hq
              refine hq.mono ?_
              clear hq
              rintro e wq0 ⟨rfl, hbq0⟩
              have HBQ0 := Lib.hid (HBC.out.trans (hbq0.mono (by have := HBC.out.size; omega)))
              have HCQ0 := Lib.hid ((hbq0.block ga (by omega)).trans HCC.out)
              have hsq0 := hbq0.size
              clear hbq0
              have j00 : wq0.cell? ⟨ga, 0, none⟩ = some (.int .u8 (o : Int)) := by rw [blk_cell HCQ0.out]; rfl
              have j10 : wq0.cell? ⟨ga, 1, none⟩ = some (.int .i64 (jn1 : Int)) := by rw [blk_cell HCQ0.out]; rfl
              have q0HBQ0 : wq0.cell? ⟨g6, 0, none⟩ = some (.slice (some ⟨gh, 0, none⟩) m m) := by rw [blk_cell ((HBQ0.out.block g6 (by omega)).trans HGR.out)]; rfl
              have q1HBQ0 : wq0.cell? ⟨g6, 1, none⟩ = some (.slice (some ⟨gt, 0, none⟩) m m) := by rw [blk_cell ((HBQ0.out.block g6 (by omega)).trans HGR.out)]; rfl
              have q2HBQ0 : wq0.cell? ⟨g6, 2, none⟩ = some (.int .i64 q.pk) := by rw [blk_cell ((HBQ0.out.block g6 (by omega)).trans HGR.out)]; rfl
              go_wp2_with fail
              refine (HF2.out jn1 _ _ hl1 HI1.out HT1.out _ HBQ0.out).mono ?_
              rintro e wq1 ⟨rfl, hbq1⟩
              have HBQ1 := Lib.hid (HBQ0.out.trans (hbq1.mono (by have := HBQ0.out.size; omega)))
              have HCQ1 := Lib.hid ((hbq1.block ga (by omega)).trans HCQ0.out)
              have hsq1 := hbq1.size
              clear hbq1
              have j01 : wq1.cell? ⟨ga, 0, none⟩ = some (.int .u8 (o : Int)) := by rw [blk_cell HCQ1.out]; rfl
              have j11 : wq1.cell? ⟨ga, 1, none⟩ = some (.int .i64 (jn1 : Int)) := by rw [blk_cell HCQ1.out]; rfl
              go_wp2_with fail
              exact ⟨⟨k + 1, z, by omega, rfl, by go_num, HBQ1.out, hzp, HALL2.out⟩, by simp [intOf]; omega⟩
            · have f0 : ((o : Int) == 0) = false := by rw [beq_eq_false_iff_ne]; omega
              have f16 : ((o : Int) == 16) = false := by rw [beq_eq_false_iff_ne]; omega
              have f12 : ((o : Int) == 12) = false := by rw [beq_eq_false_iff_ne]; omega
              have f7 : ((o : Int) == 7) = false := by rw [beq_eq_false_iff_ne]; omega
              have n7 : ((o : Int) != 7) = true := by rw [bne_iff_ne]; omega
              have f8 : ((o : Int) == 8) = false := by rw [beq_eq_false_iff_ne]; omega
              have f13 : ((o : Int) == 13) = false := by rw [beq_eq_false_iff_ne]; omega
              have HE0 := Lib.hid e
              clear e hfin hwai
              obtain ⟨jn0, hj0, hl0, hi0, ht0⟩ := HFD.out _ _ _ (HNX.out (by have := HE0.out; omega) (by have := HE0.out; omega) (by have := HE0.out; omega))
              obtain rfl : jn0 = k + 1 := by omega
              clear hj0
              have HI0 := Lib.hid hi0
              have HT0 := Lib.hid ht0
              clear hi0 ht0
              have q0HBC : wd.cell? ⟨g6, 0, none⟩ = some (.slice (some ⟨gh, 0, none⟩) m m) := by rw [blk_cell ((HBC.out.block g6 (by omega)).trans HGR.out)]; rfl
              have q1HBC : wd.cell? ⟨g6, 1, none⟩ = some (.slice (some ⟨gt, 0, none⟩) m m) := by rw [blk_cell ((HBC.out.block g6 (by omega)).trans HGR.out)]; rfl
              have q2HBC : wd.cell? ⟨g6, 2, none⟩ = some (.int .i64 q.pk) := by rw [blk_cell ((HBC.out.block g6 (by omega)).trans HGR.out)]; rfl
              go_wp2_with fail
              have hq := HF2.out (k + 1) _ _ hl0 HI0.out HT0.out _ HBC.out
              rw [show ((k + 1 : Nat) : Int) = (k : Int) + 1 by omega] at hq
              refine hq.mono ?_
              clear hq
              rintro e wq0 ⟨rfl, hbq0⟩
              have HBQ0 := Lib.hid (HBC.out.trans (hbq0.mono (by have := HBC.out.size; omega)))
              have HCQ0 := Lib.hid ((hbq0.block ga (by omega)).trans HCC.out)
              have hsq0 := hbq0.size
              clear hbq0
              have j00 : wq0.cell? ⟨ga, 0, none⟩ = some (.int .u8 (o : Int)) := by rw [blk_cell HCQ0.out]; rfl
              have j10 : wq0.cell? ⟨ga, 1, none⟩ = some (.int .i64 a) := by rw [blk_cell HCQ0.out]; rfl
              go_wp2_with fail
              exact ⟨⟨k + 1, z, by omega, rfl, by go_num, HBQ0.out, hzp, HALL2.out⟩, by simp [intOf]; omega⟩
        · obtain rfl : k = m := by omega
          have hend : (x : Int) = q.pk := by
            rcases HRM.out.pa with e | ⟨i, hi, e1, e2⟩
            · have := HRM.out.p0; omega
            · have := HALL.out i hi e1; omega
          have r2 : wr.cell? ⟨g6, 2, none⟩ = some (.int .i64 q.pk) := by rw [blk_cell ((HBr.out.block g6 (by omega)).trans HGR.out)]; rfl
          have HBF := Lib.hid (HB1.out.trans ((HB7.out.trans (HBr.out.mono (by omega))).mono (by omega)))
          rw [hend]
          clear hend
          go_wp2_with fail
          go_ret
          exact ⟨by simp, HBF.out⟩
end Go.Proofs.Ytkmcjjoicpgjfaa
/-
  A program among the arguments: what is asked of it in memory and in size. No statement of the seat is proved here.
-/
namespace Go.Proofs.Ytkmcjjoicpgjfaa
open Go Go.RowKit Go.Sh Go.ChangeShapes Go.WideShapes Go.ChangeAt

theorem sizedPrg {H : Type} {ts : List TypeId} {ds : List (DataW H)} (hsz : ((DataW.weightsEach Try.prog ts ds).all fun x => decide (x ≤ reachBytes)) = true) {j : Nat} {d : DataW H} {p : Prg}
    (h1 : ts[j]? = some 27) (h2 : ds[j]? = some d) (hd : HasPrg d p) : Fit p :=
  fit_prg hd fun _ hx => of_decide_eq_true (List.all_eq_true.1 hsz _ (DataW.weights_mem_each h1 h2 _ hx))
theorem PR0.pr {w : World} {B : Nat} {d : Pad} {p : Prg} (h : PR0 w B d p) (hf : Fit p) : PR w B d p := by
  have a1 := h.code.len
  have a2 := h.msgs.len
  have a3 := h.rts.len
  have a4 := h.snds.len
  have f1 := hf.n1
  have f2 := hf.n2
  have f3 := hf.n3
  have f4 := hf.n4
  rw [List.length_map] at a1
  exact ⟨h.code, h.msgs, h.rts, h.snds, h.k1, h.k2, h.k3, h.k4, by omega, by omega, by omega, by omega⟩
end Go.Proofs.Ytkmcjjoicpgjfaa
namespace Go.Proofs.Ytkmcjjoicpgjfaa.verifyRoom
open Go Go.Sh Go.ChangeShapes Go.WideShapes Go.ChangeAt Go.RowKit
open Go.ChangeMaps (open_string shut_string)

set_option maxRecDepth 100000 in
theorem own : ownKnob Try.prog.godebug = none := by kernel_rfl
set_option maxRecDepth 100000 in
theorem laidOut : laidOutB Try.prog = true := by kernel_rfl

set_option maxRecDepth 100000 in
theorem lifted (os : Os) (started : os.Started) (H : Type) (enc : TypeId × Value → H) :
    ReturnsInHanded {} Try.checked os 3 .any (Rows.verifyRoomSpec.pre6 enc Try.prog Try.f3 Rows.verifyRoomRow.domain false) (Rows.verifyRoomSpec.post enc Try.prog Try.f3 false true false false) := by
  refine returnsInHanded_of_change_sized (C := Try.checked) own started (by kernel_rfl) Try.func3
    (ChangeSpec.witness6 (enc := enc) (C := Try.checked) false ⟨#[], #[.agg #[.slice none 0 0, .slice none 0 0, .slice none 0 0, .slice none 0 0, .int .i64 0, .int .i64 0, .int .i64 0, .int .i64 0], .slice none 0 0], []⟩ 8 (by kernel_rfl) (by kernel_rfl) (by kernel_rfl) (by kernel_rfl)) ?_
  intro W base args ds gs before hval0 hW hcnd hsz0 _
  have hval : ∀ (j : Nat) t v, Try.f3.params[j]? = some t → args[j]? = some v → Value.okWide Try.prog W .any base t v := hval0
  have hsz : (DataW.weightsEach Try.prog (Try.f3.params.toList ++ Rows.verifyRoomSpec.plain.varTypes Try.prog) (ds ++ gs)).all (· ≤ reachBytes) = true := hsz0
  have hW' := hW
  obtain ⟨p, q, hA0, hV, rfl, hfz, hnd⟩ := hW
  have hA : DataW.TrodAll enc Try.prog W 0 (fun _ => true) true Try.f3.params.toList args.toList ds p := hA0
  rw [Try.params3] at hA hval hsz
  obtain ⟨v0, vs0, d0, ds0, p0, q0, hargs, rfl, rfl, h0, r0⟩ := trodAll_cons hA
  obtain ⟨v1, vs1, d1, ds1, p1, q1, rfl, rfl, rfl, h1, r1⟩ := trodAll_cons r0
  obtain ⟨rfl, rfl, rfl⟩ := trodAll_nil r1
  obtain rfl : args = #[v0, v1] := by cases args; simp_all
  obtain ⟨rfl, rfl⟩ := trodVars_none hV
  have k0 := h0
  have lt0 : ∀ x ∈ p0, x.block < W.heap.size := by obtain ⟨m, hm⟩ := k0; exact DataW.trod_lt m _ _ _ hm
  obtain ⟨pd0, pg0, rfl, rp0, hp0⟩ := openPrg (hval 0 27 v0 rfl rfl) h0
  have ft0 : Fit pg0 := sizedPrg hsz (j := 0) rfl rfl hp0
  have k1 := h1
  have lt1 : ∀ x ∈ p1, x.block < W.heap.size := by obtain ⟨m, hm⟩ := k1; exact DataW.trod_lt m _ _ _ hm
  obtain ⟨A1, n1, c1, hs1, rfl, oks1, bys1, rr1, nc1, hl1⟩ := openNodesB (hval 1 28 v1 rfl rfl) h1
  have bd1 : n1 * 88 ≤ 140737488351232 := sizedBy hsz (j := 1) (t := 28) rfl rfl Try.underlying28 (of_decide_eq_true (by kernel_rfl)) hl1
  clear hA0 hval0
  refine (VerifyRoom_walk pd0 pg0 A1 n1 c1 hs1 W (rp0.pr ft0) ft0 rr1 oks1 bd1).mono fun e W' ⟨he, bel⟩ => ?_
  subst he
  exact ⟨_, rfl, _, _, _, [], _, [], hW', trodAll_mk1 (shut_bool Try.underlying4 _), (trodAll_cons_mk (Below.trod laidOut (by kernel_rfl) (of_decide_eq_true (by kernel_rfl)) k0 bel lt0) (trodAll_cons_mk (Below.trod laidOut (by kernel_rfl) (of_decide_eq_true (by kernel_rfl)) k1 bel lt1) trodAll_mk0)), rfl, bel.frame _, fun h => by cases h⟩

set_option maxRecDepth 100000 in
theorem proved : Rows.VerifyRoomSaid :=
  OpenClaim.holds_of_wide 3 Try.f3 rfl rfl rfl rfl rfl rfl rfl ⟨rfl, rfl, rfl, rfl, rfl⟩ rfl rfl rfl rfl rfl (by kernel_rfl) Try.func3 (by kernel_rfl)
    (of_decide_eq_true (by kernel_rfl)) (by unfold Func.isWrapper; first | (rw [if_pos (by decide +kernel)]; kernel_rfl) | (rw [if_neg (by decide +kernel)]; exact ⟨rfl, rfl⟩))
    (fun os started H enc _ => lifted os started H enc)
#print axioms proved
end Go.Proofs.Ytkmcjjoicpgjfaa.verifyRoom
