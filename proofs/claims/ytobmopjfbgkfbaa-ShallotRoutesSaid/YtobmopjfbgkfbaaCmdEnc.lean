/-
  Contract of command.Encode: the bytes of a command in form, or the error of Check. Conditions: the fields fit their types.
-/
import Derived.Test.YtobmopjfbgkfbaaCmd
import Derived.Test.YtobmopjfbgkfbaaPut
import Derived.Test.YtobmopjfbgkfbaaLists
import Derived.Deep.RegionHeld3
import Derived.Deep.OwnRows
namespace Go.Proofs.Ytobmopjfbgkfbaa
open Go Go.RowKit Go.Sh

def byI (x : Int) : UInt8 := UInt8.ofNat x.toNat
/-- the bytes of a command -/
def encL (c : Cmd) : List UInt8 := [byI c.k, byI c.f] ++ (putB 2 4 c.d.toNat ++ (putB 2 8 c.x.toNat ++ (c.m.map byI ++ [0, 0])))
def encE (c : Cmd) : List UInt8 := if checkN c = 0 then encL c else []

theorem checkN_ok (c : Cmd) : checkN c = 0 ∨ checkN c = 1 ∨ checkN c = 3 ∨ checkN c = 11 := by
  unfold checkN
  split
  · simp
  · split
    · simp
    · split <;> simp

set_option maxRecDepth 100000 in
theorem make2 (W : World) : (Instr.makeSlice 26 (.int .i64 2) (.int .i64 2)).run Try.prog W = .ok (.slice (some ⟨W.heap.size, 0, none⟩) 2 2) (W.alloc (.cells #[.int .u8 0, .int .u8 0] 5)) :=
  by
  have h := run_make_row' (P := Try.prog) 26 5 (.int .u8 0) 1 Try.underlying26 (by kernel_rfl) rfl .i64 .i64 2 (by decide) (by decide) W
  rw [show madeCells #[Value.int IntKind.u8 0] 2 = #[Value.int IntKind.u8 0, Value.int IntKind.u8 0] by kernel_rfl] at h
  exact h

theorem kept2 {w w' : World} {b B : Nat} {x y : Value} (hb : Below B w w') (hl : b < B) (h0 : w.cell? ⟨b, 0, none⟩ = some x) (h1 : w.cell? ⟨b, 1, none⟩ = some y) : w'.cell? ⟨b, 0, none⟩ = some x ∧ w'.cell? ⟨b, 1, none⟩ = some y :=
  ⟨(hb.cell (p := ⟨b, 0, none⟩) hl).trans h0, (hb.cell (p := ⟨b, 1, none⟩) hl).trans h1⟩

/-- the row of the slices that were laid as a literal -/
theorem RBB_lit (w : World) (e : TypeId) (vs : List Value) (ls : List (List UInt8)) (m : Nat) (hm : vs.length = m) (hl : ls.length = m)
    (hi : ∀ i, i < m → ∃ Ai ni ci, vs[i]? = some (.slice Ai ni ci) ∧ ni ≤ ci ∧ RB w w.heap.size Ai ni (lat ls i)) (g : Nat) (hg : w.heap.size = g) :
    RBB (w.alloc (.cells vs.toArray e)) (g + 1) (some ⟨g, 0, none⟩) m ls := by
  subst hg
  refine ⟨hl, vs, Reads.lit w e vs m 1 (by omega) _ rfl, fun i hi' => ?_⟩
  obtain ⟨Ai, ni, ci, h1, h2, h3⟩ := hi i hi'
  exact ⟨Ai, ni, ci, h1, h2, (h3.alloc (Nat.le_refl _) _).more (by omega)⟩

/-- the mark of a command that lies in memory, as bytes -/
theorem mark_reads {w : World} {b : Nat} {c : Cmd} (hc : c.OK) (h : CmdAt w b c) (B : Nat) (hB : b < B) : RB w B (some ⟨b, 4, none⟩) 16 (c.m.map byI) := by
  have hbv : bv (c.m.map byI) = c.m.map (Value.int .u8) := by
    unfold bv
    rw [List.map_map]
    refine List.map_congr_left fun x hx => ?_
    have := hc.m x hx
    simp [byI]
    omega
  refine ⟨by rw [length_bv, List.length_map, hc.l], .inr ⟨_, rfl, hB, fun j hj => ?_⟩⟩
  rw [hbv] at hj ⊢
  rw [add_mk]
  rw [List.getElem?_eq_getElem hj]
  have := h.r (4 + j) ((c.m.map (Value.int .u8))[j]) (by simp [Cmd.cells, Nat.add_comm 4 j])
  rw [Nat.zero_add] at this
  exact this
theorem head_reads (w : World) (c : Cmd) (hc : c.OK) (g : Nat) (hg : w.heap.size = g) : RB (w.alloc (.cells #[.int .u8 c.k, .int .u8 c.f] 5)) (g + 1) (some ⟨g, 0, none⟩) 2 [byI c.k, byI c.f] := by
  have h := hc.k
  have h' := hc.f
  refine RB.litAt w 5 [byI c.k, byI c.f] [.int .u8 c.k, .int .u8 c.f] ?_ 2 rfl g hg
  simp [bv, byI]
  omega
theorem tail_reads (w : World) (g : Nat) (hg : w.heap.size = g) : RB (w.alloc (.cells #[.int .u8 0, .int .u8 0] 5)) (g + 1) (some ⟨g, 0, none⟩) 2 [0, 0] :=
  RB.litAt w 5 [0, 0] [.int .u8 0, .int .u8 0] rfl 2 rfl g hg

def encR (c : Cmd) : List (List UInt8) := [[byI c.k, byI c.f], putB 2 4 c.d.toNat, putB 2 8 c.x.toNat, c.m.map byI, [0, 0]]
theorem encR_flat (c : Cmd) : (encR c).flatten = encL c := by simp [encR, encL]

/-- the five pieces, laid in whatever order -/
theorem enc_rows (W : World) (c : Cmd) (hc : c.OK) (b g g' : Nat) (A2 A3 : Option Addr) (c2 c3 : Nat) (hA : CmdAt W b c) (hb : b < W.heap.size) (r2 : RB W W.heap.size A2 4 (putB 2 4 c.d.toNat)) (r3 : RB W W.heap.size A3 8 (putB 2 8 c.x.toNat)) (q2 : 4 ≤ c2) (q3 : 8 ≤ c3)
    (r1 : RB W W.heap.size (some ⟨g, 0, none⟩) 2 [byI c.k, byI c.f]) (r5 : RB W W.heap.size (some ⟨g', 0, none⟩) 2 [0, 0]) (G : Nat) (hG : W.heap.size = G) :
    RBB (W.alloc (.cells #[.slice (some ⟨g, 0, none⟩) 2 2, .slice A2 4 c2, .slice A3 8 c3, .slice (some ⟨b, 4, none⟩) 16 16, .slice (some ⟨g', 0, none⟩) 2 2] 26)) (G + 1) (some ⟨G, 0, none⟩) 5 (encR c) := by
  refine RBB_lit W 26 [.slice (some ⟨g, 0, none⟩) 2 2, .slice A2 4 c2, .slice A3 8 c3, .slice (some ⟨b, 4, none⟩) 16 16, .slice (some ⟨g', 0, none⟩) 2 2] (encR c) 5 rfl rfl (fun i hi => ?_) G hG
  match i, hi with
  | 0, _ => exact ⟨_, _, _, rfl, Nat.le_refl _, r1⟩
  | 1, _ => exact ⟨_, _, _, rfl, q2, r2⟩
  | 2, _ => exact ⟨_, _, _, rfl, q3, r3⟩
  | 3, _ => exact ⟨_, _, _, rfl, Nat.le_refl _, mark_reads hc hA _ hb⟩
  | 4, _ => exact ⟨_, _, _, rfl, Nat.le_refl _, r5⟩

set_option maxRecDepth 100000 in
theorem Encode_any (c : Cmd) (w : World) (hc : c.OK) : Calls Try.prog 50 #[c.v] w (RetBE w (encE c) (checkN c)) := by
  have HS := Lib.hid (fun W => Check_any c W hc)
  have HN := Lib.hid (cmd_new w c 68)
  have HZ := Lib.hid hc.size
  have HC := Lib.hid hc
  unfold encE
  generalize checkN c = n at HS ⊢
  generalize hm : (if n = 0 then encL c else []) = m
  unfold Cmd.v at HS ⊢
  generalize hcs : c.cells.toArray = cs at *
  have HR := Lib.hid HN.out.r
  have hi : (Try.prog.info? 68).map (·.size) = some c.cells.length := by rw [HZ.out]; kernel_rfl
  have HI := Lib.hid hi
  clear hi hc
  go_enter Try.func50, Try.ntmps50
  go_wp2_with (refine wpList_load_mid rfl 68 _ rfl w.heap.size 0 rfl c.cells _ HR.out Try.underlying68 rfl HI.out ?_; rw [hcs])
  refine (HS.out _).mono ?_
  rintro e w1 ⟨rfl, hb⟩
  have HA := Lib.hid (HN.out.below hb (by simp))
  have HB := Lib.hid (((Below.refl w.heap.size w).alloc (Nat.le_refl _) _).trans (hb.mono (by simp)))
  have hsz : w.heap.size + 1 ≤ w1.heap.size := by simpa using hb.size
  clear hb HN HR HS
  by_cases h0 : n = 0
  · subst h0
    rw [if_pos rfl] at hm
    have hd := HC.out.d
    have hx := HC.out.x
    have a0 := HA.out.k
    have a1 := HA.out.f
    have a2 := HA.out.d
    have a3 := HA.out.x
    obtain ⟨dn, hdn⟩ := Int.eq_ofNat_of_zero_le hd.1
    obtain ⟨xn, hxn⟩ := Int.eq_ofNat_of_zero_le hx.1
    rw [hdn] at a2 hd
    rw [hxn] at a3 hx
    go_wp2_with fail
    refine (Put_any 2 4 dn _ (by omega)).mono ?_
    have e1 : putE 2 4 dn = 0 := by unfold putE; rw [if_neg (by decide), if_neg (by have : (256 : Nat) ^ (4 : Int).toNat = 4294967296 := rfl; omega)]
    have e2 : putE 2 8 xn = 0 := by unfold putE; rw [if_neg (by decide), if_neg (by have : (256 : Nat) ^ (8 : Int).toNat = 18446744073709551616 := rfl; omega)]
    rintro e w2 ⟨A2, n2, c2, rfl, l2, o2, b2⟩
    rw [show putL 2 4 dn = putB 2 4 dn by unfold putL; rw [if_pos e1]; rfl] at l2 o2
    rw [length_putB] at l2
    subst l2
    rw [e1]
    have HA2 := Lib.hid (HA.out.below b2 (by omega))
    have HB2 := Lib.hid (HB.out.trans (b2.mono (by have := HB.out.size; omega)))
    have HO2 := Lib.hid o2
    have hsz2 := b2.size
    clear o2 b2 a0 a1 a2 a3
    have a3 := HA2.out.x
    rw [hxn] at a3
    go_wp2_with fail
    refine (Put_any 2 8 xn _ (by omega)).mono ?_
    rintro e w3 ⟨A3, n3, c3, rfl, l3, o3, b3⟩
    rw [show putL 2 8 xn = putB 2 8 xn by unfold putL; rw [if_pos e2]; rfl] at l3 o3
    rw [length_putB] at l3
    subst l3
    rw [e2]
    have HA3 := Lib.hid (HA2.out.below b3 (by have := HB2.out.size; omega))
    have hsz3 := b3.size
    have HB3 := Lib.hid (HB2.out.trans (b3.mono (by have := HB2.out.size; omega)))
    have HO3 := Lib.hid o3
    have HO23 := Lib.hid (Reads.of_own HO2.out |>.below b3)
    clear o3 b3 a3
    have a0 := HA3.out.k
    have a1 := HA3.out.f
    have hz := HB3.out.size
    have hz3 : w.heap.size < w3.heap.size := by omega
    go_wp2_with fail
    have HM := Lib.hid hm
    clear hm
    have bA : ∀ o o' : Obj, Below w3.heap.size w3 ((w3.alloc o).alloc o') := fun o o' => ((Below.refl _ _).alloc (Nat.le_refl _) _).alloc (by simp) _
    have sA : ∀ o o' : Obj, ((w3.alloc o).alloc o').heap.size = w3.heap.size + 1 + 1 := fun o o' => by simp
    have RR : ∀ W : World, Below w3.heap.size w3 W → ∀ (g g' G : Nat), W.heap.size = G → RB W W.heap.size (some ⟨g, 0, none⟩) 2 [byI c.k, byI c.f] → RB W W.heap.size (some ⟨g', 0, none⟩) 2 [0, 0] →
        RBB (W.alloc (.cells #[.slice (some ⟨g, 0, none⟩) 2 2, .slice A2 4 c2, .slice A3 8 c3, .slice (some ⟨w.heap.size, 4, none⟩) 16 16, .slice (some ⟨g', 0, none⟩) 2 2] 26)) (G + 1) (some ⟨G, 0, none⟩) 5 (encR c) := by
      intro W hW g g' G hG r1 r5
      have hs := hW.size
      refine enc_rows W c HC.out w.heap.size g g' A2 A3 c2 c3 (HA3.out.below hW hz3) (by omega) ?_ ?_ (own_cap HO2.out) (own_cap HO3.out) r1 r5 G hG
      · rw [hdn, Int.toNat_natCast]
        exact ((HO23.out.more hsz3).below hW).more hs
      · rw [hxn, Int.toNat_natCast]
        exact ((Reads.of_own HO3.out).below hW).more hs
    have HJA := Lib.hid (RR ((w3.alloc (.cells #[.int .u8 c.k, .int .u8 c.f] 5)).alloc (.cells #[.int .u8 0, .int .u8 0] 5)) (bA _ _) w3.heap.size (w3.heap.size + 1) (w3.heap.size + 1 + 1) (sA _ _)
      (((head_reads w3 c HC.out _ rfl).alloc (by simp) _).more (by simp)) ((tail_reads (w3.alloc (.cells #[.int .u8 c.k, .int .u8 c.f] 5)) _ (by simp)).more (by simp)))
    have HJB := Lib.hid (RR ((w3.alloc (.cells #[.int .u8 0, .int .u8 0] 5)).alloc (.cells #[.int .u8 c.k, .int .u8 c.f] 5)) (bA _ _) (w3.heap.size + 1) w3.heap.size (w3.heap.size + 1 + 1) (sA _ _)
      ((head_reads (w3.alloc (.cells #[.int .u8 0, .int .u8 0] 5)) c HC.out _ (by simp)).more (by simp)) (((tail_reads w3 _ rfl).alloc (by simp) _).more (by simp)))
    have hlen : (encR c).flatten.length ≤ 140737488355328 := by
      rw [encR_flat]
      simp [encL, length_putB, HC.out.l]
    have HLEN := Lib.hid hlen
    clear RR bA sA hlen
    generalize hb0 : w.heap.size = b0 at *
    have HB0 := Lib.hid hb0
    clear hb0
    generalize c.k = k at *
    generalize c.f = f at *
    have hmk := fun W => make2 W
    go_region_held3 (fun w' => w'.cell? ⟨b0, 0, none⟩ = some (.int .u8 k) ∧ w'.cell? ⟨b0, 1, none⟩ = some (.int .u8 f)) (first | (exact kp) | (exact kept2 (w := w3) (B := b0 + 1) (Below.drew ((Below.refl _ _).alloc (by omega) _)) (by omega) a0 a1) | (exact kept2 (w := w3) (B := b0 + 1) (Below.drew (((Below.refl _ _).alloc (by omega) _).alloc (by simp; first | done | omega) _)) (by omega) a0 a1) | (exact kept2 (w := w3) (B := b0 + 1) (Below.drew ((((Below.refl _ _).alloc (by omega) _).alloc (by simp; first | done | omega) _).alloc (by simp; first | done | omega) _)) (by omega) a0 a1) | (go_keep; done)) (first | (go_at_call 9; refine (Join_any _ 5 _ (encR c) _ _ (by first | exact HJA.out | exact HJB.out) (by simp) (by omega) HLEN.out).mono ?_; rintro e w5 ⟨g5, n5, c5, rfl, hn5, ho5, hb5⟩; have HO5 := Lib.hid ho5; have HN5 := Lib.hid hn5; have HB5 := Lib.hid ((show Below b0 w3 (World.drew _) from (Below.drew ((((Below.refl _ _).alloc (by omega) _).alloc (by simp; first | done | omega) _).alloc (by simp; first | done | omega) _))).trans (hb5.mono (by simp; omega))); have kp := kept2 ((show Below (b0 + 1) w3 (World.drew _) from (Below.drew ((((Below.refl _ _).alloc (by omega) _).alloc (by simp; first | done | omega) _).alloc (by simp; first | done | omega) _))).trans (hb5.mono (by simp; omega))) (by omega) a0 a1; clear ho5 hn5 hb5))
    all_goals (have HO6 := Lib.hid (own_base (base' := b0) HO5.out (by simp; omega)); clear HO5 kp HJA HJB)
    all_goals go_wp2_with fail
    all_goals go_ret2
    all_goals exact ⟨some ⟨g5, 0, none⟩, n5, c5, rfl, by rw [← HM.out, ← encR_flat]; exact HN5.out, by rw [HB0.out, ← HM.out, ← encR_flat]; exact HO6.out, by rw [HB0.out]; exact HB3.out.trans HB5.out⟩
  · rw [if_neg h0] at hm
    subst hm
    go_wp2_with fail
    go_ret2
    exact ⟨none, 0, 0, by simp, rfl, World.ownsRow_nil _ _ _ _, HB.out⟩
end Go.Proofs.Ytobmopjfbgkfbaa
