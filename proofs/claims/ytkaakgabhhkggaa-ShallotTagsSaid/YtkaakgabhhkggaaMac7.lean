/-
  Contract of mac.Expand where 32 bytes are asked for. Conditions: the sizes that slices can have.
-/
import Derived.Test.YtkaakgabhhkggaaMac6
import Derived.Test.YtkaakgabhhkggaaLists
namespace Go.Proofs.Ytkaakgabhhkggaa
open Go Go.RowKit Go.Sh

/-- 32 bytes of a key and what it is for -/
def expB (key info : List UInt8) : List UInt8 := tagB key (info ++ [1])
theorem length_expB (key info : List UInt8) : (expB key info).length = 32 := length_tagB _ _
theorem rbb_three {w : World} {B n c n' c' n2 c2 : Nat} {A A' A2 : Option Addr} {l l' l2 : List UInt8} (h : RB w B A n l) (h' : RB w B A' n' l') (h2 : RB w B A2 n2 l2) (hc : n ≤ c) (hc' : n' ≤ c') (hc2 : n2 ≤ c2) (hB : B ≤ w.heap.size) (t : TypeId) : RBB (w.alloc (.cells #[.slice A n c, .slice A' n' c', .slice A2 n2 c2] t)) (w.heap.size + 1) (some ⟨w.heap.size, 0, none⟩) 3 [l, l', l2] := by
  refine ⟨rfl, [.slice A n c, .slice A' n' c', .slice A2 n2 c2], Reads.lit w t [.slice A n c, .slice A' n' c', .slice A2 n2 c2] 3 1 rfl _ rfl, fun i hi => ?_⟩
  have hi2 : i = 0 ∨ i = 1 ∨ i = 2 := by omega
  rcases hi2 with rfl | rfl | rfl
  · exact ⟨A, n, c, rfl, hc, (h.alloc hB _).more (by omega)⟩
  · exact ⟨A', n', c', rfl, hc', (h'.alloc hB _).more (by omega)⟩
  · exact ⟨A2, n2, c2, rfl, hc2, (h2.alloc hB _).more (by omega)⟩
theorem run_sl_max (w : World) (A : Option Addr) (n c q : Nat) (h1 : q ≤ c) :
    (Instr.slice 22 (.slice A n c) none (some (.int .i64 (q : Int))) (some (.int .i64 (q : Int)))).run Try.prog w = .ok (.slice A q q) w := by
  obtain ⟨i, hi, hz, hsize, hby⟩ := info_parts TB.info
  have e3 : A.map (fun x => x.add 0) = A := by
    cases A with
    | none => rfl
    | some a => simp [Addr.add]
  simp [Instr.slice, run_underlying Try.underlying22, Instr.sliceBounds, Instr.sliceBound, asIntOf, sizeOf, typeInfo, hi, h1, e3]

set_option maxRecDepth 100000 in
set_option maxHeartbeats 4000000 in
theorem Expand_any (A : Option Addr) (n c : Nat) (key : List UInt8) (A' : Option Addr) (m c' : Nat) (ls : List (List UInt8)) (w : World) (B B' : Nat) (hk : RB w B A n key) (hB : B ≤ w.heap.size) (hn : n ≤ 140737488355328) (hc : n ≤ c)
    (hl : RBB w B' A' m ls) (hB' : B' ≤ w.heap.size) (hs : ls.flatten.length ≤ 1048576) (hm : m ≤ 1048576) :
    Calls Try.prog 24 #[.slice A n c, .int .i64 32, .slice A' m c'] w (fun e w' => ∃ A2, e = .returned (.tuple #[.slice A2 32 32, .int .i64 0]) ∧ RB w' w'.heap.size A2 32 (expB key ls.flatten) ∧ (∀ ad, A2 = some ad → w.heap.size ≤ ad.block) ∧ Below w.heap.size w w') := by
  have HK := Lib.hid hk
  have HL := Lib.hid hl
  clear hk hl
  go_enter Try.func24, Try.ntmps24
  go_wp2_with fail
  refine (Join_any A' m c' ls w B' HL.out hB' (by omega) (by omega)).mono ?_
  rintro e w1 ⟨gj, nj, cj, rfl, hnj, ho, hb⟩
  have HJ := Lib.hid ho
  have HB1 := Lib.hid hb
  have hcj := own_cap ho
  have HNJ := Lib.hid hnj
  have hz1 := hb.size
  clear ho hb hnj
  obtain ⟨l, hl⟩ : ∃ l, ls.flatten = l := ⟨_, rfl⟩
  have HE := Lib.hid (show expB key l = tagB key (([] : List UInt8) ++ (l ++ ([1] : List UInt8))) from rfl)
  rw [hl] at HJ HNJ hs
  have hnj2 : nj ≤ 1048576 := by rw [← HNJ.out]; exact hs
  have HFL := Lib.hid hl
  clear hl
  have hz32 := zero32b
  have hz32s : (bv (zs 32)).toArray.size = 32 := rfl
  have HS32 := Lib.hid sto32_new
  generalize (bv (zs 32)).toArray = zd at *
  have hzde : ¬ zd = #[] := by intro h; rw [h] at hz32s; cases hz32s
  go_wp2_with (at_make; refine wl_make0 TB rfl (.const (.int .i64 0)) (.tmp 22) rfl .i64 .i64 _ rfl rfl 64 ?m1 ?m2 ?m3 w.heap.size ?m4 ?m5)
  case m1 => rfl
  case m2 => decide
  case m3 => decide
  case m4 => exact hz1
  intro w2 hown hg _
  have hbg : Below w1.heap.size w1 w2 := (Below.refl _ _).grown hg (Nat.le_refl _) (by simp)
  have HO2 := Lib.hid hown
  have HJ2 := Lib.hid (own_later HJ.out hbg)
  have HB2 := Lib.hid (HB1.out.trans (hbg.mono hz1))
  have hz2 := hbg.size
  clear hown hg hbg HJ HB1
  generalize hgo : w1.heap.size = go at *
  clear hgo
  go_wp2_with fail
  go_loopw [9, 10, 11, 12] (fun v9 v10 v11 _ wr => Below w.heap.size w wr ∧ ((v9 = .slice (some ⟨go, 0, none⟩) 0 64 ∧ v10 = .slice none 0 0 ∧ v11 = .int .i64 1 ∧ wr.ownsRow w.heap.size 5 1 (.slice (some ⟨go, 0, none⟩) 0 64) 0 [] ∧ wr.ownsRow w.heap.size 5 1 (.slice (some ⟨gj, 0, none⟩) nj cj) nj (bv l)) ∨ (∃ A9 c9, v9 = .slice A9 32 c9 ∧ wr.ownsRow w.heap.size 5 1 (.slice A9 32 c9) 32 (bv (expB key l))))) (fun v9 _ _ _ _ => 32 - slLen v9)
  case atStart => exact ⟨HB2.out, .inl ⟨rfl, rfl, rfl, HO2.out, HJ2.out⟩⟩
  case round =>
    obtain ⟨hb, hrel⟩ := hrel
    have HB := Lib.hid hb
    have hzr := hb.size
    clear hb HO2 HJ2 HB2
    rcases hrel with ⟨rfl, rfl, rfl, ho, hj⟩ | ⟨A9, c9, rfl, ho⟩
    · have HO := Lib.hid ho
      have HJ := Lib.hid hj
      clear ho hj
      -- the number, the list of three
      have hb3 := (Below.refl wr.heap.size wr).alloc (Nat.le_refl _) (.cells #[.int .u8 1] 5)
      have hz3 : (wr.alloc (.cells #[.int .u8 1] 5)).heap.size = wr.heap.size + 1 := by simp
      have hr1 := RB.lit wr 5 [1] [.int .u8 1] rfl 1 rfl
      have hrj := ((RB.of_own (own_later HJ.out hb3)))
      have hr3 := rbb_three (RB.none_ (A := none) (B := (wr.alloc (.cells #[.int .u8 1] 5)).heap.size)) hrj (hr1.more (by rw [hz3]; exact Nat.le_refl _)) (Nat.le_refl 0) hcj (Nat.le_refl 1) (Nat.le_refl _) 22
      have hb4 := (Below.refl (wr.alloc (.cells #[.int .u8 1] 5)).heap.size (wr.alloc (.cells #[.int .u8 1] 5))).alloc (Nat.le_refl _) (.cells #[.slice none 0 0, .slice (some ⟨gj, 0, none⟩) nj cj, .slice (some ⟨wr.heap.size, 0, none⟩) 1 1] 22)
      rw [hz3] at hr3 hb4
      have hz4 : ((wr.alloc (.cells #[.int .u8 1] 5)).alloc (.cells #[.slice none 0 0, .slice (some ⟨gj, 0, none⟩) nj cj, .slice (some ⟨wr.heap.size, 0, none⟩) 1 1] 22)).heap.size = wr.heap.size + 2 := by simp
      have HR3 := Lib.hid hr3
      have hb34 := hb3.trans (hb4.mono (show wr.heap.size ≤ wr.heap.size + 1 by omega))
      have HB4 := Lib.hid (HB.out.trans (hb34.mono hzr))
      have HO4 := Lib.hid (own_later HO.out hb34)
      have HK4 := Lib.hid (HK.out.below (HB4.out.mono hB))
      clear hb3 hr1 hrj hr3 hb4 hb34 HO HJ HB
      go_wp2_with fail
      generalize (wr.alloc (.cells #[.int .u8 1] 5)).alloc (.cells #[.slice none 0 0, .slice (some ⟨gj, 0, none⟩) nj cj, .slice (some ⟨wr.heap.size, 0, none⟩) 1 1] 22) = w4 at *
      refine (Tag_any A n c key _ 3 3 [[], l, [1]] w4 B _ HK4.out (by omega) hn hc HR3.out (by omega) (by simp only [List.flatten_cons, List.flatten_nil, List.append_nil, List.length_append, List.length_cons, List.length_nil, HNJ.out]; omega) (by decide)).mono ?_
      rw [show ([[], l, [1]] : List (List UInt8)).flatten = [] ++ (l ++ [1]) by simp, ← HE.out]
      rintro e w5 ⟨rfl, hb⟩
      have hz5 := hb.size
      have hxs : (bv (expB key l)).toArray.size = 32 := by rw [List.size_toArray, length_bv, length_expB]
      have hn6 := RowB.new w5 29 (expB key l)
      obtain ⟨Z, hZ⟩ : ∃ Z, (bv (expB key l)).toArray = Z := ⟨_, rfl⟩
      have hst := HS32.out w5 (expB key l) (length_expB _ _) Z hZ
      rw [hZ] at hxs hn6 ⊢
      have hZe : ¬ Z = #[] := by intro h; rw [h] at hxs; cases hxs
      have hb6 := (Below.refl w5.heap.size w5).alloc (Nat.le_refl _) (.cells Z 29)
      have hz6 : (w5.alloc (.cells Z 29)).heap.size = w5.heap.size + 1 := by simp
      have HB6 := Lib.hid ((HB4.out.trans (hb.mono (by omega))).trans (hb6.mono (by omega)))
      have HO6 := Lib.hid (own_later (own_later HO4.out hb) hb6)
      have hrz := rb_row hn6
      rw [length_expB] at hrz
      have HRZ := Lib.hid hrz
      clear hZ hn6 hb hb6 hrz HB4 HO4 HK4 HR3
      go_wp2_with (at_builtin; refine wl_app TB rfl (.tmp 39) (.tmp 40) rfl (.slice (some ⟨go, 0, none⟩) 0 64) rfl (some ⟨w5.heap.size, 0, none⟩) 32 32 rfl w.heap.size 0 [] HO6.out (w5.heap.size + 1) (bv (expB key l)) HRZ.out (bv_one _) (by decide) (by decide) (by rw [hz6]; omega) ?q6)
      case q6 =>
        intro A9 c9 w7 hown hgr hat
        (try simp only [Nat.zero_add, List.nil_append] at hown)
        have HO7 := Lib.hid hown
        have HB7 := Lib.hid (HB6.out.grown hgr (by rw [hz6]; omega) (own_drop HO6.out))
        clear hown hgr hat
        go_wp2_with fail
        exact ⟨⟨HB7.out, .inr ⟨A9, c9, rfl, HO7.out⟩⟩, by simp only [slLen]; omega⟩
    · have hc9 := own_cap ho
      have HO := Lib.hid ho
      have hrun := fun W : World => run_sl_max W A9 32 c9 32 hc9
      have hfar : ∀ ad, A9 = some ad → w.heap.size ≤ ad.block := by
        intro ad had
        subst had
        rcases ho.2 with ⟨h, h0⟩ | ⟨g, cap, cur, h, hbg, _⟩
        · cases h
        · injection h with h
          injection h with h
          rw [h]
          exact hbg
      have HFR := Lib.hid hfar
      clear ho hfar
      go_wp2_with fail
      go_ret2
      exact ⟨A9, rfl, by rw [HFL.out]; exact RB.of_own HO.out, HFR.out, HB.out⟩
end Go.Proofs.Ytkaakgabhhkggaa
