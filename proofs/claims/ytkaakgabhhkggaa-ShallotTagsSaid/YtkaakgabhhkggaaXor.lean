/-
  Contracts of codec.Xor and shallotref01.Xor: both give the lists turned by one another place by place, or the same error's number.
-/
import Derived.Test.YtkaakgabhhkggaaLists
import Derived.StillTailTactics
namespace Go.Proofs.Ytkaakgabhhkggaa
open Go Go.RowKit Go.Sh

/-- place by place -/
def xz (a b : List UInt8) : List UInt8 := List.zipWith (fun x y => x ^^^ y) a b
def xorAll (n : Nat) (ls : List (List UInt8)) : List UInt8 := ls.foldl xz (zs n)
theorem length_xz {a b : List UInt8} {n : Nat} (ha : a.length = n) (hb : b.length = n) : (xz a b).length = n := by simp [xz, ha, hb]
theorem length_foldl_xz (ls : List (List UInt8)) : ∀ (a : List UInt8) (n : Nat), a.length = n → (∀ l ∈ ls, l.length = n) → (ls.foldl xz a).length = n := by
  induction ls with
  | nil => intro a n ha _; exact ha
  | cons l ls ih => intro a n ha h; exact ih _ n (length_xz ha (h l (by simp))) (fun x hx => h x (by simp [hx]))
theorem length_xorAll {n : Nat} {ls : List (List UInt8)} (h : ∀ l ∈ ls, l.length = n) : (xorAll n ls).length = n := length_foldl_xz ls _ n (length_zs n) h
theorem xorAll_snoc (n : Nat) (ls : List (List UInt8)) (l : List UInt8) : xorAll n (ls ++ [l]) = xz (xorAll n ls) l := by simp [xorAll]
/-- the first i places turned -/
def mix (a b : List UInt8) (i : Nat) : List UInt8 := (xz a b).take i ++ a.drop i
theorem mix_zero (a b : List UInt8) : mix a b 0 = a := by simp [mix]
theorem mix_all {a b : List UInt8} {n : Nat} (ha : a.length = n) (hb : b.length = n) : mix a b n = xz a b := by
  unfold mix
  rw [List.take_of_length_le (by rw [length_xz ha hb]; omega), List.drop_eq_nil_of_le (by omega), List.append_nil]
theorem length_mix {a b : List UInt8} {n i : Nat} (ha : a.length = n) (hb : b.length = n) (hi : i ≤ n) : (mix a b i).length = n := by
  simp [mix, length_xz ha hb, ha]; omega
theorem bt_mix {a b : List UInt8} {n i : Nat} (ha : a.length = n) (hb : b.length = n) (hi : i < n) : bt (mix a b i) i = bt a i := by
  unfold bt mix
  have h1 : ((xz a b).take i).length = i := by rw [List.length_take, length_xz ha hb]; omega
  simp only [List.getD_eq_getElem?_getD]
  rw [List.getElem?_append_right (by omega), h1, Nat.sub_self, List.getElem?_drop, Nat.add_zero]
theorem mix_succ {a b : List UInt8} {n i : Nat} (ha : a.length = n) (hb : b.length = n) (hi : i < n) : mix a b (i + 1) = (mix a b i).set i (a.getD i 0 ^^^ b.getD i 0) := by
  have h1 : ((xz a b).take i).length = i := by rw [List.length_take, length_xz ha hb]; omega
  unfold mix
  rw [List.set_append_right _ _ (Nat.le_of_eq h1), h1, Nat.sub_self, List.drop_eq_getElem_cons (show i < a.length by omega), List.set_cons_zero, List.take_succ_eq_append_getElem (by rw [length_xz ha hb]; exact hi), List.append_assoc]
  congr 1
  simp [xz, ha, hb, hi]
theorem bv_set (l : List UInt8) (i : Nat) (x : UInt8) : (bv l).set i (.int .u8 (x.toNat : Int)) = bv (l.set i x) := by simp [bv, List.map_set]

/-- are all as long as the first? -/
def evenB (ls : List (List UInt8)) : Bool := ls.all fun l => l.length == (lat ls 0).length
def xorL (ls : List (List UInt8)) : List UInt8 := if evenB ls = true then xorAll (lat ls 0).length ls else []
def xorE (ls : List (List UInt8)) : Int := if evenB ls = true then 0 else 2

set_option maxRecDepth 100000 in
theorem Xor_any (A : Option Addr) (m c : Nat) (ls : List (List UInt8)) (w : World) (B : Nat) (hr : RBB w B A m ls) (hB : B ≤ w.heap.size) (hm : m ≤ 140737488355328) (hs : ∀ l ∈ ls, l.length ≤ 140737488355328) :
    Calls Try.prog 33 #[.slice A m c] w (RetBE w (xorL ls) (xorE ls)) := by
  have HL := Lib.hid hr.len
  have HR := Lib.hid hr
  have HS := Lib.hid hs
  clear hr hs
  by_cases hm0 : m = 0
  · subst hm0
    obtain rfl : ls = [] := List.eq_nil_of_length_eq_zero HL.out
    have e1 : xorL [] = [] := rfl
    have e2 : xorE [] = 0 := rfl
    rw [e1, e2]
    clear e1 e2
    go_enter Try.func33, Try.ntmps33
    go_wp2
    go_ret2
    exact RetBE.nil w 0
  · have hm1 : ((m : Int) == 0) = false := by simp [hm0]
    have hm2 : 0 < m := by omega
    clear hm0
    obtain ⟨ad, A0, n, c0, rfl, hab, hc0, hle0, hrb0⟩ := HR.out.at_ hm2
    have HN := Lib.hid hrb0.len
    have HRB0 := Lib.hid hrb0
    have hc0' : w.cell? ad = some (.slice A0 n c0) := by rw [add_zero] at hc0; exact hc0
    clear hrb0 hc0
    go_enter Try.func33, Try.ntmps33
    go_wp2
    go_loop [5, 16] (fun _ i => ∃ k : Nat, k ≤ m ∧ i = .int .i64 k ∧ ∀ j, j < k → (lat ls j).length = n) (fun _ i => m - (intOf i).toNat)
    case atStart => exact ⟨0, by omega, rfl, fun j hj => absurd hj (by omega)⟩
    case round =>
      obtain ⟨k, hk, rfl, hall⟩ := hrel
      have HA := Lib.hid hall
      clear hall
      by_cases hlt : k < m
      · obtain ⟨ad', Ai, ni, ci, had, _, hc, _, hrb⟩ := HR.out.at_ hlt
        obtain rfl : ad = ad' := by injection had
        have HRB := Lib.hid hrb.len
        clear hrb had
        by_cases hni : ni = n
        · subst hni
          go_wp2
          refine ⟨⟨k + 1, by omega, by go_num, fun j hj => ?_⟩, by simp [intOf]; omega⟩
          by_cases hjk : j < k
          · exact HA.out j hjk
          · obtain rfl : j = k := by omega
            exact HRB.out
        · have hne : ((ni : Int) != (n : Int)) = true := by rw [bne_iff_ne]; omega
          have hev : evenB ls = false := by
            rw [evenB, List.all_eq_false]
            refine ⟨lat ls k, lat_mem (by rw [HL.out]; exact hlt), ?_⟩
            rw [HRB.out, HN.out]
            simpa using hni
          have e1 : xorL ls = [] := by simp [xorL, hev]
          have e2 : xorE ls = 2 := by simp [xorE, hev]
          have H1 := Lib.hid e1
          have H2 := Lib.hid e2
          clear e1 e2 hev hni
          go_wp2
          go_ret2
          rw [H1.out, H2.out]
          exact RetBE.nil w 2
      · obtain rfl : k = m := by omega
        have hall : ∀ l ∈ ls, l.length = n := by
          intro l hl
          obtain ⟨j, hj, rfl⟩ := List.getElem_of_mem hl
          have := HA.out j (by rw [← HL.out]; exact hj)
          simpa [lat, hj] using this
        have hev : evenB ls = true := by
          rw [evenB, List.all_eq_true]
          intro l hl
          simp [hall l hl, HN.out]
        have H1 := Lib.hid (show xorL ls = xorAll n ls by simp [xorL, hev, HN.out])
        have H2 := Lib.hid (show xorE ls = 0 by simp [xorE, hev])
        have HALL := Lib.hid hall
        have hnb : n ≤ 140737488355328 := by rw [← HN.out]; exact HS.out _ (lat_mem (by rw [HL.out]; omega))
        clear hall hev HA hlt
        go_wp2_with (at_make; refine wl_makeB TB rfl (.tmp 31) (.tmp 31) rfl .i64 .i64 _ _ rfl rfl n ?m1 ?m2 ?m3 w.heap.size (Nat.le_refl _) ?m4)
        case m1 => rfl
        case m2 => rfl
        case m3 => omega
        case m4 =>
          intro w1 hown hg hlt1
          have HO1 := Lib.hid hown
          have HB1 := Lib.hid (show Below w.heap.size w w1 from (Below.refl _ _).grown hg (Nat.le_refl _) (by simp))
          clear hown hg hlt1
          generalize hgg : w.heap.size = g0 at *
          go_wp2
          go_loopw [8, 9, 10, 35, 39, 40, 41] (fun _ _ _ i _ _ _ wr => ∃ j : Nat, j ≤ k ∧ i = .int .i64 j ∧ wr.ownsRow g0 5 1 (.slice (some ⟨g0, 0, none⟩) n n) n (bv (xorAll n (ls.take j))) ∧ Below g0 w wr) (fun _ _ _ i _ _ _ _ => k - (intOf i).toNat)
          case atStart => exact ⟨0, by omega, rfl, HO1.out, HB1.out⟩
          case round =>
            obtain ⟨j, hj, rfl, hown, hb⟩ := hrel
            have HO := Lib.hid hown
            have HB := Lib.hid hb
            clear hown hb
            by_cases hlt : j < k
            · obtain ⟨ad', Ai, ni, ci, had, hadb, hc, _, hrb⟩ := HR.out.at_ hlt
              obtain rfl : ad = ad' := by injection had
              have hni : ni = n := by rw [← hrb.len]; exact HALL.out _ (lat_mem (by rw [HL.out]; exact hlt))
              subst hni
              rw [← HB.out.cell (by rw [block_of_add]; omega)] at hc
              have HRB := Lib.hid hrb
              have hacc : (xorAll ni (ls.take j)).length = ni := length_xorAll (fun l hl => HALL.out l (List.mem_of_mem_take hl))
              have HACC := Lib.hid hacc
              have hsn : xorAll ni (ls.take (j + 1)) = xz (xorAll ni (ls.take j)) (lat ls j) := by
                rw [take_snoc ls j (by rw [HL.out]; exact hlt), xorAll_snoc]
              have HSN := Lib.hid hsn
              generalize xorAll ni (ls.take j) = acc at *
              clear hrb had hacc hsn
              go_wp2
              go_loopw [9, 10, 41] (fun _ _ i wi => ∃ q : Nat, q ≤ ni ∧ i = .int .i64 q ∧ wi.ownsRow g0 5 1 (.slice (some ⟨g0, 0, none⟩) ni ni) ni (bv (mix acc (lat ls j) q)) ∧ Below g0 w wi) (fun _ _ i _ => ni - (intOf i).toNat)
              case atStart => exact ⟨0, by omega, rfl, by rw [mix_zero]; exact HO.out, HB.out⟩
              case round =>
                obtain ⟨q, hq, rfl, hown, hb⟩ := hrel
                have HOi := Lib.hid hown
                have HBi := Lib.hid hb
                clear hown hb
                by_cases hql : q < ni
                · obtain ⟨a2, rfl, hb2, hc2⟩ := HRB.out.at_ hql
                  have hc2' := (HBi.out.cell (p := a2.add q) (by rw [block_of_add]; omega)).trans hc2
                  have hcr := HOi.out.cellAt q (by omega)
                  rw [bv_at _ _ (by rw [length_mix HACC.out HRB.out.len hq]; exact hql), bt_mix HACC.out HRB.out.len hql] at hcr
                  have hfr := HOi.out.frozenAt q
                  clear hc2
                  go_wp2
                  refine ⟨⟨q + 1, by omega, by go_num, ?_, HBi.out.setCell (Nat.le_refl _) _⟩, by simp [intOf]; omega⟩
                  have h := (HOi.out.stored q (.int .u8 ((acc.getD q 0 ^^^ (lat ls j).getD q 0).toNat : Int))).1
                  rw [bv_set, ← mix_succ HACC.out HRB.out.len hql] at h
                  unfold bt
                  rw [bits_u8_xor]
                  exact h
                · obtain rfl : q = ni := by omega
                  have hfin := HOi.out
                  rw [mix_all HACC.out HRB.out.len, ← HSN.out] at hfin
                  have HF := Lib.hid hfin
                  clear hfin hc
                  go_wp2
                  exact ⟨⟨j + 1, by omega, by go_num, HF.out, HBi.out⟩, by simp [intOf]; omega⟩
            · obtain rfl : j = k := by omega
              have hfin := HO.out
              rw [List.take_of_length_le (by rw [HL.out]; omega), ← H1.out] at hfin
              have HF := Lib.hid hfin
              have HLL := Lib.hid (show (xorL ls).length = n by rw [H1.out]; exact length_xorAll HALL.out)
              clear hfin
              go_wp2
              go_ret2
              rw [H2.out]
              refine ⟨_, n, n, rfl, HLL.out, ?_, ?_⟩
              · rw [hgg]; exact HF.out
              · rw [hgg]; exact HB.out

theorem xz_zs {a : List UInt8} {n : Nat} (h : a.length = n) : xz (zs n) a = a := by
  apply List.ext_getElem
  · rw [length_xz (length_zs n) h, h]
  · intro i h1 h2
    simp [xz, zs]
theorem xorAll_one (l : List UInt8) : xorAll l.length [l] = l := by
  show xz (zs l.length) l = l
  exact xz_zs rfl

end Go.Proofs.Ytkaakgabhhkggaa
