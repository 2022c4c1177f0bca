/-
  The walk of shallottop.ShallotTags: for every secret, every message and every place of a bit the law returns true and writes nothing that was there. Conditions: the sizes that slices can have.
-/
import Derived.Test.YtkaakgabhhkggaaTagsPlain
import Derived.Test.YtkaakgabhhkggaaRefMac2
import Derived.Test.YtkaakgabhhkggaaMac6
import Derived.Test.YtkaakgabhhkggaaTopSame
import Derived.Deep.DeepCutAuto
import Derived.StillTailTactics
namespace Go.Proofs.Ytkaakgabhhkggaa
open Go Go.RowKit Go.Sh

theorem RBB.oneD {w : World} {B n c : Nat} {A : Option Addr} {l : List UInt8} (h : RB w B A n l) (hc : n ≤ c) (hB : B ≤ w.heap.size) (t : TypeId) : RBB (w.alloc (.cells #[.slice A n c] t)) (w.heap.size + 1) (some ⟨w.heap.size, 0, none⟩) 1 [l] := rbb_one h hc hB t
theorem rbb_flow {w w' : World} {B n c q : Nat} {A : Option Addr} {l : List UInt8} {t : TypeId} (h : RB w B A n l) (hc : n ≤ c) (hB : B ≤ q) (hq : q < w.heap.size) (hg : (w.alloc (.cells #[.slice A n c] t)).grownBy w' (some q)) : RBB w' w'.heap.size (some ⟨w.heap.size, 0, none⟩) 1 [l] := by
  have hsz : (w.alloc (.cells #[.slice A n c] t)).heap.size = w.heap.size + 1 := by simp
  have hb := hg.block w.heap.size (by omega) (by intro e; injection e with e; omega)
  rw [heap_alloc_new w _] at hb
  have hs := hg.size
  have hbl : Below q (w.alloc (.cells #[.slice A n c] t)) w' := (Below.refl q _).grown hg (by omega) (by intro x hx; injection hx with hx; omega)
  refine ⟨rfl, [.slice A n c], ⟨rfl, .inr ⟨_, rfl, by simp only; omega, fun j hj => ?_⟩⟩, fun i hi => ?_⟩
  · rw [add_mk, blk_cell hb, List.getElem?_toArray, Nat.zero_add]
    first | done | exact List.getElem?_eq_getElem hj
  · obtain rfl : i = 0 := by omega
    exact ⟨A, n, c, rfl, hc, ((h.more hB).alloc (by omega) _).below hbl |>.more (by omega)⟩
theorem flat1 (l : List UInt8) : ([l] : List (List UInt8)).flatten = l := by simp

set_option maxHeartbeats 8000000 in
set_option maxRecDepth 100000 in
theorem ShallotTags_walk (A0 : Option Addr) (n0 c0 : Nat) (l0 : List UInt8) (A1 : Option Addr) (n1 c1 : Nat) (l1 : List UInt8) (z : Int) (w : World) (hr0 : RB w w.heap.size A0 n0 l0) (hr1 : RB w w.heap.size A1 n1 l1) (hn0 : n0 ≤ 140737488355328) (hn1 : n1 ≤ 140737488355328) (hc0 : n0 ≤ c0) (hc1 : n1 ≤ c1) (hz1 : -9223372036854775808 ≤ z) (hz2 : z ≤ 9223372036854775807) :
    Calls Try.prog 3 #[.slice A0 n0 c0, .slice A1 n1 c1, .int .i64 z] w (LawPost w) := by
  obtain ⟨names, hnames⟩ : ∃ names : List ByteArray, names = [⟨#[97]⟩, ⟨#[98]⟩] := ⟨_, rfl⟩
  have hrl := Reads.lit w 9 (names.map Value.string) 2 1 (by rw [hnames]; rfl) _ rfl
  have hbl := (Below.refl w.heap.size w).alloc (Nat.le_refl _) (.cells (names.map Value.string).toArray 9)
  have hzl : (w.alloc (.cells (names.map Value.string).toArray 9)).heap.size = w.heap.size + 1 := by simp
  have HNM := Lib.hid (show (names.map Value.string).toArray = #[.string ⟨#[97]⟩, .string ⟨#[98]⟩] by rw [hnames]; rfl)
  have HNS := Lib.hid (show ∀ s ∈ names, s.size ≤ 1000 by rw [hnames]; decide)
  have HNL := Lib.hid (show names.length = 2 by rw [hnames]; rfl)
  have HR0 := Lib.hid (hr0.below hbl)
  have HR1 := Lib.hid (hr1.below hbl)
  rw [HNM.out] at hrl hbl hzl HR0 HR1
  have HRL := Lib.hid hrl
  have HBL := Lib.hid hbl
  have HKL := Lib.hid (length_keysF l0 names)
  clear hr0 hr1 hrl hbl hnames
  go_enter Try.func3, Try.ntmps3
  go_wp2_with fail
  generalize w.alloc (.cells #[.string ⟨#[97]⟩, .string ⟨#[98]⟩] 9) = w1 at *
  refine (Derive_any A0 n0 c0 l0 _ 2 2 names w1 _ _ HR0.out (by omega) hn0 hc0 HRL.out (by omega) (by decide) (by decide) HNS.out).mono ?_
  rintro e w2 ⟨g, rfl, hg1, hkb, hb2⟩
  obtain ⟨ks, hks⟩ : ∃ ks, keysF l0 names = ks := ⟨_, rfl⟩
  rw [hks] at hkb HKL
  have hglt : g < w2.heap.size := (Array.getElem?_eq_some_iff.1 hkb).1
  have HKB := Lib.hid hkb
  have HB2 := Lib.hid (HBL.out.trans (hb2.mono (by omega)))
  have HR2 := Lib.hid (HR1.out.below (hb2.mono (by omega)))
  have HKS := Lib.hid (show ks.length = 64 by rw [HKL.out, HNL.out])
  have hz2' := hb2.size
  clear hks hkb hb2 HBL HRL HR0 HR1 HKL HNL HNS HNM
  have hb3 := (Below.refl w2.heap.size w2).alloc (Nat.le_refl _) (.cells #[.int .u8 1] 5)
  have HRO := Lib.hid (RB.lit w2 5 [1] [.int .u8 1] rfl 1 rfl)
  have hz3 : (w2.alloc (.cells #[.int .u8 1] 5)).heap.size = w2.heap.size + 1 := by simp
  have HB3 := Lib.hid (HB2.out.trans (hb3.mono (by omega)))
  have HR3 := Lib.hid (HR2.out.below (hb3.mono (by omega)))
  have HKB3 := Lib.hid ((hb3.block g hglt).trans HKB.out)
  clear hb3 HB2 HR2 HKB
  go_wp2_with fail
  generalize w2.alloc (.cells #[.int .u8 1] 5) = w3 at *
  refine (MacCheck_any none 0 0 [] _ 1 1 [1] none 0 0 [] w3 1 1 (w2.heap.size + 1) RB.none_ (by omega) (by decide) (by decide) HRO.out (by omega) ⟨rfl, [], Reads.none_, fun i hi => absurd hi (by omega)⟩ (by omega) (by decide) (by decide)).mono ?_
  rw [tag_not_one _ _ [1] rfl]
  rintro e w4 ⟨rfl, hb4⟩
  have hz4 := hb4.size
  have HB4 := Lib.hid (HB3.out.trans (hb4.mono (by omega)))
  have HR4 := Lib.hid (HR3.out.below (hb4.mono (by omega)))
  have HKB4 := Lib.hid ((hb4.block g (by omega)).trans HKB3.out)
  clear hb4 HB3 HR3 HKB3 HRO
  obtain ⟨N, hN⟩ : ∃ N, min n1 2000 = N := ⟨_, rfl⟩
  have HN := Lib.hid hN
  have hN2 : N ≤ 2000 := by omega
  have hNc : N ≤ c1 := by omega
  have HRN := Lib.hid (show RB w4 w.heap.size A1 N (l1.take N) from HR4.out.take (k := N) (by omega))
  have hrun : 2000 < n1 → ∀ W : World, (Instr.slice 22 (.slice A1 n1 c1) none (some (.int .i64 2000)) none).run Try.prog W = .ok (.slice A1 2000 c1) W := fun h W => run_sl_hi TB W A1 n1 c1 .i64 2000 (by omega)
  have HRUN := Lib.hid hrun
  clear hN hrun HR4
  go_upto_if 33 with fail
  go_cut [1] (fun v wx => v = .slice A1 N c1 ∧ wx = w4)
  case first =>
    by_cases hbig : 2000 < n1
    · have hrun := HRUN.out hbig
      have d1 : (2000 : Int) < (n1 : Int) := by omega
      have hNe : N = 2000 := by have := HN.out; omega
      subst hNe
      go_wp2_with fail
      go_meet
      exact ⟨rfl, rfl⟩
    · have d1 : ¬ (2000 : Int) < (n1 : Int) := by omega
      have hNe : n1 = N := by have := HN.out; omega
      subst hNe
      go_wp2_with fail
      go_meet
      exact ⟨rfl, rfl⟩
  case rest =>
    obtain ⟨rfl, rfl⟩ := hcut
    obtain ⟨l, hl⟩ : ∃ l, l1.take N = l := ⟨_, rfl⟩
    rw [hl] at HRN
    have HLL := Lib.hid HRN.out.len
    clear hl HRUN HN hz2' hz3 hz4
    have hgc : g < wc.heap.size := (Array.getElem?_eq_some_iff.1 HKB4.out).1
    obtain ⟨k0, hk0⟩ : ∃ k0, ks.take 32 = k0 := ⟨_, rfl⟩
    obtain ⟨k1, hk1⟩ : ∃ k1, ks.drop 32 = k1 := ⟨_, rfl⟩
    have HKEYS := Lib.hid (show ∀ W : World, W.heap[g]? = some (.cells (bv ks).toArray 29 (0, 0)) → RB W (g + 1) (some ⟨g, 0, none⟩) 32 k0 ∧ RB W (g + 1) (some ⟨g, 32, none⟩) 32 k1 from fun W h => by
      rw [← hk0, ← hk1]; exact two_keys h HKS.out)
    clear hk0 hk1 hg1 hglt hzl
    have hb5 := (Below.refl wc.heap.size wc).alloc (Nat.le_refl _) (.cells #[.slice A1 N c1] 22)
    have hz5 : (wc.alloc (.cells #[.slice A1 N c1] 22)).heap.size = wc.heap.size + 1 := by simp
    have hwc : w.heap.size ≤ wc.heap.size := HB4.out.size
    have HRL5 := Lib.hid (RBB.oneD HRN.out hNc hwc 22)
    have HB5 := Lib.hid (HB4.out.trans (hb5.mono hwc))
    have HR5 := Lib.hid (HRN.out.below (hb5.mono hwc))
    have HKB5 := Lib.hid ((hb5.block g hgc).trans HKB4.out)
    clear hb5 HB4 HRN HKB4
    go_wp2_with fail
    generalize wc.alloc (.cells #[.slice A1 N c1] 22) = w5 at *
    refine (ChaTurn_any (some ⟨g, 0, none⟩) 32 32 k0 _ 1 1 [l] w5 (g + 1) _ (HKEYS.out w5 HKB5.out).1 (by omega) HRL5.out (by omega) (by decide)).mono ?_
    rw [flat1, (cturn_ok k0 l (by rw [HLL.out]; omega)).1, (cturn_ok k0 l (by rw [HLL.out]; omega)).2]
    rintro e w6 ⟨A6, n6, c6, rfl, hl6, ho6, hb6⟩
    have hn6 : n6 = N := by rw [← hl6, length_xz rfl (length_sbytes _ _ _), HLL.out]
    subst hn6
    obtain ⟨sl, hsl⟩ : ∃ sl, xz l (sbytes k0 0 l.length) = sl := ⟨_, rfl⟩
    rw [hsl] at ho6 hl6
    have HSL := Lib.hid hsl
    have HSN := Lib.hid hl6
    have hz6 := hb6.size
    have HC6 := Lib.hid (own_cap ho6)
    have HS6 := Lib.hid (RB.of_own ho6)
    have HB6 := Lib.hid (HB5.out.trans (hb6.mono (by omega)))
    have HR6 := Lib.hid (HR5.out.below (hb6.mono (by omega)))
    have HKB6 := Lib.hid ((hb6.block g (by omega)).trans HKB5.out)
    clear hsl ho6 hl6 hb6 HB5 HR5 HKB5 HRL5
    have hb7 := (Below.refl w6.heap.size w6).alloc (Nat.le_refl _) (.cells #[.slice A6 n6 c6] 22)
    have hz7 : (w6.alloc (.cells #[.slice A6 n6 c6] 22)).heap.size = w6.heap.size + 1 := by simp
    have HRL7 := Lib.hid (RBB.oneD HS6.out HC6.out (Nat.le_refl _) 22)
    have HB7 := Lib.hid (HB6.out.trans (hb7.mono (by omega)))
    have HR7 := Lib.hid (HR6.out.below (hb7.mono (by omega)))
    have HS7 := Lib.hid (HS6.out.below hb7)
    have HKB7 := Lib.hid ((hb7.block g (by omega)).trans HKB6.out)
    clear hb7 HB6 HR6 HKB6 HS6
    go_wp2_with fail
    generalize w6.alloc (.cells #[.slice A6 n6 c6] 22) = w7 at *
    refine (Short_any (some ⟨g, 32, none⟩) 32 32 k1 _ 1 1 [sl] w7 (g + 1) _ (HKEYS.out w7 HKB7.out).2 (by omega) (by decide) (by decide) HRL7.out (by omega) (by rw [flat1, HSN.out]; omega) (by decide)).mono ?_
    rw [flat1]
    rintro e w8 ⟨g8, rfl, ho8, hb8⟩
    obtain ⟨tg, htg⟩ : ∃ tg, (tagB k1 sl).take 16 = tg := ⟨_, rfl⟩
    rw [htg] at ho8
    have HTG := Lib.hid htg
    have hz8 := hb8.size
    have HT8 := Lib.hid (RB.of_own ho8)
    have HB8 := Lib.hid (HB7.out.trans (hb8.mono (by omega)))
    have HR8 := Lib.hid ((HR7.out.below (hb8.mono (by omega))).more (show w.heap.size ≤ w8.heap.size by omega))
    have HS8 := Lib.hid ((HS7.out.below (hb8.mono (by omega))).more (show w6.heap.size ≤ w8.heap.size by omega))
    have HKB8 := Lib.hid ((hb8.block g (by omega)).trans HKB7.out)
    have hg8 : g < w8.heap.size := by omega
    have hw8 : w.heap.size ≤ w8.heap.size := by omega
    clear htg ho8 hb8 HB7 HR7 HKB7 HS7 HRL7 hz5 hz6 hz7 hz8
    go_wp2_with fail
    refine (NewTagger_any (some ⟨g, 32, none⟩) 32 32 k1 w8 (g + 1) (HKEYS.out w8 HKB8.out).2 (by omega) (by decide) (by decide)).mono ?_
    rintro e w9 ⟨p, rfl, hp, hh9, hb9⟩
    have HH9 := Lib.hid hh9
    have HB9 := Lib.hid hb9
    have hz9 := hb9.size
    clear hh9 hb9
    obtain ⟨K, hK⟩ : ∃ K, bv (mblk k1) = K := ⟨_, rfl⟩
    obtain ⟨M, hM⟩ : ∃ M, maskd (mblk k1) 54 = M := ⟨_, rfl⟩
    rw [hK, hM] at HH9
    have HK := Lib.hid hK
    have HM := Lib.hid hM
    have HML := Lib.hid (show M.length = 64 by rw [← hM]; exact length_maskd _ _)
    clear hK hM
    obtain ⟨T, hT⟩ : ∃ T, w8.heap.size = T := ⟨_, rfl⟩
    have HT := Lib.hid hT
    rw [hT] at HB9 HR8 HS8 HT8 hg8 hw8 hp hz9
    clear hT
    go_wp2_with fail
    go_loopw [13, 66] (fun _ i wr => ∃ j : Nat, j ≤ n6 ∧ i = .int .i64 (j : Int) ∧ HashAt wr 41 p K (M ++ sl.take j) ∧ Below T w8 wr) (fun _ i _ => n6 - (intOf i).toNat)
    case atStart => exact ⟨0, by omega, rfl, by rw [List.take_zero, List.append_nil]; exact HH9.out, HB9.out⟩
    case round =>
      obtain ⟨j, hj, rfl, hh, hb⟩ := hrel
      have HHr := Lib.hid hh
      have HBr := Lib.hid hb
      have hzr := hb.size
      clear hh hb HH9 HB9
      by_cases hlt : j < n6
      · have dj : (j : Int) < (n6 : Int) := by omega
        obtain ⟨ad, rfl, _, hcell⟩ := (HS8.out.below HBr.out).at_ (k := j) hlt
        obtain ⟨b, hb⟩ : ∃ b, sl.getD j 0 = b := ⟨_, rfl⟩
        rw [show bt sl j = (b.toNat : Int) by unfold bt; rw [hb]] at hcell
        have HTK := Lib.hid (show sl.take j ++ [b] = sl.take (j + 1) by
          have hjl : j < sl.length := by rw [HSN.out]; exact hlt
          rw [List.take_add_one, ← hb, List.getD_eq_getElem?_getD, List.getElem?_eq_getElem hjl]; rfl)
        clear hb
        go_wp2_with fail
        have hpl := HHr.out.lt
        have hba := (Below.refl wr.heap.size wr).alloc (Nat.le_refl _) (.cells #[.int .u8 (b.toNat : Int)] 5)
        have hza : (wr.alloc (.cells #[.int .u8 (b.toNat : Int)] 5)).heap.size = wr.heap.size + 1 := by simp
        have hoa : (wr.alloc (.cells #[.int .u8 (b.toNat : Int)] 5)).ownsRow wr.heap.size 5 1 (.slice (some ⟨wr.heap.size, 0, none⟩) 1 1) 1 (bv [b]) := World.ownsRow_lit wr #[.int .u8 (b.toNat : Int)] 1 (Nat.le_refl _) (by decide) rfl
        have hpa := partsOne (t := 22) hoa hpl (by omega)
        have hbb := hba.alloc (by omega) (.cells #[.slice (some ⟨wr.heap.size, 0, none⟩) 1 1] 22)
        rw [hza] at hpa
        refine (Write_any _ p K (M ++ sl.take j) _ 1 1 [[b]] _ (HHr.out.below hbb hpl) hpa (by rw [flat1, List.length_append, HML.out, List.length_take]; simp only [List.length_cons, List.length_nil]; omega) (by decide)).mono ?_
        rintro e wz ⟨rfl, hhz, hgz⟩
        rw [flat1, List.append_assoc, HTK.out] at hhz
        have HHz := Lib.hid hhz
        have HBz := Lib.hid ((HBr.out.trans (hbb.mono (by have := HT.out; omega))).grown hgz (by have := HT.out; have := hbb.size; omega) (by intro x hx; injection hx with hx; omega))
        clear hhz hgz hbb hpa hoa hba
        go_wp2_with fail
        refine ⟨⟨j + 1, by omega, by go_num, HHz.out, HBz.out⟩, by simp [intOf]; omega⟩
      · obtain rfl : j = n6 := by omega
        rw [List.take_of_length_le (by rw [HSN.out]; exact Nat.le_refl _)] at HHr
        have htr : T ≤ wr.heap.size := by have := HT.out; omega
        have hpl := HHr.out.lt
        have HRr := Lib.hid (HR8.out.below HBr.out)
        have HSr := Lib.hid (HS8.out.below HBr.out)
        have HTr := Lib.hid (HT8.out.below HBr.out)
        have HKBr := Lib.hid ((HBr.out.block g hg8).trans HKB8.out)
        have HBa := Lib.hid (HB8.out.trans (HBr.out.mono hw8))
        clear HR8 HS8 HT8 HKB8 HB8 HBr
        have hb10 := (Below.refl wr.heap.size wr).alloc (Nat.le_refl _) (.cells #[.slice A6 j c6] 22)
        have hz10 : (wr.alloc (.cells #[.slice A6 j c6] 22)).heap.size = wr.heap.size + 1 := by simp
        have HRL10 := Lib.hid (RBB.oneD HSr.out HC6.out htr 22)
        have HB10 := Lib.hid hb10
        have HKB10 := Lib.hid ((hb10.block g (by omega)).trans HKBr.out)
        have HT10 := Lib.hid (HTr.out.below (hb10.mono htr))
        have HH10 := Lib.hid (HHr.out.below hb10 hpl)
        clear hb10 HHr
        go_wp2_with fail
        generalize wr.alloc (.cells #[.slice A6 j c6] 22) = w10 at *
        refine (MacCheck_any (some ⟨g, 32, none⟩) 32 32 k1 (some ⟨g8, 0, none⟩) 16 16 tg _ 1 1 [sl] w10 (g + 1) _ T (HKEYS.out w10 HKB10.out).2 (by omega) (by decide) (by decide) HT10.out (by omega) HRL10.out (by omega) (by rw [flat1, HSN.out]; omega) (by decide)).mono ?_
        rw [flat1, HTG.out, decide_eq_true (rfl : tg = tg)]
        rintro e w11 ⟨rfl, hb11⟩
        have hz11 := hb11.size
        have HB11 := Lib.hid (HB10.out.trans (hb11.mono (by omega)))
        have HT11 := Lib.hid (HT10.out.below (hb11.mono (by omega)))
        have HH11 := Lib.hid (HH10.out.below hb11 (by omega))
        clear hb11 HB10 HKB10 HT10 HH10 HRL10
        go_wp2_with fail
        rw [← HK.out] at HH11
        refine (Fits_any p (mblk k1) (M ++ sl) (some ⟨g8, 0, none⟩) 16 16 tg w11 T HH11.out (length_mblk k1) (by rw [List.length_append, HML.out, HSN.out]; omega) HT11.out (by omega)).mono ?_
        rw [← HM.out, tagB_fits, HTG.out, decide_eq_true (rfl : tg = tg)]
        rintro e w12 ⟨rfl, hb12⟩
        have hz12 := hb12.size
        have HB12 := Lib.hid (HB11.out.trans (hb12.mono (by omega)))
        clear hb12 HB11 HT11 HH11
        go_wp2_with fail
        have HR12 := Lib.hid (HRr.out.below (HB12.out.mono htr))
        have HS12 := Lib.hid (HSr.out.below (HB12.out.mono htr))
        have HT12 := Lib.hid (HTr.out.below (HB12.out.mono htr))
        have HKB12 := Lib.hid ((HB12.out.block g (by omega)).trans HKBr.out)
        have HBb := Lib.hid (HBa.out.trans (HB12.out.mono (by omega)))
        have ht12 : T ≤ w12.heap.size := by omega
        clear HRr HSr HTr HKBr HBa HB12 hz9 hzr hz10 hz11 hz12 hpl htr
        refine (New_any (some ⟨g, 0, none⟩) 32 32 k0 w12 (g + 1) (HKEYS.out w12 HKB12.out).1 (by omega)).mono ?_
        intro e w13 hpost
        rcases hpost with ⟨_, q, rfl, hq, hf, hb13⟩ | ⟨hne, _⟩
        · have HF13 := Lib.hid hf
          have hz13 := hb13.size
          have hql := hf.lt
          have HR13 := Lib.hid (HR12.out.below (hb13.mono ht12))
          have HS13 := Lib.hid (HS12.out.below (hb13.mono ht12))
          have HT13 := Lib.hid (HT12.out.below (hb13.mono ht12))
          have HKB13 := Lib.hid ((hb13.block g (by omega)).trans HKB12.out)
          have HB13 := Lib.hid (HBb.out.trans (hb13.mono (by omega)))
          have htq : T ≤ q := by omega
          clear hf hb13 HR12 HS12 HT12 HKB12 HBb hq hz13 ht12
          obtain ⟨h, hh⟩ : ∃ h, j / 2 = h := ⟨_, rfl⟩
          have hhj : h ≤ j := by omega
          have hd1 : Int.tdiv (j : Int) 2 = (h : Int) := by rw [Int.tdiv_eq_ediv_of_nonneg (by omega)]; omega
          have hd2 : (j : Int) / 2 = (h : Int) := by omega
          have HCJ := Lib.hid (show h ≤ c6 by have := HC6.out; omega)
          have hrun1 := fun W : World => run_sl_hi TB W A6 j c6 .i64 h HCJ.out
          obtain ⟨AB, hAB⟩ : ∃ AB, (if c6 = h then A6 else A6.map (·.add h)) = AB := ⟨_, rfl⟩
          have hrun2 : ∀ W : World, (Instr.slice 22 (.slice A6 j c6) (some (.int .i64 (h : Int))) none none).run Try.prog W = .ok (.slice AB (j - h) (c6 - h)) W := fun W => by
            have e := run_sl_lo TB W A6 j c6 .i64 h hhj
            rw [Nat.mul_one, hAB] at e
            exact e
          have HSA := Lib.hid (HS13.out.take (k := h) hhj)
          have HSB := Lib.hid (show RB w13 T AB (j - h) (sl.drop h) by
            have e := HS13.out.cut (k := h) (cap := c6) hhj HC6.out
            rw [hAB] at e
            exact e)
          have HLA := Lib.hid (show (sl.take h).length = h by rw [List.length_take, HSN.out]; omega)
          have HLB := Lib.hid (show (sl.drop h).length = j - h by rw [List.length_drop, HSN.out])
          clear hh hAB
          have hbL := (Below.refl w13.heap.size w13).alloc (Nat.le_refl _) (.cells #[.slice A6 h c6] 22)
          have HFL := Lib.hid (HF13.out.below hbL hql)
          have HGL := Lib.hid (fun w' (hg : (w13.alloc (.cells #[.slice A6 h c6] 22)).grownBy w' (some q)) => rbb_flow HSA.out HCJ.out htq hql hg)
          have HBL := Lib.hid (show Below T w13 (w13.alloc (.cells #[.slice A6 h c6] 22)) from hbL.mono (by omega))
          have hzL : (w13.alloc (.cells #[.slice A6 h c6] 22)).heap.size = w13.heap.size + 1 := by simp
          clear hbL HF13
          go_wp2_with fail
          generalize w13.alloc (.cells #[.slice A6 h c6] 22) = wL at *
          refine (FTurn_any _ q [] k0 0 _ 1 1 [sl.take h] wL HFL.out (by omega) HGL.out (by decide)).mono ?_
          rw [flat1, (trn_ok k0 0 (sl.take h) (by rw [HLA.out]; omega)).1, (trn_ok k0 0 (sl.take h) (by rw [HLA.out]; omega)).2.1, (trn_ok k0 0 (sl.take h) (by rw [HLA.out]; omega)).2.2, HLA.out, Nat.zero_add]
          rintro e w14 ⟨A14, n14, c14, rfl, hl14, ho14, hf14, hg14⟩
          obtain ⟨av, hav⟩ : ∃ av, xz (sl.take h) (sbytes k0 0 h) = av := ⟨_, rfl⟩
          rw [hav] at hl14 ho14
          have hn14 : n14 = h := by rw [← hl14, ← hav]; exact length_xz HLA.out (length_sbytes _ _ _)
          subst hn14
          have HAV := Lib.hid hav
          have HAL := Lib.hid hl14
          have HF14 := Lib.hid hf14
          have htL : T ≤ wL.heap.size := by omega
          have hqL : q < wL.heap.size := by omega
          have HBM := Lib.hid (HBL.out.trans ((Below.refl T wL).grown hg14 htL (by intro x hx; injection hx with hx; omega)))
          have HO14 := Lib.hid ho14
          have hz14 := hg14.size
          have hql14 := hf14.lt
          clear hav hl14 ho14 hf14 hg14 HFL HGL HBL
          have hbM := (Below.refl w14.heap.size w14).alloc (Nat.le_refl _) (.cells #[.slice AB (j - n14) (c6 - n14)] 22)
          have HFM := Lib.hid (HF14.out.below hbM hql14)
          have HGM := Lib.hid (fun w' (hg : (w14.alloc (.cells #[.slice AB (j - n14) (c6 - n14)] 22)).grownBy w' (some q)) => rbb_flow (HSB.out.below HBM.out) (show j - n14 ≤ c6 - n14 by have := HC6.out; omega) htq hql14 hg)
          have HBM2 := Lib.hid (show Below T w13 (w14.alloc (.cells #[.slice AB (j - n14) (c6 - n14)] 22)) from HBM.out.trans (hbM.mono (by omega)))
          have HO14b := Lib.hid (own_later HO14.out hbM)
          have hzM : (w14.alloc (.cells #[.slice AB (j - n14) (c6 - n14)] 22)).heap.size = w14.heap.size + 1 := by simp
          clear hbM HF14 HO14 HBM
          go_wp2_with fail
          generalize w14.alloc (.cells #[.slice AB (j - n14) (c6 - n14)] 22) = wM at *
          refine (FTurn_any _ q [] k0 n14 _ 1 1 [sl.drop n14] wM HFM.out (by omega) HGM.out (by decide)).mono ?_
          rw [flat1, (trn_ok k0 n14 (sl.drop n14) (by rw [HLB.out]; omega)).1, (trn_ok k0 n14 (sl.drop n14) (by rw [HLB.out]; omega)).2.1, (trn_ok k0 n14 (sl.drop n14) (by rw [HLB.out]; omega)).2.2, HLB.out]
          rintro e w15 ⟨A15, n15, c15, rfl, hl15, ho15, hf15, hg15⟩
          obtain ⟨bb, hbb⟩ : ∃ bb, xz (sl.drop n14) (sbytes k0 n14 (j - n14)) = bb := ⟨_, rfl⟩
          rw [hbb] at hl15 ho15
          have hn15 : n15 = j - n14 := by rw [← hl15, ← hbb]; exact length_xz HLB.out (length_sbytes _ _ _)
          have HAB := Lib.hid (show av ++ bb = l by
            rw [← HAV.out, ← hbb]
            have e := two_pieces k0 l sl HSL.out.symm n14 (by rw [HLL.out]; exact hhj)
            rw [HLL.out] at e
            exact e)
          have hn15b : n15 + n14 = j := by omega
          have hn15c : n15 ≤ 2000 := by omega
          have HO15 := Lib.hid ho15
          have HO14c := Lib.hid (HO14b.out.kept hg15 (far_own HO14b.out hqL))
          have hz15 := hg15.size
          have HB15 := Lib.hid (HBM2.out.trans ((Below.refl T wM).grown hg15 (by omega) (by intro x hx; injection hx with hx; omega)))
          have HN15 := Lib.hid hn15
          clear hn15 hbb hl15 ho15 hf15 hg15 HFM HGM HBM2 HO14b hrun1 hrun2
          have hbN := (Below.refl w15.heap.size w15).alloc (Nat.le_refl _) (.cells #[] 5)
          have hON : (w15.alloc (.cells #[] 5)).ownsRow w15.heap.size 5 1 (.slice (some ⟨w15.heap.size, 0, none⟩) 0 0) 0 [] := World.ownsRow_lit w15 #[] 0 (Nat.le_refl _) (by simp) rfl
          have hzN : (w15.alloc (.cells #[] 5)).heap.size = w15.heap.size + 1 := by simp
          have HON := Lib.hid hON
          have HON14 := Lib.hid ((RB.of_own HO14c.out).below hbN)
          have HON15 := Lib.hid ((RB.of_own HO15.out).below hbN)
          have HBN := Lib.hid hbN
          clear hON hbN HO14c HO15
          have HJN := Lib.hid hn15b
          have hn14c : n14 ≤ 2000 := by omega
          clear hn15b hd1 hd2 HN15
          go_wp2_with (at_builtin; refine wl_app TB rfl (.tmp 138) (.tmp 139) rfl (.slice (some ⟨w15.heap.size, 0, none⟩) 0 0) rfl A14 n14 c14 rfl w15.heap.size 0 [] HON.out w15.heap.size (bv av) HON14.out (bv_one _) ?c3 ?c4 ?c5 ?c6)
          case c3 => omega
          case c4 => omega
          case c5 => omega
          case c6 =>
            intro A16 c16 w16 hown16 hg16 hat16
            have HO16 := Lib.hid hown16
            have hz16 := hg16.size
            have HB16 := Lib.hid (HBN.out.grown hg16 (by omega) (own_drop HON.out))
            have HR16 := Lib.hid (HON15.out.below ((Below.refl w15.heap.size _).grown hg16 (by omega) (own_drop HON.out)))
            clear hown16 hg16 hat16 HON HON14 HON15 HBN
            go_wp2_with (at_builtin; refine wl_app TB rfl (.tmp 140) (.tmp 141) rfl (.slice A16 n14 c16) rfl A15 n15 c15 rfl w15.heap.size n14 (bv av) HO16.out w15.heap.size (bv bb) HR16.out (bv_one _) ?d3 ?d4 ?d5 ?d6)
            case d3 => omega
            case d4 => omega
            case d5 => omega
            case d6 =>
              intro A17 c17 w17 hown17 hg17 hat17
              have HR17 := Lib.hid (show RB w17 w17.heap.size A17 (n14 + n15) l by rw [← HAB.out]; refine RB.of_own (base := w15.heap.size) (e := 5) (c := c17) ?_; rw [bv_append]; exact hown17)
              have hz17 := hg17.size
              have HB17 := Lib.hid (HB15.out.trans ((HB16.out.grown hg17 (by omega) (own_drop HO16.out)).mono (by omega)))
              clear hown17 hg17 hat17 HO16 HR16 HB16 HB15
              go_wp2_with fail
              refine (sameBytes_any A17 A1 (n14 + n15) j c17 c1 l l w17 _ _ HR17.out (HR13.out.below HB17.out)).mono ?_
              rw [decide_eq_true (rfl : l = l)]
              rintro e w18 ⟨rfl, rfl⟩
              have HS17 := Lib.hid (HS13.out.below HB17.out)
              have HT17 := Lib.hid (HT13.out.below HB17.out)
              have HKB17 := Lib.hid ((HB17.out.block g hg8).trans HKB13.out)
              have HBz := Lib.hid (HB13.out.trans (HB17.out.mono hw8))
              have htz : T ≤ w17.heap.size := by have := HB17.out.size; omega
              clear HR17 HR13 HS13 HT13 HKB13 HB13 HB17 HSA HSB
              by_cases ok : 0 ≤ z ∧ z < 8 * (j : Int)
              case neg =>
                have OK := Lib.hid ok
                clear ok
                go_wp2_with fail
                all_goals first
                  | (exfalso; have := OK.out; omega)
                  | (go_ret; exact ⟨rfl, HBz.out⟩)
              case pos =>
                obtain ⟨ok1, ok2⟩ := ok
                obtain ⟨y, rfl⟩ : ∃ y : Nat, z = (y : Int) := ⟨z.toNat, by omega⟩
                have e1 : decide ((y : Int) < 0) = false := by rw [decide_eq_false_iff_not]; omega
                have e2 : decide ((y : Int) ≥ 8 * (j : Int)) = false := by rw [decide_eq_false_iff_not]; omega
                have hyj : y < 8 * j := by omega
                clear ok1 ok2 hz1 hz2
                have hbN := (Below.refl w17.heap.size w17).alloc (Nat.le_refl _) (.cells #[] 5)
                have hON : (w17.alloc (.cells #[] 5)).ownsRow w17.heap.size 5 1 (.slice (some ⟨w17.heap.size, 0, none⟩) 0 0) 0 [] := World.ownsRow_lit w17 #[] 0 (Nat.le_refl _) (by simp) rfl
                have hzN : (w17.alloc (.cells #[] 5)).heap.size = w17.heap.size + 1 := by simp
                have HON := Lib.hid hON
                have HSN17 := Lib.hid (HS17.out.below (hbN.mono htz))
                have HBN := Lib.hid hbN
                clear hON hbN
                go_wp2_with (at_builtin; refine wl_app TB rfl (.tmp 156) (.tmp 157) rfl (.slice (some ⟨w17.heap.size, 0, none⟩) 0 0) rfl A6 j c6 rfl w17.heap.size 0 [] HON.out T (bv sl) HSN17.out (bv_one _) ?f3 ?f4 ?f5 ?f6)
                case f3 => omega
                case f4 => omega
                case f5 => omega
                case f6 =>
                  intro A18 c18 w18 hown18 hg18 hat18
                  have hA : ∃ g, A18 = some ⟨g, 0, none⟩ := by
                    rcases hat18 with h | h <;> exact ⟨_, own_some hown18 (h.trans rfl)⟩
                  obtain ⟨g18, rfl⟩ := hA
                  have HO18 := Lib.hid hown18
                  have hz18 := hg18.size
                  have HB18 := Lib.hid (HBN.out.grown hg18 (by omega) (own_drop HON.out))
                  clear hown18 hg18 hat18 HON HBN HSN17
                  obtain ⟨i, hi⟩ : ∃ i, y / 8 = i := ⟨_, rfl⟩
                  obtain ⟨s, hs⟩ : ∃ s, y % 8 = s := ⟨_, rfl⟩
                  have d1 : Int.tdiv (y : Int) 8 = (i : Int) := by rw [Int.tdiv_eq_ediv_of_nonneg (by omega)]; omega
                  have d2 : (y : Int) / 8 = (i : Int) := by omega
                  have m1 : Int.tmod (y : Int) 8 = (s : Int) := by rw [Int.tmod_eq_emod_of_nonneg (by omega)]; omega
                  have m2 : (y : Int) % 8 = (s : Int) := by omega
                  have hij : i < j := by omega
                  have hs8 : s < 8 := by omega
                  have dij : (i : Int) < (j : Int) := by omega
                  have w1 : IntKind.i64.wrap (i : Int) = (i : Int) := by rw [IntKind.wrap_i64]; omega
                  have w2 : IntKind.i64.wrap (s : Int) = (s : Int) := by rw [IntKind.wrap_i64]; omega
                  have i0 : (0 : Int) ≤ (i : Int) := by omega
                  have s0 : (0 : Int) ≤ (s : Int) := by omega
                  have s8 : (s : Int) ≤ 8 := by omega
                  have HPW : ∃ m : UInt8, IntKind.u8.wrap ((2 : Int) ^ s) = (m.toNat : Int) := by
                    refine ⟨UInt8.ofNat (2 ^ s), ?_⟩
                    rw [IntKind.wrap_u8]
                    simp
                  obtain ⟨mk, hmk⟩ := HPW
                  clear hi hs hyj
                  have hfr := HO18.out.frozenAt i
                  have hcr := HO18.out.cellAt i (by omega)
                  rw [bv_at _ _ (by rw [HSN.out]; exact hij)] at hcr
                  go_wp2_with fail
                  go_still_tail 10, (by kernel_rfl)
                  change wpList _ _ _ _ _ (World.drew _)
                  go_wp2_with fail
                  rw [show bits .xor .u8 (bt sl i) (mk.toNat : Int) = ((sl.getD i 0 ^^^ mk).toNat : Int) from by unfold bt; exact bits_u8_xor _ _]
                  have ho19 := (HO18.out.stored i (.int .u8 ((sl.getD i 0 ^^^ mk).toNat : Int))).1
                  rw [bv_store] at ho19
                  obtain ⟨bd, hbd⟩ : ∃ bd, sl.set i (sl.getD i 0 ^^^ mk) = bd := ⟨_, rfl⟩
                  rw [hbd] at ho19
                  have HBD := Lib.hid (show bd.length = j by rw [← hbd, List.length_set, HSN.out])
                  have hg18 : w17.heap.size ≤ g18 := own_drop HO18.out g18 rfl
                  have HO19 := Lib.hid (show (w18.setCell ⟨g18, i, none⟩ (.int .u8 ((sl.getD i 0 ^^^ mk).toNat : Int))).drew.ownsRow w17.heap.size 5 1 (.slice (some ⟨g18, 0, none⟩) j c18) j (bv bd) from ho19)
                  have HB19 := Lib.hid ((HB18.out.setCell (p := ⟨g18, i, none⟩) hg18 (.int .u8 ((sl.getD i 0 ^^^ mk).toNat : Int))).drew)
                  have hz19 : (w18.setCell ⟨g18, i, none⟩ (.int .u8 ((sl.getD i 0 ^^^ mk).toNat : Int))).drew.heap.size = w18.heap.size := by simp
                  clear ho19 hbd hfr hcr HB18 HO18 d1 d2 m1 m2 w1 w2
                  generalize (w18.setCell ⟨g18, i, none⟩ (.int .u8 ((sl.getD i 0 ^^^ mk).toNat : Int))).drew = w19 at *
                  have htd : T ≤ w19.heap.size := by have := HB19.out.size; omega
                  have hwl : w17.heap.size ≤ w19.heap.size := HB19.out.size
                  clear hz19 hz18
                  have hbW := ((Below.refl w19.heap.size w19).alloc (Nat.le_refl _) (.cells #[.slice (some ⟨g18, 0, none⟩) j c18] 22)).drew
                  have HTW := Lib.hid ((HT17.out.below (HB19.out.mono htz)).below (hbW.mono htd))
                  have HKBW := Lib.hid ((hbW.block g (by omega)).trans ((HB19.out.block g (by omega)).trans HKB17.out))
                  have HRW := Lib.hid ((RB.of_own HO19.out).below hbW)
                  have HBW := Lib.hid (HB19.out.trans (hbW.mono hwl))
                  have HRLW := Lib.hid ((RBB.oneD (RB.of_own HO19.out) (own_cap HO19.out) (Nat.le_refl _) 22).below (w' := (w19.alloc (.cells #[.slice (some ⟨g18, 0, none⟩) j c18] 22)).drew) ((Below.refl _ _).drew))
                  have hzW : (w19.alloc (.cells #[.slice (some ⟨g18, 0, none⟩) j c18] 22)).drew.heap.size = w19.heap.size + 1 := by simp
                  have HCHK := Lib.hid (MacCheck_any (some ⟨g, 32, none⟩) 32 32 k1 (some ⟨g8, 0, none⟩) 16 16 tg _ 1 1 [bd] _ (g + 1) _ T (HKEYS.out _ HKBW.out).2 (by omega) (by decide) (by decide) HTW.out (by omega) HRLW.out (by omega) (by rw [flat1, HBD.out]; omega) (by decide))
                  rw [flat1] at HCHK
                  have HZW := Lib.hid hzW
                  have hwW := HBW.out.size
                  have htW : T ≤ (w19.alloc (.cells #[.slice (some ⟨g18, 0, none⟩) j c18] 22)).drew.heap.size := by omega
                  have HTWL := Lib.hid (show w19.heap.size ≤ (w19.alloc (.cells #[.slice (some ⟨g18, 0, none⟩) j c18] 22)).drew.heap.size by omega)
                  have HGW := Lib.hid (show g < (w19.alloc (.cells #[.slice (some ⟨g18, 0, none⟩) j c18] 22)).drew.heap.size by omega)
                  have HWW := Lib.hid hwW
                  clear hbW HTW hzW hwW htW
                  go_region_held3 (fun w' => True) (trivial) (first
                    | (go_at_call 6; refine HCHK.out.mono ?_; rintro e wA ⟨rfl, hbA⟩; have HBA := Lib.hid (HBW.out.trans (hbA.mono HWW.out)); have HRA := Lib.hid (HRW.out.below (hbA.mono HTWL.out)); have HKBA := Lib.hid ((hbA.block g HGW.out).trans HKBW.out); have HGA := Lib.hid (Nat.lt_of_lt_of_le HGW.out hbA.size); have HTA := Lib.hid (Nat.le_trans HTWL.out hbA.size); have HWA := Lib.hid (Nat.le_trans HWW.out hbA.size); clear hbA)
                    | (go_at_call 15; refine (RefShort_any (some ⟨g, 32, none⟩) 32 32 k1 (some ⟨g18, 0, none⟩) j c18 bd wA (g + 1) _ (HKEYS.out wA HKBA.out).2 HGA.out (by decide) HRA.out HTA.out (by omega)).mono ?_; rintro e wB ⟨gS, cS, rfl, hoS, hbS⟩; have HBB := Lib.hid (HBA.out.trans (hbS.mono HWA.out)); have HRS := Lib.hid (RB.of_own hoS); have HTB := Lib.hid (HT17.out.below (HBB.out.mono htz)); clear hoS hbS)
                    | (go_at_call 14; refine (sameBytes_any (some ⟨gS, 0, none⟩) (some ⟨g8, 0, none⟩) 16 16 cS 16 ((tagB k1 bd).take 16) tg wB _ _ HRS.out HTB.out).mono ?_; rintro e wC ⟨rfl, rfl⟩))
                  all_goals go_wp2_with fail
                  all_goals (go_ret; exact ⟨rfl, HBz.out.trans (HBB.out.mono HBz.out.size)⟩)
        · exact absurd rfl hne
end Go.Proofs.Ytkaakgabhhkggaa
