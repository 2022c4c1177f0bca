/-
  Contract of mac.Derive. Conditions: the sizes that slices can have.
-/
import Derived.Test.YtkaakgabhhkggaaMac7
import Derived.Lib.SlBytesConst
namespace Go.Proofs.Ytkaakgabhhkggaa
open Go Go.RowKit Go.Sh

/-- '[]byte(s)' of a string that is no constant -/
theorem conv_str (W : World) (s : ByteArray) : ∃ cap w', (convert 9 22 (.string s)).run Try.prog W = .ok (.slice (some ⟨W.heap.size, 0, none⟩) s.size cap) w' ∧ RB w' w'.heap.size (some ⟨W.heap.size, 0, none⟩) s.size s.data.toList ∧ s.size ≤ cap ∧ w'.heap.size = W.heap.size + 1 ∧ Below W.heap.size W w' := by
  refine ⟨_, _, run_bytes_of_string W 9 22 5 s Try.underlying9 Try.underlying22 Try.underlying5, ?_, ?_, ?_, ?_⟩
  · have hl : s.data.toList.length = s.size := by rw [Array.length_toList]; rfl
    refine ⟨by rw [length_bv, hl, Nat.mul_one], .inr ⟨_, rfl, by simp, fun j hj => ?_⟩⟩
    have hj' : j < s.data.size := by rw [length_bv, hl] at hj; exact hj
    have hnew := heap_alloc_new W.drew (.cells (bytesRow s (grownCap W s.size 0 5)) 5 ((bytesRow s (grownCap W s.size 0 5)).size, (bytesRow s (grownCap W s.size 0 5)).size + 1))
    rw [add_mk, Nat.zero_add]
    have hc := blk_cell (i := j) hnew
    rw [show (⟨W.heap.size, j, none⟩ : Addr) = ⟨W.drew.heap.size, j, none⟩ from rfl, hc]
    unfold bytesRow
    rw [Array.getElem?_append_left (by rw [Array.size_map]; exact hj'), Array.getElem?_map, Array.getElem?_eq_getElem hj']
    simp [bv]
    rw [Array.getElem?_eq_getElem hj']
    rfl
  · exact grownCap_ge _ _ _ _
  · simp
  · exact (Below.refl _ _).drew.alloc (Nat.le_refl _) _
theorem rb_litM (w : World) (e : TypeId) (l : List UInt8) (cs : List Value) (h : cs = bv l) (n : Nat) (hn : l.length = n) (fr : Nat × Nat) : RB (w.alloc (.cells cs.toArray e fr)) (w.heap.size + 1) (some ⟨w.heap.size, 0, none⟩) n l := by
  subst h
  refine ⟨by rw [length_bv]; omega, .inr ⟨_, rfl, Nat.lt_succ_self _, fun j hj => ?_⟩⟩
  rw [add_mk, cell_of_row (w.alloc (.cells (bv l).toArray e fr)) w.heap.size (0 + j) (bv l).toArray e fr (heap_alloc_new w _)]
  simp
set_option maxRecDepth 100000 in
theorem TK : STy Try.prog 23 29 (.agg (bv (zs 32)).toArray) 32 32 := ⟨Try.underlying23, by kernel_rfl, rfl, by decide⟩
theorem made_keys (m : Nat) : (madeCells (bv (zs 32)).toArray (m * 32)).toList = bv (zs (m * 32)) := by
  apply List.ext_getElem?
  intro j
  rw [bv_zs, bv_zs]
  by_cases hj : j < m * 32
  · have hs : (List.replicate 32 (Value.int .u8 0)).toArray.size = 32 := by simp
    simp only [madeCells, hs, Array.toList_map, Array.toList_range, List.getElem?_map, List.getElem?_range hj, Option.map_some]
    rw [Array.getElem!_eq_getD, Array.getD_eq_getD_getElem?, List.getElem?_toArray, List.getElem?_replicate, List.getElem?_replicate, if_pos (by omega), if_pos hj]
    rfl
  · rw [List.getElem?_eq_none (by rw [Array.length_toList, size_madeCells]; omega), List.getElem?_eq_none (by rw [List.length_replicate]; omega)]
def shallotB : List UInt8 := [115, 104, 97, 108, 108, 111, 116]
/-- the key of a label -/
def keyOf (secret : List UInt8) (s : ByteArray) : List UInt8 := expB (tagB shallotB secret) s.data.toList
def keysF (secret : List UInt8) (names : List ByteArray) : List UInt8 := (names.map (keyOf secret)).flatten
theorem length_keysF (secret : List UInt8) (names : List ByteArray) : (keysF secret names).length = names.length * 32 := by
  unfold keysF
  induction names with
  | nil => rfl
  | cons s ns ih =>
    rw [List.map_cons, List.flatten_cons, List.length_append, ih]
    unfold keyOf
    rw [length_expB, List.length_cons]
    omega
theorem keysF_succ (secret : List UInt8) (names : List ByteArray) (k : Nat) (s : ByteArray) (h : names[k]? = some s) : keysF secret (names.take (k + 1)) = keysF secret (names.take k) ++ keyOf secret s := by
  unfold keysF
  rw [List.take_add_one, h]
  simp
def allKeys (secret : List UInt8) (names : List ByteArray) (m k : Nat) : List UInt8 := keysF secret (names.take k) ++ zs ((m - k) * 32)
theorem allKeys_put {secret : List UInt8} {names : List ByteArray} {m k : Nat} {s : ByteArray} (hm : names.length = m) (h : names[k]? = some s) :
    (bv (allKeys secret names m k)).take (k * 32) ++ (bv (keyOf secret s) ++ (bv (allKeys secret names m k)).drop (k * 32 + 32)) = bv (allKeys secret names m (k + 1)) := by
  have hk : k < m := by have := (List.getElem?_eq_some_iff.1 h).1; omega
  have hl : (keysF secret (names.take k)).length = k * 32 := by rw [length_keysF, List.length_take]; congr 1; omega
  have e2 : zs ((m - k) * 32) = zs 32 ++ zs ((m - (k + 1)) * 32) := by
    unfold zs
    rw [List.replicate_append_replicate]
    congr 1
    omega
  have e : ∀ a b : List UInt8, bv (a ++ b) = bv a ++ bv b := fun a b => by simp [bv]
  unfold allKeys
  rw [keysF_succ secret names k s h, e2, e, e, e, e, List.take_left' (by rw [length_bv, hl]), ← List.drop_drop, List.drop_left' (by rw [length_bv, hl]), List.drop_left' (by rw [length_bv, length_zs]), List.append_assoc]
theorem whole_own {w : World} {base e size g n : Nat} {xs : List Value} (h : w.ownsRow base e size (.slice (some ⟨g, 0, none⟩) n n) n xs) : w.heap[g]? = some (.cells xs.toArray e (0, 0)) := by
  rcases h.2 with ⟨h, _⟩ | ⟨g', cap, cur, hv, _, hh, _, _, hs, ht⟩
  · cases h
  · injection hv with hv h1 h2
    injection hv with hv
    injection hv with hv
    subst hv h2
    rw [hh, ← ht, List.take_of_length_le (by rw [Array.length_toList, hs]; exact Nat.le_refl _)]
theorem allKeys_0 (secret : List UInt8) (names : List ByteArray) (m : Nat) : allKeys secret names m 0 = zs (m * 32) := by
  unfold allKeys keysF
  simp
theorem allKeys_all (secret : List UInt8) (names : List ByteArray) (m : Nat) (h : names.length = m) : allKeys secret names m m = keysF secret names := by
  unfold allKeys
  rw [List.take_of_length_le (by omega), Nat.sub_self, Nat.zero_mul]
  exact List.append_nil _

set_option maxRecDepth 100000 in
set_option maxHeartbeats 4000000 in
theorem Derive_any (A : Option Addr) (n c : Nat) (secret : List UInt8) (A' : Option Addr) (m c' : Nat) (names : List ByteArray) (w : World) (B B' : Nat) (hk : RB w B A n secret) (hB : B ≤ w.heap.size) (hn : n ≤ 140737488355328) (hc : n ≤ c)
    (hl : Reads w B' 1 A' m (names.map Value.string)) (hB' : B' ≤ w.heap.size) (h1 : 1 ≤ m) (hm : m ≤ 1000) (hsz : ∀ s ∈ names, s.size ≤ 1000) :
    Calls Try.prog 5 #[.slice A n c, .slice A' m c'] w (fun e w' => ∃ g, e = .returned (.slice (some ⟨g, 0, none⟩) m m) ∧ w.heap.size ≤ g ∧ w'.heap[g]? = some (.cells (bv (keysF secret names)).toArray 29 (0, 0)) ∧ Below w.heap.size w w') := by
  have HNL := Lib.hid (show names.length = m by have := hl.1; rw [List.length_map] at this; omega)
  have HK := Lib.hid hk
  have HL := Lib.hid hl
  have HSZ := Lib.hid hsz
  have hm0 : ((m : Int) == 0) = false := by rw [beq_eq_false_iff_ne]; omega
  have hr1 := rb_litM w 5 shallotB [.int .u8 115, .int .u8 104, .int .u8 97, .int .u8 108, .int .u8 108, .int .u8 111, .int .u8 116] rfl 7 rfl (7, 8)
  have hb1 := (Below.refl w.heap.size w).alloc (Nat.le_refl _) (.cells #[.int .u8 115, .int .u8 104, .int .u8 97, .int .u8 108, .int .u8 108, .int .u8 111, .int .u8 116] 5 (7, 8))
  have hz1 : (w.alloc (.cells #[.int .u8 115, .int .u8 104, .int .u8 97, .int .u8 108, .int .u8 108, .int .u8 111, .int .u8 116] 5 (7, 8))).heap.size = w.heap.size + 1 := by simp
  have HR1 := Lib.hid hr1
  have HB1 := Lib.hid hb1
  have HK1 := Lib.hid (hk.below (hb1.mono hB))
  have hcv := fun (W : World) (C : Array Value) (n c : Nat) => Lib.run_convert_bytes_const (P := Try.prog) W 22 5 C n c Try.underlying22 Try.underlying5
  have hz32 := zero32b
  have hz32s : (bv (zs 32)).toArray.size = 32 := rfl
  have HS32 := Lib.hid sto32_new
  have HTK := Lib.hid TK
  have HMD := Lib.hid (made_keys m)
  clear hk hl hsz hr1 hb1
  go_enter Try.func5, Try.ntmps5
  generalize hzd : (bv (zs 32)).toArray = zd at hz32 hz32s HS32
  have hzde : ¬ zd = #[] := by intro h; rw [h] at hz32s; cases hz32s
  have HZD := Lib.hid hzd
  clear hzd
  go_wp2_with fail
  clear hcv
  generalize w.alloc (.cells #[.int .u8 115, .int .u8 104, .int .u8 97, .int .u8 108, .int .u8 108, .int .u8 111, .int .u8 116] 5 (7, 8)) = w1 at *
  refine (Extract_any _ 7 7 shallotB A n c secret w1 _ B HR1.out (by omega) (by decide) (Nat.le_refl _) HK1.out (by omega) hn hc).mono ?_
  rintro e w2 ⟨rfl, hb⟩
  have hz2 := hb.size
  have hn3 := RowB.new w2 29 (tagB shallotB secret)
  have hxs : (bv (tagB shallotB secret)).toArray.size = 32 := by rw [List.size_toArray, length_bv, length_tagB]
  obtain ⟨Z, hZ⟩ : ∃ Z, (bv (tagB shallotB secret)).toArray = Z := ⟨_, rfl⟩
  have hst := HS32.out w2 (tagB shallotB secret) (length_tagB _ _) Z hZ
  rw [hZ] at hn3 hxs ⊢
  have hZe : ¬ Z = #[] := by intro h; rw [h] at hxs; cases hxs
  have hb3 := (Below.refl w2.heap.size w2).alloc (Nat.le_refl _) (.cells Z 29)
  have hz3 : (w2.alloc (.cells Z 29)).heap.size = w2.heap.size + 1 := by simp
  have HB3 := Lib.hid ((HB1.out.trans (hb.mono (by omega))).trans (hb3.mono (by omega)))
  have HR3 := Lib.hid hn3
  have HL3 := Lib.hid (HL.out.below ((HB3.out).mono hB'))
  clear hb hb3 hn3 HB1 HR1 HK1 HK
  clear hZ
  go_wp2_with (at_make; refine wl_make TK rfl (.tmp 19) (.tmp 19) rfl .i64 .i64 _ _ rfl rfl m ?m1 ?m2 ?m3 ?m4 (w2.heap.size + 1) ?m5 ?m6)
  case m1 => rfl
  case m2 => rfl
  case m3 => omega
  case m4 => omega
  case m5 => omega
  case m6 =>
    intro w4 hown hgr _
    have hbk := whole_own hown
    rw [HMD.out, ← allKeys_0 secret names m] at hbk
    clear hown
    generalize w2.alloc (.cells Z 29) = w3 at *
    generalize hg5 : w2.heap.size = g5 at *
    have hg5l : w.heap.size ≤ g5 := by omega
    have hb4 : Below w3.heap.size w3 w4 := (Below.refl _ _).grown hgr (Nat.le_refl _) (by simp)
    have hz4 := hb4.size
    have HB4 := Lib.hid (HB3.out.trans (hb4.mono (by omega)))
    have HR4 := Lib.hid (HR3.out.below hb4 (by omega))
    have HL4 := Lib.hid (HL3.out.below (hb4.mono (by omega)))
    have HBK := Lib.hid hbk
    clear hgr hg5 hst hb4 HB3 HR3 HL3 HL4 hbk
    generalize hgk : g5 + 1 = gk at *
    have hgkl : g5 < gk := by omega
    have hz4b : gk < w4.heap.size := (Array.getElem?_eq_some_iff.1 HBK.out).1
    clear hgk hz3 hz4
    go_wp2_with fail
    go_loopw [7, 8, 9, 10, 23] (fun _ _ _ _ i wr => ∃ k : Nat, k ≤ m ∧ i = .int .i64 k ∧ wr.heap[gk]? = some (.cells (bv (allKeys secret names m k)).toArray 29 (0, 0)) ∧ RowB wr 29 g5 (tagB shallotB secret) ∧ Below w.heap.size w wr ∧ gk < wr.heap.size) (fun _ _ _ _ i _ => m - (intOf i).toNat)
    case atStart => exact ⟨0, Nat.zero_le _, rfl, HBK.out, HR4.out, HB4.out, hz4b⟩
    case round =>
      obtain ⟨k, hk, rfl, hbk, hr, hb, hzr⟩ := hrel
      by_cases hlt : k < m
      · have hd : decide ((k : Int) < (m : Int)) = true := by rw [decide_eq_true_eq]; omega
        have hLr := HL.out.below ((hb).mono hB')
        obtain ⟨ad, u, hA', -, hu, hcell⟩ := hLr.at_ hlt
        subst hA'
        rw [List.getElem?_map] at hu
        obtain ⟨s, hs, rfl⟩ := Option.map_eq_some_iff.1 hu
        have hss := HSZ.out s (List.mem_of_getElem? hs)
        have HKP := Lib.hid (allKeys_put (secret := secret) HNL.out hs)
        obtain ⟨cap, wc, hrun, hrb, hcap, hzc, hbc⟩ := conv_str wr s
        have hzc2 := hbc.size
        have HRc := Lib.hid (hr.below hbc (by omega))
        have hBKc : wc.heap[gk]? = some (.cells (bv (allKeys secret names m k)).toArray 29 (0, 0)) := by rw [hbc.block gk hzr]; exact hbk
        have hb1 := (Below.refl wc.heap.size wc).alloc (Nat.le_refl _) (.cells #[.slice (some ⟨wr.heap.size, 0, none⟩) s.size cap] 22)
        have hr1 := rbb_one hrb hcap (Nat.le_refl _) 22
        have hz1' : (wc.alloc (.cells #[.slice (some ⟨wr.heap.size, 0, none⟩) s.size cap] 22)).heap.size = wc.heap.size + 1 := by simp
        have HB1 := Lib.hid ((hb.trans (hbc.mono (by omega))).trans (hb1.mono (by omega)))
        have HR1 := Lib.hid (HRc.out.below hb1 (by omega))
        have hbk1 : (wc.alloc (.cells #[.slice (some ⟨wr.heap.size, 0, none⟩) s.size cap] 22)).heap[gk]? = some (.cells (bv (allKeys secret names m k)).toArray 29 (0, 0)) := by rw [hb1.block gk (by omega)]; exact hBKc
        have HBK1 := Lib.hid hbk1
        rw [hzc] at hr1
        have HRR := Lib.hid hr1
        clear hbk hr hb hbc hb1 hr1 hbk1 hBKc hLr hrb HRc hu HBK
        go_wp2_with fail
        generalize wc.alloc (.cells #[.slice (some ⟨wr.heap.size, 0, none⟩) s.size cap] 22) = w5 at *
        have hrk := rb_row HR1.out
        rw [length_tagB] at hrk
        refine (Expand_any _ 32 32 (tagB shallotB secret) _ 1 1 [s.data.toList] w5 _ _ hrk (by omega) (by decide) (by decide) HRR.out (by omega) (by simp only [List.flatten_cons, List.flatten_nil, List.append_nil, Array.length_toList]; exact Nat.le_trans hss (by decide)) (by decide)).mono ?_
        rw [show ([s.data.toList] : List (List UInt8)).flatten = s.data.toList by simp]
        clear hrk
        rintro e w6 ⟨A2, rfl, hr6, hf6, hb6⟩
        have hz6 := hb6.size
        have hk6 : w6.heap[gk]? = some (.cells (bv (allKeys secret names m k)).toArray 29 (0, 0)) := by rw [hb6.block gk (by omega)]; exact HBK1.out
        have HB6 := Lib.hid (HB1.out.trans (hb6.mono (by omega)))
        have HR6 := Lib.hid (HR1.out.below hb6 (by omega))
        have HRX := Lib.hid hr6
        have HBK6 := Lib.hid hk6
        clear hf6 hb6 hr6 hk6 HB1 HR1 HBK1 HRR
        have hkl : (bv (allKeys secret names m k)).length = m * 32 := by
          have := length_keysF secret (names.take k)
          unfold allKeys
          rw [length_bv, List.length_append, length_zs, this, List.length_take, HNL.out]
          rw [show min k m = k by omega]
          omega
        go_wp2_with (refine wl_copyBlk TB rfl (.tmp 39) (.tmp 40) rfl gk (k * 32) 32 32 rfl A2 32 32 rfl (bv (allKeys secret names m k)) 29 HBK6.out 32 rfl (by rw [hkl]; omega) w6.heap.size (bv (expB (tagB shallotB secret) s.data.toList)) HRX.out (bv_one _) ?_)
        intro w7 hk7 hgr hz7
        have hkl2 : (bv (expB (tagB shallotB secret) s.data.toList)).length = 32 := by rw [length_bv, length_expB]
        rw [show (bv (expB (tagB shallotB secret) s.data.toList)).take 32 = bv (keyOf secret s) from List.take_of_length_le (by rw [hkl2]; exact Nat.le_refl _)] at hk7
        rw [HKP.out] at hk7
        have HBK7 := Lib.hid hk7
        have HR7 := Lib.hid (HR6.out.grown hgr (by simp; omega))
        have HB7 := Lib.hid (HB6.out.grown hgr (by omega) (fun g hg => by injection hg with hg; omega))
        clear hk7 hgr HBK6 HR6 HB6 HRX hkl hkl2
        go_wp2_with fail
        refine ⟨⟨k + 1, by omega, ?_, HBK7.out, HR7.out, HB7.out, by omega⟩, ?_⟩
        · rfl
        · simp only [intOf]
          omega
      · obtain rfl : k = m := by omega
        have hd : decide ((k : Int) < (k : Int)) = false := by rw [decide_eq_false_iff_not]; omega
        have HBK2 := Lib.hid hbk
        have HB2 := Lib.hid hb
        clear hbk hr hb
        go_wp2_with fail
        go_ret
        exact ⟨gk, rfl, by omega, by rw [← allKeys_all secret names k HNL.out]; exact HBK2.out, HB2.out⟩
end Go.Proofs.Ytkaakgabhhkggaa
