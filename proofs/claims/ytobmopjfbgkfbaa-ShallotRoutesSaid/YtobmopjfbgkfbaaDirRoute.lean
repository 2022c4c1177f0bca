/-
  Contract of dir.Route: for each stop the node with its name, with the stop's delay and flags, in new memory, or an error. Conditions: the fields fit their types; the sizes that slices can have.
-/
import Derived.Test.YtobmopjfbgkfbaaDirWords
namespace Go.Proofs.Ytobmopjfbgkfbaa
open Go Go.RowKit Go.Sh

/-- a stop: name, delay, flags -/
structure Sp where
  nm : ByteArray
  dl : Int
  fl : Int
def Sp.cells (s : Sp) : List Value := [.string s.nm, .int .i64 s.dl, .int .i64 s.fl]
structure Sp.OK (s : Sp) : Prop where
  dl : -9223372036854775808 ≤ s.dl ∧ s.dl ≤ 9223372036854775807
  fl : -9223372036854775808 ≤ s.fl ∧ s.fl ≤ 9223372036854775807
def sat (ss : List Sp) (k : Nat) : Sp := ss.getD k ⟨⟨#[]⟩, 0, 0⟩
theorem sat_eq {ss : List Sp} {k : Nat} (h : k < ss.length) : ss[k]? = some (sat ss k) := by
  unfold sat
  rw [List.getD_eq_getElem?_getD, List.getElem?_eq_getElem h, Option.getD_some]
theorem sat_mem {ss : List Sp} {k : Nat} (h : k < ss.length) : sat ss k ∈ ss := List.mem_of_getElem? (sat_eq h)
theorem stop_at {w : World} {B n : Nat} {A : Option Addr} {ss : List Sp} (h : RR w B 3 A n (ss.map Sp.cells)) {k : Nat} (hk : k < n) :
    ∃ b off, A = some ⟨b, off, none⟩ ∧ b < B ∧ w.cell? ⟨b, off + k * 3, none⟩ = some (.string (sat ss k).nm) ∧ w.cell? ⟨b, off + k * 3 + 1, none⟩ = some (.int .i64 (sat ss k).dl) ∧ w.cell? ⟨b, off + k * 3 + 2, none⟩ = some (.int .i64 (sat ss k).fl) := by
  have hl : ss.length = n := by rw [← h.len, List.length_map]
  obtain ⟨b, off, cs, rfl, hb, hcs, _, hr⟩ := h.at_ hk
  have e : cs = (sat ss k).cells := by
    rw [List.getElem?_map, sat_eq (by omega)] at hcs
    exact (Option.some.inj hcs).symm
  subst e
  exact ⟨b, off, rfl, hb, hr 0 _ rfl, hr 1 _ rfl, hr 2 _ rfl⟩
def spIn (s : Sp) : Prop := (0 ≤ s.dl ∧ s.dl ≤ 1000000) ∧ (0 ≤ s.fl ∧ s.fl ≤ 255)
/-- hop h is stop s at the node with its name -/
def Met (ns : List Hp) (s : Sp) (h : Hp) : Prop :=
  ∃ k, k < ns.length ∧ (hat ns k).nm.toList = s.nm.toList ∧ h = ⟨(hat ns k).nm, (hat ns k).id, (hat ns k).ks, s.dl, s.fl⟩
theorem Met.ok {ns : List Hp} {s : Sp} {h : Hp} (m : Met ns s h) (hok : ∀ h ∈ ns, h.OK) (hs : spIn s) : h.OK := by
  obtain ⟨k, hk, _, rfl⟩ := m
  have ok := hok _ (hat_mem hk)
  obtain ⟨h1, h2⟩ := hs
  exact ⟨ok.id, ok.l, ok.o, by show -9223372036854775808 ≤ s.dl ∧ s.dl ≤ 9223372036854775807; omega, by show -9223372036854775808 ≤ s.fl ∧ s.fl ≤ 9223372036854775807; omega⟩
/-- the hops found, then noughts -/
def hopTo (n : Nat) (hs : List Hp) : List Value := ((hs ++ List.replicate (n - hs.length) zHop).map Hp.cells).flatten
theorem hops_sizes {hs : List Hp} (hok : ∀ h ∈ hs, h.OK) : ∀ cs ∈ hs.map Hp.cells, cs.length = 68 := by
  intro cs hcs
  obtain ⟨h, hh, rfl⟩ := List.mem_map.1 hcs
  exact (hok h hh).size
theorem length_hops {hs : List Hp} (hok : ∀ h ∈ hs, h.OK) : ((hs.map Hp.cells).flatten).length = hs.length * 68 := by
  rw [flat_len (hops_sizes hok), List.length_map]
theorem hopTo_put {n : Nat} {hs : List Hp} (hok : ∀ h ∈ hs, h.OK) (h : Hp) (hl : hs.length < n) : (hopTo n hs).take (hs.length * 68) ++ (h.cells ++ (hopTo n hs).drop (hs.length * 68 + 68)) = hopTo n (hs ++ [h]) := by
  obtain ⟨m, hm⟩ : ∃ m, n - hs.length = m + 1 := ⟨n - hs.length - 1, by omega⟩
  have hm2 : n - (hs ++ [h]).length = m := by rw [List.length_append, List.length_singleton]; omega
  have hF := length_hops hok
  have hz := zHop_ok.size
  unfold hopTo
  rw [hm, hm2, List.replicate_succ]
  simp only [List.map_append, List.map_cons, List.map_nil, List.flatten_append, List.flatten_cons, List.flatten_nil, List.append_nil]
  rw [List.take_left' hF, ← List.drop_drop, List.drop_left' hF, List.drop_left' hz]
  simp
theorem length_hopTo {n : Nat} {hs : List Hp} (hok : ∀ h ∈ hs, h.OK) (hl : hs.length ≤ n) : (hopTo n hs).length = n * 68 := by
  have h := length_hops (hs := hs ++ List.replicate (n - hs.length) zHop) (fun h hh => by
    rcases List.mem_append.1 hh with h1 | h1
    · exact hok h h1
    · rw [List.eq_of_mem_replicate h1]; exact zHop_ok)
  unfold hopTo
  rw [h, List.length_append, List.length_replicate, show hs.length + (n - hs.length) = n by omega]
theorem made_hops (n : Nat) : (madeCells zHop.cells.toArray (n * 68)).toList = hopTo n [] := by
  have hok : ∀ h ∈ List.replicate n zHop, h.OK := fun h hh => by rw [List.eq_of_mem_replicate hh]; exact zHop_ok
  have e0 : hopTo n [] = ((List.replicate n zHop).map Hp.cells).flatten := by simp [hopTo]
  rw [e0]
  apply List.ext_getElem?
  intro j
  by_cases hj : j < n * 68
  · obtain ⟨v, hv⟩ : ∃ v, zHop.cells[j % 68]? = some v := ⟨_, List.getElem?_eq_getElem (by rw [zHop_ok.size]; omega)⟩
    have e1 := flat_at (hops_sizes hok) (j / 68) zHop.cells (by rw [List.getElem?_map, List.getElem?_replicate, if_pos (by omega)]; rfl) (j % 68) v hv
    rw [show j / 68 * 68 + j % 68 = j by omega] at e1
    rw [e1]
    have hs : zHop.cells.toArray.size = 68 := by rw [List.size_toArray, zHop_ok.size]
    simp only [madeCells, hs, Array.toList_map, Array.toList_range, List.getElem?_map, List.getElem?_range hj, Option.map_some]
    rw [Array.getElem!_eq_getD, Array.getD_eq_getD_getElem?, List.getElem?_toArray, hv]
    rfl
  · rw [List.getElem?_eq_none (by rw [Array.length_toList, size_madeCells]; omega), List.getElem?_eq_none (by rw [length_hops hok, List.length_replicate]; omega)]
theorem hat_append {hs : List Hp} {h : Hp} {i : Nat} (hi : i < hs.length) : hat (hs ++ [h]) i = hat hs i := by
  unfold hat
  rw [List.getD_eq_getElem?_getD, List.getD_eq_getElem?_getD, List.getElem?_append_left hi]
theorem hat_last (hs : List Hp) (h : Hp) : hat (hs ++ [h]) hs.length = h := by
  unfold hat
  rw [List.getD_eq_getElem?_getD, List.getElem?_append_right (Nat.le_refl _), Nat.sub_self]
  rfl
/-- what Route hands back -/
def RoutePost (w : World) (ns : List Hp) (ss : List Sp) (e : Ending) (w' : World) : Prop :=
  Below w.heap.size w w' ∧ ((∃ er : Int, er ≠ 0 ∧ e = .returned (.tuple #[.slice none 0 0, .int .i64 er])) ∨
    ((1 ≤ ss.length ∧ ss.length ≤ 5) ∧ chkN ns = 0 ∧ (∀ i, i < ss.length → spIn (sat ss i)) ∧ ∃ g hs, hs.length = ss.length ∧ (∀ i, i < ss.length → Met ns (sat ss i) (hat hs i)) ∧ (∀ h ∈ hs, h.OK) ∧
      RR w' w'.heap.size 68 (some ⟨g, 0, none⟩) ss.length (hs.map Hp.cells) ∧ e = .returned (.tuple #[.slice (some ⟨g, 0, none⟩) ss.length ss.length, .int .i64 0])))

set_option maxRecDepth 100000 in
set_option maxHeartbeats 8000000 in
theorem Route_any (A : Option Addr) (n c : Nat) (ns : List Hp) (A' : Option Addr) (m c' : Nat) (ss : List Sp) (w : World) (B : Nat) (hr : RR w B 66 A n (ns.map Hp.node)) (hok : ∀ h ∈ ns, h.OK) (hs : RR w B 3 A' m (ss.map Sp.cells)) (hsk : ∀ s ∈ ss, s.OK) (hB : B ≤ w.heap.size) (hn : n ≤ 140737488355328) (hm : m ≤ 140737488355328) :
    Calls Try.prog 47 #[.slice A n c, .slice A' m c'] w (RoutePost w ns ss) := by
  have HL := Lib.hid (show ns.length = n by rw [← hr.len, List.length_map])
  have HSL := Lib.hid (show ss.length = m by rw [← hs.len, List.length_map])
  have HR := Lib.hid hr
  have HOK := Lib.hid hok
  have HS := Lib.hid hs
  have HSK := Lib.hid hsk
  unfold RoutePost
  rw [HSL.out]
  clear hr hok hs hsk
  go_enter Try.func47, Try.ntmps47
  go_wp2_with fail
  go_loopw [7, 16] (fun _ i wr => ∃ k : Nat, k ≤ m ∧ i = .int .i64 (k : Int) ∧ Below w.heap.size w wr ∧ ∀ j, j < k → spIn (sat ss j)) (fun _ i _ => m - (intOf i).toNat)
  case atStart => exact ⟨0, by omega, rfl, Below.refl _ _, fun j hj => absurd hj (by omega)⟩
  case round =>
    obtain ⟨k, hk, rfl, hb, hall⟩ := hrel
    have HA := Lib.hid hall
    have HB := Lib.hid hb
    have hsz := hb.size
    clear hall hb
    by_cases hlt : k < m
    · obtain ⟨b, off, rfl, hbB, c0, c1, c2⟩ := stop_at (HS.out.below (HB.out.mono hB)) hlt
      have hok := HSK.out _ (sat_mem (ss := ss) (k := k) (by rw [HSL.out]; exact hlt))
      have HI := Lib.hid (show spIn (sat ss k) ↔ ((0 ≤ (sat ss k).dl ∧ (sat ss k).dl ≤ 1000000) ∧ (0 ≤ (sat ss k).fl ∧ (sat ss k).fl ≤ 255)) from Iff.rfl)
      have b1 := hok.dl
      have b2 := hok.fl
      clear hok
      generalize (sat ss k).nm = nm at *
      generalize (sat ss k).dl = dl at *
      generalize (sat ss k).fl = fl at *
      have hnb := heap_alloc_new wr (.cells #[.string nm, .int .i64 dl, .int .i64 fl] 104)
      have k1 : (wr.alloc (.cells #[.string nm, .int .i64 dl, .int .i64 fl] 104)).cell? ⟨wr.heap.size, 1, none⟩ = some (.int .i64 dl) := by rw [blk_cell hnb]; rfl
      have k2 : (wr.alloc (.cells #[.string nm, .int .i64 dl, .int .i64 fl] 104)).cell? ⟨wr.heap.size, 2, none⟩ = some (.int .i64 fl) := by rw [blk_cell hnb]; rfl
      have HB2 := Lib.hid (HB.out.alloc hsz (.cells #[.string nm, .int .i64 dl, .int .i64 fl] 104))
      clear hnb
      by_cases d1 : dl < 0
      · go_wp2_with fail
        go_ret2
        exact ⟨HB2.out, .inl ⟨1, by decide, rfl⟩⟩
      · by_cases d2 : 1000000 < dl
        · go_wp2_with fail
          go_ret2
          exact ⟨HB2.out, .inl ⟨1, by decide, rfl⟩⟩
        · by_cases d3 : fl < 0
          · go_wp2_with fail
            go_ret2
            exact ⟨HB2.out, .inl ⟨1, by decide, rfl⟩⟩
          · by_cases d4 : 255 < fl
            · go_wp2_with fail
              go_ret2
              exact ⟨HB2.out, .inl ⟨1, by decide, rfl⟩⟩
            · have HN := Lib.hid (show ∀ j, j < k + 1 → spIn (sat ss j) from fun j hj => by
                by_cases hjk : j < k
                · exact HA.out j hjk
                · obtain rfl : j = k := by omega
                  exact HI.out.2 (by omega))
              go_wp2_with fail
              exact ⟨⟨k + 1, by omega, by go_num, HB2.out, HN.out⟩, by simp [intOf]; omega⟩
    · obtain rfl : k = m := by omega
      by_cases h1 : k < 1
      · go_wp2_with fail
        go_ret2
        exact ⟨HB.out, .inl ⟨2, by decide, rfl⟩⟩
      by_cases h5 : 5 < k
      · have i5 : (5 : Int) < (k : Int) := by omega
        have i1 : ¬ (k : Int) < 1 := by omega
        go_wp2_with fail
        go_ret2
        exact ⟨HB.out, .inl ⟨2, by decide, rfl⟩⟩
      have i5 : ¬ (5 : Int) < (k : Int) := by omega
      have i1 : ¬ (k : Int) < 1 := by omega
      go_wp2_with fail
      refine (DirCheck_any A n c ns wr B (HR.out.below (HB.out.mono hB)) HOK.out hn).mono ?_
      rintro e w2 ⟨rfl, md, rfl⟩
      have HB2 := Lib.hid (below_drewN HB.out md)
      have hsz2 : w.heap.size ≤ (wr.drewN md).heap.size := hsz
      clear HB
      generalize wr.drewN md = w2 at *
      by_cases hck : chkN ns = 0
      · rw [hck]
        have HCK := Lib.hid hck
        clear hck
        have hzero : ∀ w : World, (zeroValue 108).run Try.prog w = .ok (.agg zHop.cells.toArray) w := fun _ => by kernel_rfl
        go_wp2_with (at_make; refine wl_make TDH rfl (.tmp 53) (.tmp 53) rfl .i64 .i64 _ _ rfl rfl k ?_ ?_ ?_ ?_ w.heap.size ?_ ?_)
        · rfl
        · rfl
        · omega
        · omega
        · omega
        intro w3 hown hg _
        have hown' : w3.ownsRow w.heap.size 108 68 (.slice (some ⟨w2.heap.size, 0, none⟩) k k) k (madeCells zHop.cells.toArray (k * 68)).toList := hown
        rw [made_hops k] at hown'
        have HO := Lib.hid (own_whole hown')
        have HB3 := Lib.hid (HB2.out.grown hg hsz2 (by simp))
        have hz3 := hg.size
        have hg9 : w2.heap.size < w3.heap.size := (Array.getElem?_eq_some_iff.1 (own_whole hown')).1
        clear hown hown' hg hzero
        generalize w2.heap.size = g9 at *
        go_wp2_with fail
        go_loopw [10, 11, 12, 13, 57] (fun _ _ _ _ i wr => ∃ hs : List Hp, hs.length ≤ k ∧ i = .int .i64 (hs.length : Int) ∧ wr.heap[g9]? = some (.cells (hopTo k hs).toArray 108 (0, 0)) ∧ (∀ i, i < hs.length → Met ns (sat ss i) (hat hs i)) ∧ (∀ h ∈ hs, h.OK) ∧ Below w.heap.size w wr) (fun _ _ _ _ i _ => k - (intOf i).toNat)
        case atStart => exact ⟨[], Nat.zero_le _, rfl, HO.out, fun i hi => absurd hi (by simp), fun h hh => by simp at hh, HB3.out⟩
        case round =>
          obtain ⟨hs, hq, rfl, hblk, hmet, hhok, hb⟩ := hrel
          have HBL := Lib.hid hblk
          have HMT := Lib.hid hmet
          have HHK := Lib.hid hhok
          have HBr := Lib.hid hb
          have hgl : g9 < wr.heap.size := (Array.getElem?_eq_some_iff.1 hblk).1
          have hszr := hb.size
          clear hblk hmet hhok hb HO HB3
          obtain ⟨q, hqq⟩ : ∃ q, hs.length = q := ⟨_, rfl⟩
          have HQ := Lib.hid hqq
          rw [hqq] at hq ⊢
          clear hqq
          by_cases hlt : q < k
          · obtain ⟨b, off, rfl, hbB, c0, c1, c2⟩ := stop_at (HS.out.below (HBr.out.mono hB)) hlt
            have HIN := Lib.hid (HA.out q hlt)
            have HMET := Lib.hid (show ∀ h, Met ns (sat ss q) h ↔ ∃ k, k < ns.length ∧ (hat ns k).nm.toList = (sat ss q).nm.toList ∧ h = ⟨(hat ns k).nm, (hat ns k).id, (hat ns k).ks, (sat ss q).dl, (sat ss q).fl⟩ from fun h => Iff.rfl)
            obtain ⟨sp, hsp⟩ : ∃ sp, sat ss q = sp := ⟨_, rfl⟩
            rw [hsp] at c0 c1 c2 HIN HMET
            have HSP := Lib.hid hsp
            clear hsp
            generalize sp.nm = nm at *
            generalize hdl : sp.dl = dl at *
            generalize hfl : sp.fl = fl at *
            have HDL := Lib.hid hdl
            have HFL := Lib.hid hfl
            clear hdl hfl
            have hnb := heap_alloc_new wr (.cells #[.string nm, .int .i64 dl, .int .i64 fl] 104)
            have k0 : (wr.alloc (.cells #[.string nm, .int .i64 dl, .int .i64 fl] 104)).cell? ⟨wr.heap.size, 0, none⟩ = some (.string nm) := by rw [blk_cell hnb]; rfl
            have k1 : (wr.alloc (.cells #[.string nm, .int .i64 dl, .int .i64 fl] 104)).cell? ⟨wr.heap.size, 1, none⟩ = some (.int .i64 dl) := by rw [blk_cell hnb]; rfl
            have k2 : (wr.alloc (.cells #[.string nm, .int .i64 dl, .int .i64 fl] 104)).cell? ⟨wr.heap.size, 2, none⟩ = some (.int .i64 fl) := by rw [blk_cell hnb]; rfl
            have hba := (Below.refl wr.heap.size wr).alloc (Nat.le_refl _) (.cells #[.string nm, .int .i64 dl, .int .i64 fl] 104)
            have HBA := Lib.hid (HBr.out.trans (hba.mono hszr))
            have HGA := Lib.hid ((hba.block g9 hgl).trans HBL.out)
            have hza : (wr.alloc (.cells #[.string nm, .int .i64 dl, .int .i64 fl] 104)).heap.size = wr.heap.size + 1 := by simp
            clear hnb hba
            go_wp2_with fail
            clear k0 c0 c1 c2
            generalize wr.alloc (.cells #[.string nm, .int .i64 dl, .int .i64 fl] 104) = wa at *
            generalize wr.heap.size = ga at *
            refine (named_any A n c ns nm wa B (HR.out.below (HBA.out.mono hB)) HOK.out (by omega) hn).mono ?_
            rintro e w5 ⟨hb5, hres⟩
            have HB5 := Lib.hid (HBA.out.trans (hb5.mono (by omega)))
            have HG5 := Lib.hid ((hb5.block g9 (by omega)).trans HGA.out)
            have k1' := (hb5.cell (p := ⟨ga, 1, none⟩) (by show ga < _; omega)).trans k1
            have k2' := (hb5.cell (p := ⟨ga, 2, none⟩) (by show ga < _; omega)).trans k2
            have hz5 := hb5.size
            have hzero := zero_node
            have hst5 := fun (h : Hp) (ok : h.OK) => (show (storeCells ⟨w5.heap.size, 0, none⟩ h.node.toArray.toList).run Try.prog (w5.alloc (.cells zHop.node.toArray 106)) = .ok () (w5.alloc (.cells h.node.toArray 106)) from run_cells_new w5 _ _ _ (by rw [List.size_toArray, List.size_toArray, Hp.node_len ok, Hp.node_len zHop_ok]) (by simpa using Hp.node_one ok))
            have hzs : zHop.node.toArray.size = 66 := by rw [List.size_toArray, Hp.node_len zHop_ok]
            obtain ⟨zc, hzc⟩ : ∃ zc, zHop.node.toArray = zc := ⟨_, rfl⟩
            clear hb5 k1 k2 HBA HGA
            rcases hres with ⟨kk, hkk, hnm, _, rfl⟩ | ⟨_, rfl⟩
            · have hnk := HOK.out _ (hat_mem hkk)
              have hst := hst5 _ hnk
              have hxs : (hat ns kk).node.toArray.size = 66 := by rw [List.size_toArray, Hp.node_len hnk]
              obtain ⟨h1, hh1⟩ : ∃ h1 : Hp, h1 = ⟨(hat ns kk).nm, (hat ns kk).id, (hat ns kk).ks, dl, fl⟩ := ⟨_, rfl⟩
              have hmet1 : Met ns sp h1 := (HMET.out h1).2 ⟨kk, hkk, hnm, hh1⟩
              have hok1 : h1.OK := hmet1.ok HOK.out HIN.out
              have HBH := Lib.hid (show Try.prog.built 108 [(0, .agg (hat ns kk).node.toArray), (1, .int .i64 dl), (2, .int .i64 fl)] = some h1.cells.toArray from by rw [hh1]; exact hop_built ⟨(hat ns kk).nm, (hat ns kk).id, (hat ns kk).ks, dl, fl⟩ (by rw [← hh1]; exact hok1))
              have HRN := Lib.hid (blk_range (heap_alloc_new w5 (.cells (hat ns kk).node.toArray 106)))
              have HI := Lib.hid (show (Try.prog.info? 106).map (·.size) = some (hat ns kk).node.length by rw [Hp.node_len hnk]; exact info_dnode)
              obtain ⟨na, hna⟩ : ∃ na, (hat ns kk).node.toArray = na := ⟨_, rfl⟩
              have HNA := Lib.hid hna
              have hst' : (storeCells ⟨w5.heap.size, 0, none⟩ na.toList).run Try.prog (w5.alloc (.cells zc 106)) = .ok () (w5.alloc (.cells na 106)) := by rw [← hna, ← hzc]; exact hst
              rw [hna] at HBH HRN hxs ⊢
              rw [hzc] at hzero hzs
              have hze : ¬ zc = #[] := by intro h; rw [h] at hzs; cases hzs
              have hne : ¬ na = #[] := by intro h; rw [h] at hxs; cases hxs
              have hb6 := (Below.refl w5.heap.size w5).alloc (Nat.le_refl _) (.cells na 106)
              have HB6 := Lib.hid (HB5.out.trans (hb6.mono (by omega)))
              have HG6 := Lib.hid ((hb6.block g9 (by omega)).trans HG5.out)
              have k1 := (hb6.cell (p := ⟨ga, 1, none⟩) (by show ga < _; omega)).trans k1'
              have k2 := (hb6.cell (p := ⟨ga, 2, none⟩) (by show ga < _; omega)).trans k2'
              have HMM := Lib.hid hmet1
              have HO1 := Lib.hid hok1
              have hcs1 : h1.cells.toArray.size = 68 := by rw [List.size_toArray, hok1.size]
              have HONE := Lib.hid hok1.one
              have HPUT := Lib.hid (hopTo_put (n := k) HHK.out h1 (by rw [HQ.out]; exact hlt))
              have HLEN := Lib.hid (length_hopTo (n := k) HHK.out (by rw [HQ.out]; omega))
              obtain ⟨ca, hca⟩ : ∃ ca, h1.cells.toArray = ca := ⟨_, rfl⟩
              have HCA := Lib.hid hca
              rw [hca] at HBH hcs1
              clear hst hna hca hb6 hst5 k1' k2' hmet1 hok1 hnk hh1 hzc
              go_wp2_with (first | (refine wl_load_mid (by rfl) 106 (.tmp 12) rfl w5.heap.size 0 rfl (hat ns kk).node _ HRN.out Try.underlying106 rfl HI.out ?_; rw [HNA.out]) | (refine wl_lit (by rfl) 108 [(0, .tmp 74), (1, .tmp 76), (2, .tmp 78)] rfl [(0, .agg na), (1, .int .i64 dl), (2, .int .i64 fl)] rfl ca HBH.out ?_) | (refine wl_store_blk rfl 108 (.tmp 80) (.tmp 79) rfl g9 (q * 68) ca rfl rfl (hopTo k hs).toArray 108 HG6.out (by rw [hcs1, List.size_toArray, HLEN.out]; omega) (by rw [hcs1]; kernel_rfl) (by rw [← HCA.out]; exact HONE.out) ?_))
              have HPP := Lib.hid (show (hopTo k hs).take (q * 68) ++ (ca.toList ++ (hopTo k hs).drop (q * 68 + 68)) = hopTo k (hs ++ [h1]) by
                have h := HPUT.out
                rw [HQ.out] at h
                rw [← h, ← HCA.out])
              rw [HPP.out]
              have hlen1 : (hs ++ [h1]).length = q + 1 := by rw [List.length_append, HQ.out]; rfl
              refine ⟨⟨hs ++ [h1], by omega, by rw [hlen1]; go_num, setRow_heap _ _ _ _ _ _ HG6.out, fun i hi => ?_, fun h hh => ?_, below_setRow HB6.out (by omega) _⟩, by simp [intOf]; omega⟩
              · by_cases hiq : i < q
                · rw [hat_append (by rw [HQ.out]; exact hiq)]
                  exact HMT.out i (by rw [HQ.out]; exact hiq)
                · obtain rfl : i = q := by omega
                  have e := hat_last hs h1
                  rw [HQ.out] at e
                  rw [e, HSP.out]
                  exact HMM.out
              · rcases List.mem_append.1 hh with h | h
                · exact HHK.out _ h
                · rw [List.mem_singleton.1 h]
                  exact HO1.out
            · have hst := hst5 _ zHop_ok
              have hst' : (storeCells ⟨w5.heap.size, 0, none⟩ zc.toList).run Try.prog (w5.alloc (.cells zc 106)) = .ok () (w5.alloc (.cells zc 106)) := by rw [← hzc]; exact hst
              rw [hzc] at hzero hzs ⊢
              have hze : ¬ zc = #[] := by intro h; rw [h] at hzs; cases hzs
              have HB6 := Lib.hid (HB5.out.alloc (by omega) (.cells zc 106))
              clear hst hst5 k1' k2' hzc
              go_wp2_with fail
              go_ret2
              exact ⟨HB6.out, .inl ⟨4, by decide, rfl⟩⟩
          · obtain rfl : q = k := by omega
            have HF := Lib.hid (show hopTo q hs = (hs.map Hp.cells).flatten by unfold hopTo; rw [HQ.out, Nat.sub_self]; simp)
            go_wp2_with fail
            go_ret2
            refine ⟨HBr.out, .inr ⟨⟨by omega, by omega⟩, HCK.out, HA.out, g9, hs, HQ.out, by rw [← HQ.out]; exact HMT.out, HHK.out, ?_, rfl⟩⟩
            refine ⟨by rw [List.length_map, HQ.out], hops_sizes HHK.out, .inr ⟨g9, 0, rfl, hgl, fun i cs hc j v hv => ?_⟩⟩
            rw [blk_cell HBL.out, HF.out, List.getElem?_toArray, Nat.zero_add]
            exact flat_at (hops_sizes HHK.out) i cs hc j v hv
      · have hck' : (chkN ns != 0) = true := by rw [bne_iff_ne]; exact hck
        generalize chkN ns = er at *
        go_wp2_with fail
        go_ret2
        exact ⟨HB2.out, .inl ⟨er, hck, rfl⟩⟩
end Go.Proofs.Ytobmopjfbgkfbaa
