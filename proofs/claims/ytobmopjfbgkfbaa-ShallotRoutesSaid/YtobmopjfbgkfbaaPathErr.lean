/-
  What a path is in plain words, and the contract of command.pathError. Conditions: the fields fit their types; the sizes that slices can have.
-/
import Derived.Test.YtobmopjfbgkfbaaHop
import Derived.Test.YtobmopjfbgkfbaaCmdDec
namespace Go.Proofs.Ytobmopjfbgkfbaa
open Go Go.RowKit Go.Sh

/-- hop k of hs (a plain definition: the walk leaves it standing) -/
def hat (hs : List Hp) (k : Nat) : Hp := hs.getD k ⟨⟨#[]⟩, 0, [], 0, 0⟩
theorem hat_eq {hs : List Hp} {k : Nat} (h : k < hs.length) : hs[k]? = some (hat hs k) := by
  unfold hat
  rw [List.getD_eq_getElem?_getD, List.getElem?_eq_getElem h, Option.getD_some]
theorem hat_mem {hs : List Hp} {k : Nat} (h : k < hs.length) : hat hs k ∈ hs := List.mem_of_getElem? (hat_eq h)
/-- a hop with a delay or flags out of range -/
def badHop (h : Hp) : Bool := decide (h.dl < 0) || decide (1000000 < h.dl) || decide (h.fl < 0) || decide (255 < h.fl)
def anyBad (hs : List Hp) : Bool := (List.range hs.length).any fun i => badHop (hat hs i)
/-- a hop behind the first that has no number -/
def noId (hs : List Hp) : Bool := (List.range hs.length).any fun i => decide (0 < i) && decide ((hat hs i).id = 0)
def pthE (c : Cmd) (hs : List Hp) : Int :=
  if c.k < 2 ∨ 4 < c.k then 1 else if anyBad hs = true then 1 else if hs.length < 1 ∨ 5 < hs.length then 2 else if shapedB c = false then 3 else if noId hs = true then 3 else 0
def pcmd (c : Cmd) (hs : List Hp) (i : Nat) : Cmd :=
  if i + 1 < hs.length then ⟨1, (hat hs i).fl, (hat hs i).dl, (hat hs (i + 1)).id, noMark⟩ else ⟨c.k, (hat hs i).fl, (hat hs i).dl, 0, c.m⟩
def pthL (c : Cmd) (hs : List Hp) : List Cmd := if pthE c hs = 0 then (List.range hs.length).map (pcmd c hs) else []
theorem anyBad_false {hs : List Hp} : anyBad hs = false ↔ ∀ i, i < hs.length → badHop (hat hs i) = false := by simp [anyBad]
theorem noId_false {hs : List Hp} : noId hs = false ↔ ∀ i, i < hs.length → 0 < i → (hat hs i).id ≠ 0 := by simp [noId]
theorem badHop_false {h : Hp} : badHop h = false ↔ (0 ≤ h.dl ∧ h.dl ≤ 1000000) ∧ (0 ≤ h.fl ∧ h.fl ≤ 255) := by
  simp only [badHop, Bool.or_eq_false_iff, decide_eq_false_iff_not]
  omega
/-- a row of hops: the numbers that hop k holds -/
theorem hop_at {w : World} {B n : Nat} {A : Option Addr} {hs : List Hp} (h : RR w B 68 A n (hs.map Hp.cells)) (hok : ∀ h ∈ hs, h.OK) {k : Nat} (hk : k < n) :
    ∃ b off, A = some ⟨b, off, none⟩ ∧ b < B ∧ w.cell? ⟨b, off + k * 68 + 1, none⟩ = some (.int .u64 (hat hs k).id) ∧ w.cell? ⟨b, off + k * 68 + 66, none⟩ = some (.int .i64 (hat hs k).dl) ∧ w.cell? ⟨b, off + k * 68 + 67, none⟩ = some (.int .i64 (hat hs k).fl) := by
  have hl : hs.length = n := by rw [← h.len, List.length_map]
  obtain ⟨b, off, cs, rfl, hb, hcs, _, hr⟩ := h.at_ hk
  have e : cs = (hat hs k).cells := by
    rw [List.getElem?_map, hat_eq (by omega)] at hcs
    exact (Option.some.inj hcs).symm
  subst e
  have ok := hok _ (hat_mem (hs := hs) (k := k) (by omega))
  exact ⟨b, off, rfl, hb, hr 1 _ rfl, hr 66 _ ok.c66, hr 67 _ ok.c67⟩

set_option maxHeartbeats 2000000 in
set_option maxRecDepth 100000 in
theorem pathError_any (c : Cmd) (A : Option Addr) (n cc : Nat) (hs : List Hp) (w : World) (B : Nat) (hc : c.OK) (hr : RR w B 68 A n (hs.map Hp.cells)) (hok : ∀ h ∈ hs, h.OK) (hB : B ≤ w.heap.size) (hn : n ≤ 140737488355328) :
    Calls Try.prog 68 #[.agg c.cells.toArray, .slice A n cc] w (fun e w' => e = .returned (.int .i64 (pthE c hs)) ∧ Below w.heap.size w w') := by
  have HR := Lib.hid hr
  have HOK := Lib.hid hok
  have HL := Lib.hid (show hs.length = n by rw [← hr.len, List.length_map])
  have HS := Lib.hid (fun W => shaped_any c W hc)
  have HN := Lib.hid (cmd_new w c 68)
  have h0 := HN.out.k
  have hi : (Try.prog.info? 68).map (·.size) = some c.cells.length := by rw [hc.size]; kernel_rfl
  have HI := Lib.hid hi
  have HPE := Lib.hid (show pthE c hs = if c.k < 2 ∨ 4 < c.k then 1 else if anyBad hs = true then 1 else if hs.length < 1 ∨ 5 < hs.length then 2 else if shapedB c = false then 3 else if noId hs = true then 3 else 0 from rfl)
  have hkb := hc.k
  have HAL := Lib.hid ((Below.refl w.heap.size w).alloc (Nat.le_refl _) (.cells c.cells.toArray 68))
  clear hr hok hi hc
  generalize pthE c hs = pe at *
  unfold Cmd.v at HS
  have HRC := Lib.hid HN.out.r
  generalize hcs : c.cells.toArray = cs at *
  have HCS := Lib.hid hcs
  clear hcs
  generalize hck : c.k = k at *
  clear hck
  by_cases h1 : k < 2
  · have e := HPE.out
    rw [if_pos (.inl h1)] at e
    subst e
    go_enter Try.func68, Try.ntmps68
    go_wp2_with fail
    go_ret
    exact ⟨rfl, HAL.out⟩
  by_cases h4 : 4 < k
  · have e := HPE.out
    rw [if_pos (.inr h4)] at e
    subst e
    go_enter Try.func68, Try.ntmps68
    go_wp2_with fail
    go_ret
    exact ⟨rfl, HAL.out⟩
  rw [if_neg (by omega)] at HPE
  go_enter Try.func68, Try.ntmps68
  go_wp2_with fail
  obtain ⟨w1, hw1⟩ : ∃ w1, w.alloc (.cells cs 68) = w1 := ⟨_, rfl⟩
  rw [hw1] at HAL HRC ⊢
  have hbl : w.heap.size < w1.heap.size := by rw [← hw1]; simp
  have HR1 := Lib.hid (HR.out.below (HAL.out.mono hB))
  clear hw1 HN h0
  go_loopw [18] (fun i wr => ∃ q : Nat, q ≤ n ∧ i = .int .i64 (q : Int) ∧ wr = w1 ∧ ∀ j, j < q → badHop (hat hs j) = false) (fun i _ => n - (intOf i).toNat)
  case atStart => exact ⟨0, by omega, rfl, rfl, fun j hj => absurd hj (by omega)⟩
  case round =>
    obtain ⟨q, hq, rfl, rfl, hall⟩ := hrel
    have HALL := Lib.hid hall
    clear hall
    by_cases hlt : q < n
    · obtain ⟨b, off, rfl, hbB, _, q66, q67⟩ := hop_at HR1.out HOK.out hlt
      have HBD := Lib.hid (show badHop (hat hs q) = true → pe = 1 from fun hb => by
        have : anyBad hs = true := by
          cases e : anyBad hs with
          | true => rfl
          | false => rw [anyBad_false.1 e q (by rw [HL.out]; exact hlt)] at hb; cases hb
        rw [HPE.out, if_pos this])
      have HBE := Lib.hid (show badHop (hat hs q) = (decide ((hat hs q).dl < 0) || decide (1000000 < (hat hs q).dl) || decide ((hat hs q).fl < 0) || decide (255 < (hat hs q).fl)) from rfl)
      have hok := HOK.out _ (hat_mem (hs := hs) (k := q) (by rw [HL.out]; exact hlt))
      have b1 := hok.dl
      have b2 := hok.fl
      clear hok
      generalize (hat hs q).dl = dl at *
      generalize (hat hs q).fl = fl at *
      by_cases d1 : dl < 0
      · have e := HBD.out (by rw [HBE.out]; simp [d1])
        subst e
        go_wp2_with fail
        go_ret
        exact ⟨rfl, HAL.out⟩
      · by_cases d2 : 1000000 < dl
        · have e := HBD.out (by rw [HBE.out]; simp [d2])
          subst e
          go_wp2_with fail
          go_ret
          exact ⟨rfl, HAL.out⟩
        · by_cases d3 : fl < 0
          · have e := HBD.out (by rw [HBE.out]; simp [d3])
            subst e
            go_wp2_with fail
            go_ret
            exact ⟨rfl, HAL.out⟩
          · by_cases d4 : 255 < fl
            · have e := HBD.out (by rw [HBE.out]; simp [d4])
              subst e
              go_wp2_with fail
              go_ret
              exact ⟨rfl, HAL.out⟩
            · have HG := Lib.hid (show badHop (hat hs q) = false by rw [HBE.out]; simp [d1, d2, d3, d4])
              go_wp2_with fail
              refine ⟨⟨q + 1, by omega, by go_num, by first | rfl | trivial, fun j hj => ?_⟩, by simp [intOf]; omega⟩
              by_cases hjq : j < q
              · exact HALL.out j hjq
              · obtain rfl : j = q := by omega
                exact HG.out
    · obtain rfl : q = n := by omega
      have hnb : anyBad hs = false := anyBad_false.2 (fun j hj => HALL.out j (by rw [← HL.out]; exact hj))
      rw [hnb, if_neg (by decide), HL.out] at HPE
      clear hlt hnb
      by_cases l1 : q < 1
      · obtain rfl : q = 0 := by omega
        have e := HPE.out
        rw [if_pos (.inl l1)] at e
        subst e
        go_wp2_with fail
        go_ret
        exact ⟨rfl, HAL.out⟩
      by_cases l5 : 5 < q
      · have e := HPE.out
        rw [if_pos (.inr l5)] at e
        subst e
        go_wp2_with fail
        go_ret
        exact ⟨rfl, HAL.out⟩
      rw [if_neg (by omega)] at HPE
      go_wp2_with (refine wl_load_mid rfl 68 (.tmp 2) rfl w.heap.size 0 rfl c.cells _ HRC.out Try.underlying68 rfl HI.out ?_; rw [HCS.out])
      refine (HS.out _).mono ?_
      rintro e w2 ⟨rfl, hb⟩
      have HB2 := Lib.hid (HAL.out.trans (hb.mono (by omega)))
      have HR2 := Lib.hid (HR1.out.below (hb.mono (by omega)))
      clear hb
      cases hsb : shapedB c with
      | false =>
        have e := HPE.out
        rw [if_pos hsb] at e
        subst e
        go_wp2_with fail
        go_ret
        exact ⟨rfl, HB2.out⟩
      | true =>
        rw [hsb, if_neg (by decide)] at HPE
        clear hsb
        go_wp2_with fail
        go_loopw [64] (fun i wr => ∃ j : Nat, j ≤ q ∧ i = .int .i64 (j : Int) ∧ wr = w2 ∧ ∀ t, t < j → 0 < t → (hat hs t).id ≠ 0) (fun i _ => q - (intOf i).toNat)
        case atStart => exact ⟨0, by omega, rfl, rfl, fun t ht => absurd ht (by omega)⟩
        case round =>
          obtain ⟨j, hj, rfl, rfl, hall2⟩ := hrel
          have HA2 := Lib.hid hall2
          clear hall2
          by_cases hlt : j < q
          · obtain ⟨b, off, rfl, hbB, q1, _, _⟩ := hop_at HR2.out HOK.out hlt
            by_cases j0 : j = 0
            · subst j0
              go_wp2_with fail
              exact ⟨⟨1, by omega, by go_num, by first | rfl | trivial, fun t ht ht0 => absurd ht (by omega)⟩, by simp [intOf]; omega⟩
            · have jp : 0 < j := by omega
              by_cases hid : (hat hs j).id = 0
              · have d1 : ((hat hs j).id == 0) = true := by simp [hid]
                have hni : noId hs = true := by
                  cases e : noId hs with
                  | true => rfl
                  | false => exact absurd hid (noId_false.1 e j (by rw [HL.out]; exact hlt) jp)
                have e := HPE.out
                rw [if_pos hni] at e
                subst e
                clear hid hni
                go_wp2_with fail
                go_ret
                exact ⟨rfl, HB2.out⟩
              · have d1 : ((hat hs j).id == 0) = false := by simp [hid]
                have HID := Lib.hid hid
                clear hid j0
                go_wp2_with fail
                refine ⟨⟨j + 1, by omega, by go_num, by first | rfl | trivial, fun t ht ht0 => ?_⟩, by simp [intOf]; omega⟩
                by_cases htj : t < j
                · exact HA2.out t htj ht0
                · obtain rfl : t = j := by omega
                  exact HID.out
          · obtain rfl : j = q := by omega
            have hni : noId hs = false := noId_false.2 (fun t ht h0 => HA2.out t (by rw [← HL.out]; exact ht) h0)
            have e := HPE.out
            rw [hni, if_neg (by decide)] at e
            subst e
            clear hni
            go_wp2_with fail
            go_ret
            exact ⟨rfl, HB2.out⟩
end Go.Proofs.Ytobmopjfbgkfbaa
