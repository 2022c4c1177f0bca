/-
  Contracts of shallotref11.SamePart and SameParts at equal parts: true. Conditions: the sizes that slices can have.
-/
import Derived.Test.YtgdelilanackhaaParts
import Derived.Deep.RegionHeld3
namespace Go.Proofs.Ytgdelilanackhaa
open Go Go.RowKit Go.Sh

/-- true is handed back; nothing that was there has turned -/
def TruePost (w : World) (e : Ending) (w' : World) : Prop := e = .returned (.bool true) ∧ Below w.heap.size w w'

set_option maxHeartbeats 1000000 in
theorem SamePart_eq (p : Pt) (A A' : Option Addr) (n n' c c' : Nat) (w : World) (B B' : Nat) (hl : RB w B A n p.d) (hr : RB w B' A' n' p.d) (hB : B ≤ w.heap.size) (hB' : B' ≤ w.heap.size) (hn : n ≤ 140737488355328) :
    Calls Try.prog 26 #[.agg #[.int .u8 p.k, .int .u64 p.id, .int .i64 p.ix, .int .i64 p.ct, .slice A n c], .agg #[.int .u8 p.k, .int .u64 p.id, .int .i64 p.ix, .int .i64 p.ct, .slice A' n' c']] w (TruePost w) := by
  have HL := Lib.hid hl
  have HR := Lib.hid hr
  clear hl hr
  generalize p.k = k at *
  generalize p.id = id at *
  generalize p.ix = ix at *
  generalize p.ct = ct at *
  generalize p.d = d at *
  go_enter Try.func26, Try.ntmps26
  go_wp2_with fail
  refine (Equal_any A A' n n' c c' d d _ B B' ((HL.out.alloc hB _).alloc (by simp; omega) _) ((HR.out.alloc hB' _).alloc (by simp; omega) _) hn).mono ?_
  rintro e w1 h1
  obtain ⟨rfl, hb⟩ := h1.below
  have HB := Lib.hid ((((Below.refl w.heap.size w).alloc (Nat.le_refl _) _).alloc (by simp) _).trans (hb.mono (by simp; omega)))
  clear h1 hb
  rw [show decide (d = d) = true by simp]
  go_wp2_with fail
  go_ret
  exact ⟨rfl, HB.out⟩

set_option maxHeartbeats 2000000 in
theorem SameParts_eq (ps : List Pt) (A A' : Option Addr) (m c c' : Nat) (w : World) (B B' : Nat) (hl : RP w B A m ps) (hr : RP w B' A' m ps) (hB : B ≤ w.heap.size) (hB' : B' ≤ w.heap.size) (hm : m ≤ 140737488355328) (hd : ∀ p ∈ ps, p.d.length ≤ 140737488355328) :
    Calls Try.prog 15 #[.slice A m c, .slice A' m c'] w (TruePost w) := by
  have HL := Lib.hid hl
  have HR := Lib.hid hr
  have HD := Lib.hid hd
  have HPL := Lib.hid hl.len
  clear hl hr hd
  go_enter Try.func15, Try.ntmps15
  go_wp2_with fail
  go_loopw [5] (fun i wr => ∃ k : Nat, k ≤ m ∧ i = .int .i64 (k : Int) ∧ Below w.heap.size w wr) (fun i _ => m - (intOf i).toNat)
  case atStart => exact ⟨0, by omega, rfl, Below.refl _ _⟩
  case round =>
    obtain ⟨k, hk, rfl, hb⟩ := hrel
    have HB := Lib.hid hb
    have hsz := hb.size
    clear hb
    by_cases hlt : k < m
    · obtain ⟨ad, Ai, ni, ci, rfl, hab, hc, hle, hrb⟩ := (HL.out.below (HB.out.mono hB)).at_ hlt
      obtain ⟨ad', Aj, nj, cj, rfl, hab', hc', hle', hrb'⟩ := (HR.out.below (HB.out.mono hB')).at_ hlt
      have hmem := HD.out _ (pat_mem (ps := ps) (k := k) (by rw [HPL.out]; exact hlt))
      have HI := Lib.hid hrb
      have HJ := Lib.hid hrb'
      have hni : ni ≤ 140737488355328 := by rw [← hrb.len]; exact hmem
      have a0 := hc 0 _ rfl
      have a1 := hc 1 _ rfl
      have a2 := hc 2 _ rfl
      have a3 := hc 3 _ rfl
      have a4 := hc 4 _ rfl
      have b0 := hc' 0 _ rfl
      have b1 := hc' 1 _ rfl
      have b2 := hc' 2 _ rfl
      have b3 := hc' 3 _ rfl
      have b4 := hc' 4 _ rfl
      clear hc hc' hrb hrb' hmem hle hle'
      simp only [Nat.add_zero] at a0 b0
      simp only [← add_of_add] at a1 a2 a3 a4 b1 b2 b3 b4
      have hbw : ad.block < wr.heap.size := by omega
      have hbw' : ad'.block < wr.heap.size := by omega
      have HS := Lib.hid (fun w h1 h2 h3 h4 => SamePart_eq (pat ps k) Ai Aj ni nj ci cj w B B' h1 h2 h3 h4 hni)
      generalize pat ps k = p at *
      have hsB : B ≤ wr.heap.size := by omega
      have hsB' : B' ≤ wr.heap.size := by omega
      have HS2 := Lib.hid HS.out
      clear HS
      generalize p.d = pd at *
      generalize p.k = pk at *
      generalize p.id = pid at *
      generalize p.ix = pix at *
      generalize p.ct = pct at *
      have a0' : wr.cell? (ad.add (k * 5)) = some (.int .u8 pk) := a0
      have a1' : wr.cell? ⟨(ad.add (k * 5)).block, (ad.add (k * 5)).off + 1, none⟩ = some (.int .u64 pid) := a1
      have a2' : wr.cell? ⟨(ad.add (k * 5)).block, (ad.add (k * 5)).off + 2, none⟩ = some (.int .i64 pix) := a2
      have a3' : wr.cell? ⟨(ad.add (k * 5)).block, (ad.add (k * 5)).off + 3, none⟩ = some (.int .i64 pct) := a3
      have a4' : wr.cell? ⟨(ad.add (k * 5)).block, (ad.add (k * 5)).off + 4, none⟩ = some (.slice Ai ni ci) := a4
      have b0' : wr.cell? (ad'.add (k * 5)) = some (.int .u8 pk) := b0
      have b1' : wr.cell? ⟨(ad'.add (k * 5)).block, (ad'.add (k * 5)).off + 1, none⟩ = some (.int .u64 pid) := b1
      have b2' : wr.cell? ⟨(ad'.add (k * 5)).block, (ad'.add (k * 5)).off + 2, none⟩ = some (.int .i64 pix) := b2
      have b3' : wr.cell? ⟨(ad'.add (k * 5)).block, (ad'.add (k * 5)).off + 3, none⟩ = some (.int .i64 pct) := b3
      have b4' : wr.cell? ⟨(ad'.add (k * 5)).block, (ad'.add (k * 5)).off + 4, none⟩ = some (.slice Aj nj cj) := b4
      clear a0 a1 a2 a3 a4 b0 b1 b2 b3 b4
      have hbk : (ad.add (k * 5)).block < wr.heap.size := by rw [block_of_add]; exact hbw
      have hbk' : (ad'.add (k * 5)).block < wr.heap.size := by rw [block_of_add]; exact hbw'
      go_wp2_with fail
      go_region_held3 (fun w' => w'.cell? (ad.add (k * 5)) = some (.int .u8 pk) ∧ w'.cell? ⟨(ad.add (k * 5)).block, (ad.add (k * 5)).off + 1, none⟩ = some (.int .u64 pid) ∧ w'.cell? ⟨(ad.add (k * 5)).block, (ad.add (k * 5)).off + 2, none⟩ = some (.int .i64 pix) ∧ w'.cell? ⟨(ad.add (k * 5)).block, (ad.add (k * 5)).off + 3, none⟩ = some (.int .i64 pct) ∧ w'.cell? ⟨(ad.add (k * 5)).block, (ad.add (k * 5)).off + 4, none⟩ = some (.slice Ai ni ci) ∧ w'.cell? (ad'.add (k * 5)) = some (.int .u8 pk) ∧ w'.cell? ⟨(ad'.add (k * 5)).block, (ad'.add (k * 5)).off + 1, none⟩ = some (.int .u64 pid) ∧ w'.cell? ⟨(ad'.add (k * 5)).block, (ad'.add (k * 5)).off + 2, none⟩ = some (.int .i64 pix) ∧ w'.cell? ⟨(ad'.add (k * 5)).block, (ad'.add (k * 5)).off + 3, none⟩ = some (.int .i64 pct) ∧ w'.cell? ⟨(ad'.add (k * 5)).block, (ad'.add (k * 5)).off + 4, none⟩ = some (.slice Aj nj cj)) (go_keep) ((go_at_call 26; refine (HS2.out wr.drew HI.out.drew HJ.out.drew (by exact hsB) (by exact hsB')).mono ?_; rintro e w2 ⟨rfl, hb2⟩; have ta0 : w2.cell? (ad.add (k * 5)) = some (.int .u8 pk) := (hb2.cell (p := ad.add (k * 5)) hbk).trans a0'; have ta1 : w2.cell? ⟨(ad.add (k * 5)).block, (ad.add (k * 5)).off + 1, none⟩ = some (.int .u64 pid) := (hb2.cell (p := ⟨(ad.add (k * 5)).block, (ad.add (k * 5)).off + 1, none⟩) hbk).trans a1'; have ta2 : w2.cell? ⟨(ad.add (k * 5)).block, (ad.add (k * 5)).off + 2, none⟩ = some (.int .i64 pix) := (hb2.cell (p := ⟨(ad.add (k * 5)).block, (ad.add (k * 5)).off + 2, none⟩) hbk).trans a2'; have ta3 : w2.cell? ⟨(ad.add (k * 5)).block, (ad.add (k * 5)).off + 3, none⟩ = some (.int .i64 pct) := (hb2.cell (p := ⟨(ad.add (k * 5)).block, (ad.add (k * 5)).off + 3, none⟩) hbk).trans a3'; have ta4 : w2.cell? ⟨(ad.add (k * 5)).block, (ad.add (k * 5)).off + 4, none⟩ = some (.slice Ai ni ci) := (hb2.cell (p := ⟨(ad.add (k * 5)).block, (ad.add (k * 5)).off + 4, none⟩) hbk).trans a4'; have tb0 : w2.cell? (ad'.add (k * 5)) = some (.int .u8 pk) := (hb2.cell (p := ad'.add (k * 5)) hbk').trans b0'; have tb1 : w2.cell? ⟨(ad'.add (k * 5)).block, (ad'.add (k * 5)).off + 1, none⟩ = some (.int .u64 pid) := (hb2.cell (p := ⟨(ad'.add (k * 5)).block, (ad'.add (k * 5)).off + 1, none⟩) hbk').trans b1'; have tb2 : w2.cell? ⟨(ad'.add (k * 5)).block, (ad'.add (k * 5)).off + 2, none⟩ = some (.int .i64 pix) := (hb2.cell (p := ⟨(ad'.add (k * 5)).block, (ad'.add (k * 5)).off + 2, none⟩) hbk').trans b2'; have tb3 : w2.cell? ⟨(ad'.add (k * 5)).block, (ad'.add (k * 5)).off + 3, none⟩ = some (.int .i64 pct) := (hb2.cell (p := ⟨(ad'.add (k * 5)).block, (ad'.add (k * 5)).off + 3, none⟩) hbk').trans b3'; have tb4 : w2.cell? ⟨(ad'.add (k * 5)).block, (ad'.add (k * 5)).off + 4, none⟩ = some (.slice Aj nj cj) := (hb2.cell (p := ⟨(ad'.add (k * 5)).block, (ad'.add (k * 5)).off + 4, none⟩) hbk').trans b4'))
      have HB2 := Lib.hid (HB.out.trans (show Below w.heap.size wr w2 from (Below.trans ((Below.refl _ _).drew) (Below.mono hb2 hsz))))
      clear ta0 ta1 ta2 ta3 ta4 tb0 tb1 tb2 tb3 tb4 hb2
      go_wp2_with fail
      exact ⟨⟨k + 1, by omega, by go_num, HB2.out⟩, by simp [intOf]; omega⟩
    · obtain rfl : k = m := by omega
      go_wp2_with fail
      go_ret
      exact ⟨rfl, HB.out⟩
end Go.Proofs.Ytgdelilanackhaa
