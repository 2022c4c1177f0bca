/-
  The walk of shallottop.ShallotParts: it returns true; nothing that was there has turned. Conditions: the sizes that slices can have; the number fits its type.
-/
import Derived.Test.YtobmopjfbgkfbaaMsg
import Derived.Test.YtobmopjfbgkfbaaTopSame
import Derived.Test.YtobmopjfbgkfbaaTopSwap
import Derived.Test.YtobmopjfbgkfbaaParsed
namespace Go.Proofs.Ytobmopjfbgkfbaa
open Go Go.RowKit Go.Sh

/-- what block b holds is not what parts or bytes are: a row of them does not turn with it -/
theorem OP.kept_blk {w w' : World} {base m b : Nat} {v : Value} {ps : List Pt} {ss : List Value} (h : OP w base v m ps ss) {cs : Array Value} (hb : w.heap[b]? = some (.cells cs 53 (0, 0))) (hg : w.grownBy w' (some b)) : OP w' base v m ps ss := by
  have hne : ∀ {e size base n : Nat} {u : Value} {xs : List Value}, w.ownsRow base e size u n xs → e ≠ 53 → u.ownBlock = none ∨ u.ownBlock ≠ some b := by
    intro e size base n u xs h he
    rcases h.2 with ⟨rfl, _⟩ | ⟨g, cap, cur, rfl, _, hg2, _⟩
    · exact .inl rfl
    · right
      intro e2
      have hgb : g = b := by simpa [Value.ownBlock] using e2
      subst hgb
      rw [hb] at hg2
      injection hg2 with hg2
      injection hg2 with _ ht
      exact he ht.symm
  obtain ⟨h1, h2, h3, h4⟩ := h
  refine ⟨h1, h2, h3.kept hg (hne h3 (by decide)), fun i hi => ?_⟩
  obtain ⟨A, k, c, h5, h6⟩ := h4 i hi
  exact ⟨A, k, c, h5, h6.kept hg (hne h6 (by decide))⟩
theorem MB.blk {w : World} {b base n : Nat} {id cnt : Int} {qs : List Pt} {nm : Value} (h : MB w b base id cnt n qs nm) : ∃ cs, w.heap[b]? = some (.cells cs 53 (0, 0)) := by
  obtain ⟨_, vs, _, h2, _⟩ := h
  exact ⟨_, h2⟩

/-- a composite literal, its value laid -/
theorem wl_built {P : Program} {ops : Array Oper} {rest : List Oper} {o : Oper} {a : Act} {w : World} {Q : Exit → Act → World → Prop} (hw : Region.wanted o (yielded ops a.tmps) = true) (t : TypeId) (parts : List (Nat × Operand)) (ho : o.op = .build t parts.toArray)
    (vals : List (Nat × Value)) (hv : (parts.map fun (i, x) => (i, a.eval x)) = vals) (cells : Array Value) (hc : P.built t vals = some cells) (h : wpList P ops Q rest (a.put o.dst (.agg cells)) w) : wpList P ops Q (o :: rest) a w := by
  refine wl_step hw fun K hK => ?_
  subst hv
  have hc' : P.built t (parts.toArray.map fun (i, x) => (i, a.eval x)).toList = some cells := by simpa using hc
  refine wp_build t parts.toArray ho (by rw [hc']; rfl) ?_
  rw [hc']
  exact hK _ _ h
/-- an empty inbox with this name -/
def inbZ (nm : Value) : List Value := [.int .u64 0, .int .i64 0, .int .i64 0] ++ (seenV [] ++ (List.replicate 16 (.slice none 0 0) ++ [nm]))
theorem inbZ_len (nm : Value) : (inbZ nm).length = 36 := by simp [inbZ, length_seenV]
theorem inb_zero : ∀ w : World, (zeroValue 53).run Try.prog w = .ok (.agg (inbZ (.string ⟨#[]⟩)).toArray) w := fun _ => by kernel_rfl
theorem inb_built : Try.prog.built 53 [(1, .string ⟨#[120]⟩)] = some (inbZ (.string ⟨#[120]⟩)).toArray := by kernel_rfl
theorem inbZ_one (s : ByteArray) : ∀ v ∈ (inbZ (.string s)).toArray.toList, v.oneCell' = true := by
  intro v hv
  simp only [inbZ, List.mem_append, List.mem_cons, List.not_mem_nil, or_false, List.mem_replicate, seenV, List.mem_map] at hv
  rcases hv with (rfl | rfl | rfl) | ⟨_, _, rfl⟩ | ⟨_, rfl⟩ | rfl <;> rfl
theorem inb_MB (w : World) (id : Int) (s : ByteArray) : MB (w.alloc (.cells ((inbZ (.string s)).toArray.setIfInBounds 0 (.int .u64 id)) 53)) w.heap.size (w.heap.size + 1) id 0 0 [] (.string s) := by
  refine ⟨by omega, List.replicate 16 (.slice none 0 0), by simp, ?_, fun j hj => ⟨none, 0, 0, by rw [List.getElem?_replicate, if_pos hj], ?_⟩⟩
  · rw [heap_alloc_new w _]
    rfl
  · rw [grp_none (by rfl)]
    exact World.ownsRow_nil _ _ _ _

theorem MB.kept_row {w w' : World} {b base n : Nat} {id cnt : Int} {qs : List Pt} {nm : Value} (h : MB w b base id cnt n qs nm) {x : Value} {m base' : Nat} {xs : List Value} (hx : w.ownsRow base' 56 5 x m xs) (hb : b < base') (hg : w.grownBy w' x.ownBlock) : MB w' b base id cnt n qs nm := by
  obtain ⟨h0, vs, h1, h2, h3⟩ := h
  refine ⟨h0, vs, h1, ?_, fun j hj => ?_⟩
  · rw [hg.block b (Array.getElem?_eq_some_iff.1 h2).1 (fun e => by have := (hx.lt b e.symm).1; omega)]
    exact h2
  · obtain ⟨Ai, ni, ci, h4, h5⟩ := h3 j hj
    exact ⟨Ai, ni, ci, h4, h5.kept hg (own_ne h5 hx (by decide))⟩
theorem OP.kept_row {w w' : World} {base m g c : Nat} {ps : List Pt} {ss : List Value} (h : OP w base (.slice (some ⟨g, 0, none⟩) m c) m ps ss) {x : Value} {n base' : Nat} {xs : List Value} (hx : w.ownsRow base' 56 5 x n xs) (hb : g < base') (hg : w.grownBy w' x.ownBlock) : OP w' base (.slice (some ⟨g, 0, none⟩) m c) m ps ss := by
  obtain ⟨h1, h2, h3, h4⟩ := h
  refine ⟨h1, h2, h3.kept hg (.inr fun e => ?_), fun i hi => ?_⟩
  · have e2 : x.ownBlock = some g := e.symm
    have := (hx.lt g e2).1
    omega
  · obtain ⟨A, k, c, h5, h6⟩ := h4 i hi
    exact ⟨A, k, c, h5, h6.kept hg (own_ne h6 hx (by decide))⟩
def cn (m k : Nat) : Int := if k = 0 then 0 else (m : Int)

set_option maxHeartbeats 4000000 in
set_option maxRecDepth 100000 in
theorem ShallotParts_walk (id : Int) (A : Option Addr) (n c : Nat) (l : List UInt8) (A2 : Option Addr) (n2 c2 : Nat) (zz : List Int) (w : World) (hid : 0 ≤ id ∧ id ≤ 18446744073709551615) (hr : RB w w.heap.size A n l) (hn : n ≤ 140737488355328) (hz : RI w w.heap.size A2 n2 zz) (hn2 : n2 ≤ 140737488355328) (hc : n ≤ c) (hc2 : n2 ≤ c2) :
    Calls Try.prog 4 #[.int .u64 id, .slice A n c, .slice A2 n2 c2] w (LawPost w) := by
  have HID := Lib.hid hid
  have HR := Lib.hid hr
  have HZ := Lib.hid hz
  clear hr hz hid
  have HC0 := Lib.hid (show Calls Try.prog 22 #[.int .i64 451] w (fun e w' => e = .returned (.tuple #[.int .i64 2, .int .i64 0]) ∧ w = w') from Count_any 451 w)
  by_cases hbig : 7200 < n
  · have HSP := Lib.hid (show Calls Try.prog 23 #[.int .u64 id, .slice A n c] w (RetPE w [] 2) from by
      have h := Split_any id A n c l w w.heap.size HR.out (Nat.le_refl _) hc hn
      rw [show splE n = 2 by rw [splE, if_pos hbig], show splL id l = [] by rw [splL, HR.out.len, if_pos hbig]] at h
      exact h)
    have hbi : (7200 : Int) < (n : Int) := by omega
    go_enter Try.func4, Try.ntmps4
    go_wp2_with fail
    refine HC0.out.mono ?_
    rintro e w1 ⟨rfl, rfl⟩
    go_wp2_with fail
    refine HSP.out.mono ?_
    rintro e w3 ⟨A3, m3, c3, ss3, rfl, ho, hb⟩
    obtain rfl : 0 = m3 := ho.1
    have HB := Lib.hid hb
    clear ho hb
    go_wp2_with fail
    go_ret
    exact ⟨rfl, HB.out⟩
  · obtain ⟨f1, f2, f3, f4, f5, f6, f7⟩ := splN_facts (n := n) (by omega)
    have HSP := Lib.hid (show Calls Try.prog 23 #[.int .u64 id, .slice A n c] w (RetPE w ((List.range (splN n)).map (splP id l (splN n))) 0) from by
      have h := Split_any id A n c l w w.heap.size HR.out (Nat.le_refl _) hc hn
      rw [show splE n = 0 by rw [splE, if_neg (by omega)], show splL id l = (List.range (splN n)).map (splP id l (splN n)) by rw [splL, HR.out.len, if_neg (by omega)]] at h
      exact h)
    have hlm : l.length ≤ splN n * 450 := by rw [HR.out.len]; exact f6
    have HIP := Lib.hid (IsPerm.init id l (splN n))
    have hpl : ((List.range (splN n)).map (splP id l (splN n))).length = splN n := by simp
    generalize (List.range (splN n)).map (splP id l (splN n)) = qs0 at *
    generalize splN n = m at *
    have hbi : ¬ (7200 : Int) < (n : Int) := by omega
    have dm0 : ((m : Int) == 0) = false := by simp; omega
    have hm0 : 0 < m := by omega
    clear f1 f2 f5 f6 f7
    go_enter Try.func4, Try.ntmps4
    go_wp2_with fail
    refine HC0.out.mono ?_
    rintro e w1 ⟨rfl, rfl⟩
    go_wp2_with fail
    refine HSP.out.mono ?_
    rintro e w3 ⟨A3, m3, c3, ss3, rfl, ho, hb⟩
    have hm3 : m = m3 := by rw [← ho.1, hpl]
    subst hm3
    have HO3 := Lib.hid ho
    have HB3 := Lib.hid hb
    have hz3 := hb.size
    clear ho hb HC0 HSP
    generalize hgw : w.heap.size = g0 at *
    have HG := Lib.hid hgw
    clear hgw
    have hzero := inb_zero
    have hbt := inb_built
    have HMB := Lib.hid (inb_MB w3 id ⟨#[120]⟩)
    have hst : (storeCells ⟨w3.heap.size, 0, none⟩ (inbZ (.string ⟨#[120]⟩)).toArray.toList).run Try.prog (w3.alloc (.cells (inbZ (.string ⟨#[]⟩)).toArray 53)) = .ok () (w3.alloc (.cells (inbZ (.string ⟨#[120]⟩)).toArray 53)) := run_cells_new w3 _ _ _ (by rw [List.size_toArray, List.size_toArray, inbZ_len, inbZ_len]) (inbZ_one _)
    have hcl : (w3.alloc (.cells (inbZ (.string ⟨#[120]⟩)).toArray 53)).cell? ⟨w3.heap.size, 0, none⟩ = some (.int .u64 0) := blk_cell (heap_alloc_new w3 _)
    have hfz : (w3.alloc (.cells (inbZ (.string ⟨#[120]⟩)).toArray 53)).frozen? ⟨w3.heap.size, 0, none⟩ = false := frozen_of_row _ _ 0 _ _ (heap_alloc_new w3 _)
    have hb4 := (Below.refl w3.heap.size w3).alloc (Nat.le_refl _) (.cells ((inbZ (.string ⟨#[120]⟩)).toArray.setIfInBounds 0 (.int .u64 id)) 53)
    have hzs : (inbZ (.string ⟨#[]⟩)).toArray.size = 36 := by rw [List.size_toArray, inbZ_len]
    have hcs : (inbZ (.string ⟨#[120]⟩)).toArray.size = 36 := by rw [List.size_toArray, inbZ_len]
    generalize (inbZ (.string ⟨#[]⟩)).toArray = zc at *
    generalize (inbZ (.string ⟨#[120]⟩)).toArray = ds at *
    have hze : ¬ zc = #[] := by intro h; rw [h] at hzs; cases hzs
    have HB4 := Lib.hid hb4
    have HBT := Lib.hid hbt
    clear hb4 hbt
    go_wp2_with (refine wl_built rfl 53 [(1, .const (.string ⟨#[120]⟩))] rfl [(1, .string ⟨#[120]⟩)] rfl ds HBT.out ?_)
    obtain ⟨w4, hw4⟩ : ∃ w4, w3.alloc (.cells (ds.setIfInBounds 0 (.int .u64 id)) 53) = w4 := ⟨_, rfl⟩
    rw [hw4] at HMB HB4 ⊢
    have hz4 := HB4.out.size
    have HO4 := Lib.hid (HO3.out.later HB4.out)
    have HBW4 := Lib.hid (HB3.out.trans (HB4.out.mono hz3))
    clear hw4 hst hcl hfz hzs hcs hze HBT hzero HO3 HB3 HB4
    have hbl : w3.heap.size < w4.heap.size := HMB.out.lt
    generalize w3.heap.size = b at *
    refine (fewInts_any A2 n2 c2 40 zz w4 g0 (HZ.out.below HBW4.out) (by omega) hc2 (by decide) hn2).mono ?_
    rintro e w5 ⟨A5, n5, c5, rfl, hl5, ho5, hb5⟩
    have HZ5 := Lib.hid (RI.of_own ho5 (fun z hz => HZ.out.2 z (List.mem_of_mem_take hz)))
    have HO5 := Lib.hid (HO4.out.later hb5)
    have HM5 := Lib.hid (HMB.out.later hb5)
    have HB5 := Lib.hid (HBW4.out.trans (hb5.mono (by omega)))
    have hz5 := hb5.size
    have hn5 : n5 ≤ 140737488355328 := by rw [← hl5, List.length_take]; omega
    clear hl5 ho5 hb5 HO4 HMB HBW4 HZ
    generalize zz.take 40 = zt at *
    go_wp2_with fail
    refine (swappedParts_any id l A3 m c3 qs0 ss3 A5 n5 c5 zt w5 g0 w5.heap.size HO5.out HIP.out HZ5.out (by omega) (Nat.le_refl _) hm0 f4 hn5).mono ?_
    rintro e w6 ⟨A6, c6, qs, ss6, rfl, hp, ho, hb⟩
    obtain ⟨g6, rfl⟩ := op_some ho hm0
    have HP := Lib.hid hp
    have HOT := Lib.hid ho
    have HM6 := Lib.hid (HM5.out.later hb)
    have HB6 := Lib.hid (HB5.out.trans (hb.mono (by omega)))
    have hz6 := hb.size
    have hg6 : g6 < w6.heap.size := (ho.2.2.1.lt g6 rfl).2
    clear hp ho hb HO5 HM5 HB5 HZ5 HIP
    have hbl6 : b < w6.heap.size := by omega
    have hz60 : g0 ≤ w6.heap.size := by omega
    generalize hg1 : w6.heap.size = g1 at *
    have HG1 := Lib.hid hg1
    clear hg1
    go_wp2_with fail
    go_loopw [11, 63] (fun rv i wr => ∃ (k : Nat) (Ak : Option Addr) (ck : Nat) (sr : List Value), k ≤ m ∧ i = .int .i64 (k : Int) ∧ rv = .slice Ak k ck ∧ OP wr g1 (.slice Ak k ck) k (qs.take k) sr ∧ OP wr g0 (.slice (some ⟨g6, 0, none⟩) m c6) m qs ss6 ∧ MB wr b (b + 1) id (cn m k) k (qs.take k) (.string ⟨#[120]⟩) ∧ Below g0 w wr ∧ g1 ≤ wr.heap.size) (fun _ i _ => m - (intOf i).toNat)
    case atStart => exact ⟨0, none, 0, [], by omega, rfl, rfl, OP.nil _ _, HOT.out, HM6.out, HB6.out, by have := HG1.out; omega⟩
    case round =>
      obtain ⟨k, Ak, ck, sr, hk, rfl, rfl, hor, hot, hmb, hbw, hzr⟩ := hrel
      have HOR := Lib.hid hor
      have HOT2 := Lib.hid hot
      have HM := Lib.hid hmb
      have HB := Lib.hid hbw
      clear hor hot hmb hbw HOT HM6 HB6
      by_cases hlt : k < m
      · have hlti : (k : Int) < (m : Int) := by omega
        obtain ⟨Ai, ni, ci, _, oi, q0, q1, q2, q3, q4⟩ := HOT2.out.cells hlt
        have HSN := Lib.hid (take_psnoc qs k (by rw [HP.out.1]; exact hlt))
        have HIX := Lib.hid (HP.out.hasIx hlt)
        have HCT := Lib.hid (HP.out.ct hlt)
        obtain ⟨jx, hjx, epk⟩ := HP.out.at_ hlt
        have HPK := Lib.hid (show (pat qs k).chk = 0 from by rw [epk]; exact splP_chk f4 hjx)
        have HKD := Lib.hid (show (pat qs k).k = 1 from by rw [epk]; rfl)
        have HPI := Lib.hid (show (pat qs k).id = id from by rw [epk]; rfl)
        have HOK := Lib.hid (HP.out.ok (by have := HID.out; omega) f4 _ (pat_mem (ps := qs) (k := k) (by rw [HP.out.1]; exact hlt)))
        have HDL := Lib.hid (HP.out.small _ (pat_mem (ps := qs) (k := k) (by rw [HP.out.1]; exact hlt)))
        clear epk
        generalize pat qs k = p at *
        have hni : ni ≤ 450 := by have h2 := oi.1; have := HDL.out; rw [length_bv] at h2; omega
        have HFR := Lib.hid (show ∀ (w : World) B, RB w B Ai ni p.d → B ≤ w.heap.size → Calls Try.prog 25 #[.agg #[.int .u8 p.k, .int .u64 p.id, .int .i64 p.ix, .int .i64 p.ct, .slice Ai ni ci]] w (RetBE w (frmL p) 0) from fun w B h hB => by
          have h := Frame_any p Ai ni ci w B HOK.out h hB (by omega)
          rw [HPK.out, show frmE p = frmL p by rw [frmE, if_pos HPK.out]] at h
          exact h)
        have HFL := Lib.hid (length_frmL p (by have := HDL.out; omega))
        have HPF := Lib.hid (parse_frm HOK.out HPK.out)
        have HOI := Lib.hid oi
        have HPN := Lib.hid (PBlk.new wr p (.slice Ai ni ci))
        have HBA := Lib.hid ((Below.refl wr.heap.size wr).alloc (Nat.le_refl _) (.cells (pcell p (.slice Ai ni ci)).toArray 56))
        have r0 := HPN.out.c0
        have r1 := HPN.out.c1
        have r2 := HPN.out.c2
        have r3 := HPN.out.c3
        have r4 := HPN.out.c4
        clear oi
        go_wp2_with fail
        obtain ⟨w7, hw7⟩ : ∃ w7, wr.alloc (.cells #[.int .u8 p.k, .int .u64 p.id, .int .i64 p.ix, .int .i64 p.ct, .slice Ai ni ci] 56) = w7 := ⟨_, rfl⟩
        have HP7 := Lib.hid (show PBlk w7 wr.heap.size p (.slice Ai ni ci) by rw [← hw7]; exact HPN.out)
        have HB7 := Lib.hid (show Below wr.heap.size wr w7 by rw [← hw7]; exact HBA.out)
        rw [hw7]
        clear hw7 HPN HBA q0 q1 q2 q3 q4 r0 r1 r2 r3 r4
        have hz7 : wr.heap.size < w7.heap.size := HP7.out.lt
        refine (HFR.out w7 w7.heap.size (RB.of_own (own_later HOI.out HB7.out)) (Nat.le_refl _)).mono ?_
        rintro e w8 ⟨A8, n8, c8, rfl, hl8, ho8, hb8⟩
        have hn8 : n8 = 480 := by rw [← hl8]; exact HFL.out
        subst hn8
        have HF8 := Lib.hid ho8
        have HP8 := Lib.hid (HP7.out.below hb8 HP7.out.lt)
        have HB8 := Lib.hid (HB7.out.trans (hb8.mono (by omega)))
        have hz8 := hb8.size
        clear hl8 ho8 hb8 HP7 HB7 HFR
        have HPA := Lib.hid (show Calls Try.prog 26 #[.slice A8 480 c8] w8 (RetPt w8 p 0) from by
          have h := Parse_any A8 480 c8 (frmL p) w8 w8.heap.size (RB.of_own HF8.out) (Nat.le_refl _) (by omega) (own_cap HF8.out)
          rw [HPF.out.1, HPF.out.2] at h
          exact h)
        clear HPF HFL
        go_wp2_with fail
        refine HPA.out.mono ?_
        rintro e w9 ⟨A9, n9, c9, he, ho9, hb9⟩
        have he' : e = .returned (.tuple #[.agg #[.int .u8 p.k, .int .u64 p.id, .int .i64 p.ix, .int .i64 p.ct, .slice A9 n9 c9], .int .i64 0]) := he
        subst he'
        clear he HPA HF8
        have HD9 := Lib.hid ho9
        have HP9 := Lib.hid (HP8.out.below hb9 HP8.out.lt)
        have HB9 := Lib.hid (HB8.out.trans (hb9.mono (by omega)))
        have hz9 := hb9.size
        clear ho9 hb9 HP8 HB8
        have hal := (Below.refl w9.heap.size w9).alloc (Nat.le_refl _) (.cells (pcell p (.slice A9 n9 c9)).toArray 56)
        have HPN := Lib.hid (PBlk.new w9 p (.slice A9 n9 c9))
        have HPO := Lib.hid (HP9.out.below hal HP9.out.lt)
        have HAL := Lib.hid hal
        have s0 : (w9.alloc (.cells #[.int .u8 p.k, .int .u64 p.id, .int .i64 p.ix, .int .i64 p.ct, .slice A9 n9 c9] 56)).cell? ⟨wr.heap.size, 0, none⟩ = some (.int .u8 p.k) := HPO.out.c0
        have s1 : (w9.alloc (.cells #[.int .u8 p.k, .int .u64 p.id, .int .i64 p.ix, .int .i64 p.ct, .slice A9 n9 c9] 56)).cell? ⟨wr.heap.size, 1, none⟩ = some (.int .u64 p.id) := HPO.out.c1
        have s2 : (w9.alloc (.cells #[.int .u8 p.k, .int .u64 p.id, .int .i64 p.ix, .int .i64 p.ct, .slice A9 n9 c9] 56)).cell? ⟨wr.heap.size, 2, none⟩ = some (.int .i64 p.ix) := HPO.out.c2
        have s3 : (w9.alloc (.cells #[.int .u8 p.k, .int .u64 p.id, .int .i64 p.ix, .int .i64 p.ct, .slice A9 n9 c9] 56)).cell? ⟨wr.heap.size, 3, none⟩ = some (.int .i64 p.ct) := HPO.out.c3
        have s4 : (w9.alloc (.cells #[.int .u8 p.k, .int .u64 p.id, .int .i64 p.ix, .int .i64 p.ct, .slice A9 n9 c9] 56)).cell? ⟨wr.heap.size, 4, none⟩ = some (.slice Ai ni ci) := HPO.out.c4
        clear hal
        go_wp2_with fail
        obtain ⟨w10, hw10⟩ : ∃ w10, w9.alloc (.cells #[.int .u8 p.k, .int .u64 p.id, .int .i64 p.ix, .int .i64 p.ct, .slice A9 n9 c9] 56) = w10 := ⟨_, rfl⟩
        have HPN10 := Lib.hid (show PBlk w10 w9.heap.size p (.slice A9 n9 c9) by rw [← hw10]; exact HPN.out)
        have HAL10 := Lib.hid (show Below w9.heap.size w9 w10 by rw [← hw10]; exact HAL.out)
        have HB10 := Lib.hid (HB9.out.trans (HAL10.out.mono (by omega)))
        have HD10 := Lib.hid (own_later HD9.out HAL10.out)
        have hz10 : w9.heap.size < w10.heap.size := HPN10.out.lt
        rw [hw10]
        clear hw10 HPN HPO HAL s0 s1 s2 s3 s4 HB9 HD9
        refine (samePart_eq p Ai A9 ni n9 ci c9 w10 wr.heap.size w10.heap.size ((RB.of_own HOI.out).below HB10.out) (RB.of_own HD10.out) (by omega) (Nat.le_refl _)).mono ?_
        rintro e w11 ⟨rfl, hb11⟩
        have HPN11 := Lib.hid (HPN10.out.below hb11 HPN10.out.lt)
        have HB11 := Lib.hid (HB10.out.trans (hb11.mono (by omega)))
        have HD11 := Lib.hid (own_later HD10.out hb11)
        have hz11 := hb11.size
        clear hb11 HPN10 HB10 HD10 HAL10 HP9
        have r0 := HPN11.out.c0
        have r1 := HPN11.out.c1
        have r2 := HPN11.out.c2
        have r3 := HPN11.out.c3
        have r4 := HPN11.out.c4
        have HA11 := Lib.hid ((Below.refl w11.heap.size w11).alloc (Nat.le_refl _) (.cells (pcell p (.slice A9 n9 c9)).toArray 56))
        have HBR := Lib.hid (show Below wr.heap.size wr (w11.alloc (.cells (pcell p (.slice A9 n9 c9)).toArray 56)) from HB11.out.trans (HA11.out.mono (by omega)))
        have HOR12 := Lib.hid (HOR.out.later HBR.out)
        have HX12 := Lib.hid (own_later (own_base HD11.out (show g1 ≤ w8.heap.size by omega)) HA11.out)
        go_wp2_with (at_builtin; refine wl_app TP rfl (.tmp 93) (.tmp 95) rfl (.slice Ak k ck) rfl (some ⟨w11.heap.size, 0, none⟩) 1 1 rfl g1 k _ HOR12.out.2.2.1 (w11.heap.size + 1) (pcell p (.slice A9 n9 c9)) (Reads.lit w11 _ (pcell p (.slice A9 n9 c9)) 1 5 rfl _ rfl) (pcell_one _ _ _ _) (by omega) (by omega) (by simp; omega) ?q6)
        case q6 =>
          intro A12 c12 w12 hown hgr hat
          have hbk : ∀ q, (Value.slice Ak k ck).ownBlock = some q → q < wr.heap.size := fun q hq => (HOR.out.2.2.1.lt q hq).2
          have HOR13 := Lib.hid (HOR12.out.snoc HX12.out hgr hown)
          have HOT13 := Lib.hid ((HOT2.out.later HBR.out).kept_row HOR12.out.2.2.1 hg6 hgr)
          have HM13 := Lib.hid ((HM.out.later HBR.out).kept_row HOR12.out.2.2.1 hbl6 hgr)
          have HD13 := Lib.hid (HX12.out.kept hgr (own_ne HX12.out HOR12.out.2.2.1 (by decide)))
          have HPN13 := Lib.hid ((HPN11.out.below HA11.out HPN11.out.lt).grown hgr (fun e => by have := hbk _ e.symm; omega))
          have hszz : (w11.alloc (.cells (pcell p (.slice A9 n9 c9)).toArray 56)).heap.size = w11.heap.size + 1 := by simp
          have HB13 := Lib.hid ((HB.out.trans (HBR.out.mono (by omega))).grown hgr (by rw [hszz]; omega) (fun q hq => by have := (HOR12.out.2.2.1.lt q hq).1; omega))
          have hz13 : w11.heap.size + 1 ≤ w12.heap.size := by rw [← hszz]; exact hgr.size
          clear hown hgr hat hbk hszz HOR12 HX12 HOR HOT2 HM HB HBR HA11 HPN11 HB11 HD11 r0 r1 r2 r3 r4 HOI
          have r0 := HPN13.out.c0
          have r1 := HPN13.out.c1
          have r2 := HPN13.out.c2
          have r3 := HPN13.out.c3
          have r4 := HPN13.out.c4
          have HA13 := Lib.hid ((Below.refl w12.heap.size w12).alloc (Nat.le_refl _) (.cells (pcell p (.slice A9 n9 c9)).toArray 56))
          have HPK13 := Lib.hid (PBlk.new w12 p (.slice A9 n9 c9))
          go_wp2_with fail
          obtain ⟨w14, hw14⟩ : ∃ w14, w12.alloc (.cells #[.int .u8 p.k, .int .u64 p.id, .int .i64 p.ix, .int .i64 p.ct, .slice A9 n9 c9] 56) = w14 := ⟨_, rfl⟩
          have HA14 := Lib.hid (show Below w12.heap.size w12 w14 by rw [← hw14]; exact HA13.out)
          have HP14 := Lib.hid (show PBlk w14 w12.heap.size p (.slice A9 n9 c9) by rw [← hw14]; exact HPK13.out)
          rw [hw14]
          have hz14 : w12.heap.size < w14.heap.size := HP14.out.lt
          clear hw14 HA13 HPK13 r0 r1 r2 r3 r4 HPN13
          have HOR14 := Lib.hid (HOR13.out.later HA14.out)
          have HOT14 := Lib.hid (HOT13.out.later HA14.out)
          have HM14 := Lib.hid (HM13.out.later HA14.out)
          have HD14 := Lib.hid (own_later HD13.out HA14.out)
          have HB14 := Lib.hid (HB13.out.trans (HA14.out.mono (by omega)))
          clear HOR13 HOT13 HM13 HD13 HB13 HA14
          have hct : k ≠ 0 → p.ct = cn m k := by
            intro h
            rw [HCT.out, cn, if_neg h]
          refine (Take1_any b (b + 1) id (cn m k) k (qs.take k) _ p A9 n9 c9 w12.heap.size w14 HM14.out (own_base HD14.out (by omega)) HP14.out (by omega) (by omega) HOK.out HPK.out HKD.out HPI.out hct HIX.out).mono ?_
          rintro e w15 ⟨rfl, hm15, hg15⟩
          rw [HCT.out, ← HSN.out] at hm15
          have HM15 := Lib.hid hm15
          obtain ⟨csb, hcsb⟩ := HM14.out.blk
          have HOR15 := Lib.hid (HOR14.out.kept_blk hcsb hg15)
          have HOT15 := Lib.hid (HOT14.out.kept_blk hcsb hg15)
          have HB15 := Lib.hid (HB14.out.grown hg15 (by omega) (fun q hq => by injection hq with hq; omega))
          have hz15 := hg15.size
          clear hm15 hg15 hcsb HOR14 HOT14 HM14 HD14 HB14 HP14
          have HMS := Lib.hid (show Calls Try.prog 29 #[.pointer (some ⟨b, 0, none⟩)] w15 (fun e w' => e = .returned (.int .i64 ((m : Int) - 1 - (k : Int))) ∧ ∃ d, w' = w15.drewN d) from by
            have h := Missing_any b (b + 1) id (m : Int) (k + 1) (qs.take (k + 1)) _ w15 HM15.out (by omega) ⟨by omega, by omega⟩
            rw [if_neg (by omega), show (m : Int) - ((k + 1 : Nat) : Int) = (m : Int) - 1 - (k : Int) by omega] at h
            exact h)
          have dmm : ((m : Int) - 1 - (k : Int) != (m : Int) - 1 - (k : Int)) = false := by simp
          have hcn : cn m (k + 1) = (m : Int) := by rw [cn, if_neg (by omega)]
          have HCN := Lib.hid hcn
          clear hcn
          go_wp2_with fail
          refine HMS.out.mono ?_
          rintro e w16 ⟨rfl, d16, rfl⟩
          have HB16 := below_drewN (Below.refl w15.heap.size w15) d16
          go_wp2_with fail
          refine ⟨⟨k + 1, A12, c12, sr ++ [.slice A9 n9 c9], by omega, by go_num, rfl, ?_, HOT15.out.later HB16, ?_, below_drewN HB15.out d16, by show g1 ≤ w15.heap.size; omega⟩, by simp [intOf]; omega⟩
          · rw [HSN.out]
            exact HOR15.out.later HB16
          · rw [HCN.out]
            exact HM15.out.later HB16
      · obtain rfl : k = m := by omega
        have HQ := Lib.hid (show qs.take k = qs from List.take_of_length_le (by rw [HP.out.1]; exact Nat.le_refl _))
        have hcn : cn k k = (k : Int) := by rw [cn, if_neg (by omega)]
        have HOR2 := Lib.hid (show OP wr g1 (.slice Ak k ck) k qs sr from by have h := HOR.out; rw [HQ.out] at h; exact h)
        have HM2 := Lib.hid (show MB wr b (b + 1) id (k : Int) k qs (.string ⟨#[120]⟩) from by have h := HM.out; rw [HQ.out, hcn] at h; exact h)
        have hmg := HP.out.mrg hm0 f4 hlm
        have HMG := Lib.hid (show Calls Try.prog 30 #[.slice Ak k ck] wr (RetBE wr l 0) from by
          have h1 := Merge_any Ak k ck qs wr wr.heap.size (RP.of_own HOR2.out) (Nat.le_refl _) (by omega) (HP.out.ok (by have := HID.out; omega) f4) (fun p hp => Nat.le_trans (HP.out.small p hp) (by omega))
          rw [hmg.1, hmg.2] at h1
          exact h1)
        have HWB := Lib.hid (show whB qs k = l from by
          have h1 := HP.out.whole f4 hlm
          have hix : ∀ i, i < qs.length → (pat qs i).ix < k := by
            intro i hi
            obtain ⟨j, hj, e⟩ := HP.out.at_ (i := i) (by rw [← HP.out.1]; exact hi)
            rw [e]
            simp only [splP]
            omega
          rw [mrgW_short hix f4] at h1
          exact h1)
        clear hlt HOR HM hcn hmg HOT2
        have hbr : b < wr.heap.size := HM2.out.lt
        go_wp2_with fail
        refine HMG.out.mono ?_
        rintro e w20 ⟨A20, n20, c20, rfl, hl20, ho20, hb20⟩
        have hn20 : n20 = n := by rw [← hl20, HR.out.len]
        subst hn20
        have HM20 := Lib.hid (HM2.out.later hb20)
        have HO20 := Lib.hid ho20
        have HB20 := Lib.hid (HB.out.trans (hb20.mono (by omega)))
        have hz20 := hb20.size
        clear hl20 ho20 hb20 HM2 HB HMG
        have HBY := Lib.hid (show Calls Try.prog 31 #[.pointer (some ⟨b, 0, none⟩)] w20 (RetBE w20 l 0) from by
          have h := Bytes_any b (b + 1) id k qs _ w20 HM20.out hm0 f4 (by rw [HWB.out, HR.out.len]; omega)
          rw [HWB.out] at h
          exact h)
        go_wp2_with fail
        refine HBY.out.mono ?_
        rintro e w21 ⟨A21, n21, c21, rfl, hl21, ho21, hb21⟩
        have hn21 : n21 = n20 := by rw [← hl21, HR.out.len]
        subst hn21
        have HR20 := Lib.hid ((RB.of_own HO20.out).below hb21)
        have HR21 := Lib.hid (RB.of_own ho21)
        have HB21 := Lib.hid (HB20.out.trans (hb21.mono (by omega)))
        clear hl21 ho21 hb21 HBY HO20 HB20 HM20
        go_wp2_with fail
        refine (sameBytes_any A20 A n21 n21 c20 c l l w21 _ g0 HR20.out (HR.out.below HB21.out)).mono ?_
        rintro e w22 ⟨rfl, rfl⟩
        rw [show decide (l = l) = true by simp]
        go_wp2_with fail
        refine (sameBytes_any A21 A n21 n21 c21 c l l w21 _ g0 HR21.out (HR.out.below HB21.out)).mono ?_
        rintro e w23 ⟨rfl, rfl⟩
        rw [show decide (l = l) = true by simp]
        go_wp2_with fail
        go_ret
        exact ⟨rfl, by rw [HG.out]; exact HB21.out⟩
end Go.Proofs.Ytobmopjfbgkfbaa
