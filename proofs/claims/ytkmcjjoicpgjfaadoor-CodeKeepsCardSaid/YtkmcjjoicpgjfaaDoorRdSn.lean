/-
  Contract of reader.sends. Conditions: the reader is the call's own; the sizes that slices can have.
-/
import Derived.Test.YtkmcjjoicpgjfaaDoorCurTake
import Derived.Test.YtkmcjjoicpgjfaaDoorDecP
import Derived.Test.YtkmcjjoicpgjfaaDoorVerOwn
import Derived.Test.YtkmcjjoicpgjfaaDoorVerTwin
import Derived.Test.YtkmcjjoicpgjfaaDoorRowsOf
import Derived.Test.YtkmcjjoicpgjfaaDoorLists
/-
  The memory of code.reader, and the contracts of its number and piece. Conditions: the reader is the call's own.
-/
namespace Go.Proofs.YtkmcjjoicpgjfaaDoor
open Go Go.RowKit Go.Sh

/-- what a call of the reader's does to memory: below the base nothing, from the top on nothing to what lay there -/
def Sto (base top : Nat) (w w' : World) : Prop := Below base w w' ∧ ∀ k, top ≤ k → k < w.heap.size → w'.heap[k]? = w.heap[k]?
theorem Sto.refl (base top : Nat) (w : World) : Sto base top w w := ⟨Below.refl _ _, fun _ _ _ => rfl⟩
theorem Sto.trans {base top : Nat} {w w' w'' : World} (h : Sto base top w w') (h' : Sto base top w' w'') : Sto base top w w'' :=
  ⟨h.1.trans h'.1, fun k h1 h2 => (h'.2 k h1 (Nat.lt_of_lt_of_le h2 h.1.size)).trans (h.2 k h1 h2)⟩
theorem Sto.of_below {base top : Nat} {w w' : World} (h : Below w.heap.size w w') (hb : base ≤ w.heap.size) : Sto base top w w' := ⟨h.mono hb, fun k _ h2 => h.block k h2⟩
theorem Sto.of_grown {base top p : Nat} {w w' : World} (h : w.grownBy w' (some p)) (h1 : base ≤ p) (h2 : p < top) (hb : base ≤ w.heap.size) : Sto base top w w' :=
  ⟨(Below.refl base w).grown h hb (fun k hk => by injection hk with hk; omega), fun k h3 h4 => h.block k h4 (fun e => by injection e with e; omega)⟩
/-- a row of the call's own from the top on stays -/
theorem own_sto {base top base' e size n : Nat} {v : Value} {xs : List Value} {w w' : World} (h : w.ownsRow base' e size v n xs) (hs : Sto base top w w') (hb : top ≤ base') : w'.ownsRow base' e size v n xs := by
  refine ⟨h.1, ?_⟩
  rcases h.2 with hn | ⟨g, cap, cur, hv, hbg, hg, rest⟩
  · exact .inl hn
  · exact .inr ⟨g, cap, cur, hv, hbg, (hs.2 g (Nat.le_trans hb hbg) (Array.getElem?_eq_some_iff.1 hg).1).trans hg, rest⟩
/-- what is written from the world's end on -/
theorem Sto.sub {base top : Nat} {w w' w'' : World} (h : Sto base top w w') (hb : Below w.heap.size w' w'') (h1 : base ≤ w.heap.size) : Sto base top w w'' :=
  ⟨h.1.trans (hb.mono h1), fun k h2 h3 => (hb.block k h3).trans (h.2 k h2 h3)⟩
theorem CurTop.sub {w w' : World} {base top p : Nat} {l : List UInt8} {a : Nat} (h : CurTop w base top p l a) (hb : Below top w w') : CurTop w' base top p l a := by
  obtain ⟨⟨h1, h2, A, n, c, h3, h4⟩, hp, hk⟩ := h
  have hrow := hk A n c h3
  refine ⟨⟨h1, h2, A, n, c, (hb.block p hp).trans h3, own_below h4 hb fun k e => hrow k e⟩, hp, fun A' n' c' h3' => hk A' n' c' ((hb.block p hp).symm.trans h3')⟩
/-- q is a reader of the call's own; what is left for it to read -/
def Rd (w : World) (base top q : Nat) (s : Sx) : Prop :=
  ∃ (p : Nat) (l : List UInt8) (a : Nat) (sh : Bool), base ≤ q ∧ q < top ∧ w.heap[q]? = some (.cells #[.pointer (some ⟨p, 0, none⟩), .bool sh] 88 (0, 0)) ∧ CurTop w base top p l a ∧
    l.length ≤ 140737488355328 ∧ top ≤ w.heap.size ∧ s = if sh then none else some (l.drop a)
theorem Rd.sub {w w' : World} {base top q : Nat} {s : Sx} (h : Rd w base top q s) (hb : Below top w w') : Rd w' base top q s := by
  obtain ⟨p, l, a, sh, h1, h2, h4, h5, h7, h8, h9⟩ := h
  exact ⟨p, l, a, sh, h1, h2, (hb.block q h2).trans h4, h5.sub hb, h7, Nat.le_trans h8 hb.size, h9⟩
theorem Rd.top {w : World} {base top q : Nat} {s : Sx} (h : Rd w base top q s) : top ≤ w.heap.size := by
  obtain ⟨p, l, a, sh, h1, h2, h4, h5, h7, h8, h9⟩ := h
  exact h8
theorem Rd.base {w : World} {base top q : Nat} {s : Sx} (h : Rd w base top q s) : base ≤ top := by
  obtain ⟨p, l, a, sh, h1, h2, _⟩ := h
  omega
theorem Rd.place {w : World} {base top q : Nat} {s : Sx} (h : Rd w base top q s) : base ≤ q ∧ q < top := by
  obtain ⟨p, l, a, sh, h1, h2, _⟩ := h
  exact ⟨h1, h2⟩
theorem Rd.short {w : World} {base top q : Nat} {s : Sx} (h : Rd w base top q s) : w.cell? ⟨q, 1, none⟩ = some (.bool (decide (s = none))) := by
  obtain ⟨p, l, a, sh, h1, h2, h4, h5, h7, h8, h9⟩ := h
  rw [(cur_cells h4).2.1]
  cases sh
  · subst h9; rfl
  · subst h9; rfl
theorem CurTop.set {w : World} {base top p q k : Nat} {l : List UInt8} {a : Nat} {v : Value} {cs : Array Value} (h : CurTop w base top p l a) (hq : w.heap[q]? = some (.cells cs 88 (0, 0))) : CurTop (w.setCell ⟨q, k, none⟩ v) base top p l a := by
  have hpq : p ≠ q := by
    rintro rfl
    obtain ⟨_, _, A, n, c, h3, _⟩ := h.1
    rw [h3] at hq
    simp at hq
  have hp : (w.setCell ⟨q, k, none⟩ v).heap[p]? = w.heap[p]? := far_blk hpq
  obtain ⟨⟨h1, h2, A, n, c, h3, h4⟩, h5, h6⟩ := h
  exact ⟨⟨h1, h2, A, n, c, hp.trans h3, h4.kept (grown_set w q k v) (own_off h4 hq (by decide))⟩, h5, fun A n c e => h6 A n c (hp.symm.trans e)⟩
/-- what Number hands back; the cursor stays below the top -/
def NumPostT (w : World) (base top p : Nat) (l : List UInt8) (a : Nat) (o d : Int) (e : Ending) (w' : World) : Prop :=
  e = .returned (.tuple #[.int .u64 (getV o l l.length a d : Nat), .int .i64 (getE o l.length a d)]) ∧ CurTop w' base top p l (numN o l.length a d) ∧ w.grownBy w' (some p)
set_option maxRecDepth 100000 in
theorem NumberT_any (p : Nat) (base top : Nat) (l : List UInt8) (a : Nat) (o d : Int) (w : World) (h : CurTop w base top p l a) (hl : l.length ≤ 140737488355328) :
    Calls Tryd.prog 66 #[.pointer (some ⟨p, 0, none⟩), .int .i64 o, .int .i64 d] w (NumPostT w base top p l a o d) := by
  have HC := Lib.hid h
  have ha := h.1.len
  obtain ⟨hbp, _, A, n, c, h3, h4⟩ := HC.out.1
  obtain ⟨c0, c1, f0, f1⟩ := cur_cells h3
  have hlen : l.length = n := by have := h4.1; rw [length_bv] at this; omega
  subst hlen
  have HR := Lib.hid (RB.of_own h4)
  have HQ := Lib.hid (fun W (hW : W.heap = w.heap) => Get_any o A l.length c l (a : Int) d W _ (RB.of_own (show W.ownsRow base 5 1 (.slice A l.length c) l.length (bv l) from ⟨h4.1, by rw [hW]; exact h4.2⟩)) hl (by omega))
  clear h h3 h4
  by_cases h0 : getE o l.length (a : Int) d = 0
  · have E3 := Lib.hid (show numN o l.length a d = a + d.toNat by simp [numN, h0])
    have hd : okW o d = true ∧ (a : Int) + d ≤ l.length := by
      unfold getE at h0
      split at h0
      · exact absurd h0 (by decide)
      · rename_i hh
        split at h0
        · exact absurd h0 (by decide)
        · exact ⟨by simpa using fun e => hh (.inl e), by omega⟩
    obtain ⟨_, d1, d2⟩ := okW_yes hd.1
    have hd2 := hd.2
    obtain ⟨dn, rfl⟩ := Int.eq_ofNat_of_zero_le (show 0 ≤ d by omega)
    have t1 : (getE o l.length (a : Int) (dn : Int) != 0) = false := by simp [h0]
    have HV := Lib.hid h0
    rw [h0] at HQ
    unfold NumPostT
    rw [HV.out, E3.out]
    generalize getV o l l.length (a : Int) (dn : Int) = v at *
    clear h0 hd t1
    go_enter Tryd.func66, Tryd.ntmps66
    go_wp2_with fail
    go_quiet ((go_at_call 76; exact GetPost.quiet (HQ.out _ rfl)))
    go_wp2
    go_ret2
    refine ⟨rfl, ?_, (grown_drewN w _ _).trans (grown_set _ p 1 _)⟩
    have hst := CurTop.step (show CurTop (w.drewN nq) base top p l a from HC.out) (a + dn) (by omega)
    rw [show ((a + dn : Nat) : Int) = (a : Int) + (dn : Int) by omega] at hst
    exact hst
  · have t1 : (getE o l.length (a : Int) d != 0) = true := by simp [h0]
    have E3 := Lib.hid (show numN o l.length a d = a by simp [numN, h0])
    have EV := Lib.hid (show getV o l l.length a d = 0 by simp [getV, h0])
    rw [EV.out] at HQ
    unfold NumPostT
    rw [EV.out, E3.out]
    generalize getE o l.length (a : Int) d = ge at *
    clear h0
    go_enter Tryd.func66, Tryd.ntmps66
    go_wp2_with fail
    go_quiet ((go_at_call 76; exact GetPost.quiet (HQ.out _ rfl)))
    go_wp2
    go_ret2
    exact ⟨by simp, HC.out, grown_drewN _ _ _⟩
theorem beV_val : ∀ m : List UInt8, beV m = val (fun j => by8 m (m.length - 1 - j)) m.length
  | [] => rfl
  | x :: t => by
    show x.toNat * 256 ^ t.length + beV t = val _ (t.length + 1)
    rw [beV_val t]
    show _ = val _ t.length + by8 (x :: t) (t.length + 1 - 1 - t.length) * 256 ^ t.length
    rw [show t.length + 1 - 1 - t.length = 0 by omega, show by8 (x :: t) 0 = x.toNat from rfl, Nat.add_comm]
    congr 1
    refine val_congr _ fun j hj => ?_
    rw [List.length_cons, show t.length + 1 - 1 - j = (t.length - 1 - j) + 1 by omega]
    rfl
theorem getE_two {l : List UInt8} {a d : Nat} (h1 : 1 ≤ d) (h2 : d ≤ 8) (ha : a ≤ l.length) : getE 2 l.length (a : Int) (d : Int) = if d ≤ (l.drop a).length then 0 else 2 := by
  unfold getE
  have ho : okW 2 (d : Int) = true := by unfold okW; rw [decide_eq_true_eq]; omega
  rw [if_neg (by rw [ho]; simp), List.length_drop]
  by_cases h : d ≤ l.length - a
  · rw [if_pos h, if_neg (by omega)]
  · rw [if_neg h, if_pos (by omega)]
theorem getV_two {l : List UInt8} {a d : Nat} (h1 : 1 ≤ d) (h2 : d ≤ 8) (ha : a ≤ l.length) : getV 2 l l.length (a : Int) (d : Int) = nV d (some (l.drop a)) := by
  rw [nV_some]
  unfold getV
  rw [getE_two h1 h2 ha]
  by_cases h : d ≤ (l.drop a).length
  · rw [if_pos h, if_pos rfl, if_pos h, Int.toNat_natCast, Int.toNat_natCast, beV_val, List.length_take, Nat.min_eq_left h, dig_two]
    refine val_congr _ fun j hj => ?_
    unfold by8
    rw [List.getD_eq_getElem?_getD, List.getD_eq_getElem?_getD, List.getElem?_take, if_pos (by omega), List.getElem?_drop, show a + (d - 1 - j) = a + d - 1 - j by omega]
  · rw [if_neg h, if_neg (by decide), if_neg h]
theorem numN_two {l : List UInt8} {a d : Nat} (h1 : 1 ≤ d) (h2 : d ≤ 8) (ha : a ≤ l.length) (h : d ≤ (l.drop a).length) : numN 2 l.length a (d : Int) = a + d := by
  unfold numN
  rw [getE_two h1 h2 ha, if_pos h, if_pos rfl, Int.toNat_natCast]
set_option maxRecDepth 100000 in
set_option maxHeartbeats 2000000 in
theorem number_any (q : Nat) (d : Nat) (D : Int) (hD : D = (d : Int)) (h1 : 1 ≤ d) (h4 : d ≤ 4) (w : World) (base top : Nat) (s : Sx) (h : Rd w base top q s) :
    Calls Tryd.prog 41 #[.pointer (some ⟨q, 0, none⟩), .int .i64 D] w (fun e w' => e = .returned (.int .i64 (nV d s : Int)) ∧ Rd w' base top q (nS d s) ∧ Sto base top w w') := by
  subst hD
  have hlt := nV_lt d s
  have hbt := h.base
  have htw := h.top
  obtain ⟨p, l, a, sh, g1, g2, g4, g5, g7, g8, g9⟩ := h
  obtain ⟨c0, c1, _, f1⟩ := cur_cells g4
  have h256 : 256 ^ d ≤ 4294967296 := Nat.le_trans (Nat.pow_le_pow_right (by decide) h4) (by decide)
  rcases sh with _ | _
  · have hs : s = some (l.drop a) := g9
    subst hs
    have ha := g5.1.len
    have HN := Lib.hid (NumberT_any p base top l a 2 (d : Int) w g5 g7)
    have HG4 := Lib.hid g4
    have hp : base ≤ p := g5.1.1
    have hpt : p < top := g5.2.1
    have hpq : q ≠ p := by
      rintro rfl
      obtain ⟨_, _, A, n, c, h3, _⟩ := g5.1
      rw [h3] at g4
      simp at g4
    by_cases hd : d ≤ (l.drop a).length
    · have ev := getV_two (l := l) h1 (by omega) ha
      have ee := getE_two (l := l) h1 (by omega) ha
      have en := numN_two h1 (by omega) ha hd
      rw [if_pos hd] at ee
      obtain ⟨v, hv⟩ : ∃ v, nV d (some (l.drop a)) = v := ⟨_, rfl⟩
      rw [hv] at ev hlt ⊢
      unfold NumPostT at HN
      rw [ev, ee, en] at HN
      have hds : nS d (some (l.drop a)) = some (l.drop (a + d)) := by rw [nS_some, if_pos hd, List.drop_drop]
      rw [hds]
      have hv63 : (v : Int) ≤ 4294967295 := by omega
      clear ev ee en hv hds g4 g5 g9 hlt h256
      go_enter Tryd.func41, Tryd.ntmps41
      go_wp2_with fail
      refine HN.out.mono ?_
      rintro e w1 ⟨rfl, hc1, hg1⟩
      have HC1 := Lib.hid hc1
      have HG1 := Lib.hid hg1
      clear hc1 hg1 HN c0 c1 f1
      go_wp2_with fail
      go_ret
      have hq1 := HG1.out.block q (by omega) (fun e => by injection e with e; omega)
      exact ⟨rfl, ⟨p, l, a + d, false, g1, g2, hq1.trans HG4.out, HC1.out, g7, Nat.le_trans g8 HG1.out.size, rfl⟩, Sto.of_grown HG1.out hp hpt (by omega)⟩
    · have ev := getV_two (l := l) h1 (by omega) ha
      have ee := getE_two (l := l) h1 (by omega) ha
      rw [if_neg hd] at ee
      rw [nV_some, if_neg hd] at ev
      have en : numN 2 l.length a (d : Int) = a := by unfold numN; rw [ee]; rfl
      unfold NumPostT at HN
      rw [ev, ee, en] at HN
      rw [nV_some, if_neg hd, nS_some, if_neg hd]
      clear ev ee en g4 g5 g9 hlt h256
      go_enter Tryd.func41, Tryd.ntmps41
      go_wp2_with fail
      refine HN.out.mono ?_
      rintro e w1 ⟨rfl, hc1, hg1⟩
      have HC1 := Lib.hid hc1
      have HG1 := Lib.hid hg1
      have hq1 := Lib.hid ((hg1.block q (by omega) (fun e => by injection e with e; omega)).trans HG4.out)
      have f1' : w1.frozen? ⟨q, 1, none⟩ = false := (cur_cells hq1.out).2.2.2
      have k1' : w1.cell? ⟨q, 1, none⟩ = some (.bool false) := (cur_cells hq1.out).2.1
      clear hc1 hg1 HN c0 c1 f1
      go_wp2_with fail
      go_ret
      have hs1 := Nat.le_trans g8 HG1.out.size
      exact ⟨rfl, ⟨p, l, a, true, g1, g2, cur_set hq1.out _, HC1.out.set hq1.out, g7, by rw [World.size_setCell]; exact hs1, rfl⟩, (Sto.of_grown HG1.out hp hpt (by omega)).trans (Sto.of_grown (grown_set w1 q 1 _) g1 g2 (by omega))⟩
  · have hs : s = none := g9
    subst hs
    have HR := Lib.hid (show Rd w base top q none from ⟨p, l, a, true, g1, g2, g4, g5, g7, g8, rfl⟩)
    clear g4 g5 g9 hlt h256
    go_enter Tryd.func41, Tryd.ntmps41
    go_wp2_with fail
    go_ret
    exact ⟨rfl, HR.out, Sto.refl _ _ _⟩
set_option maxRecDepth 100000 in
set_option maxHeartbeats 2000000 in
theorem piece_any (q : Nat) (d : Nat) (D : Int) (hD : D = (d : Int)) (w : World) (base top : Nat) (s : Sx) (h : Rd w base top q s) :
    Calls Tryd.prog 67 #[.pointer (some ⟨q, 0, none⟩), .int .i64 D] w (fun e w' => ∃ A n c, e = .returned (.slice A n c) ∧ (pV d s).length = n ∧ w'.ownsRow w.heap.size 5 1 (.slice A n c) n (bv (pV d s)) ∧ Rd w' base top q (nS d s) ∧ Sto base top w w') := by
  subst hD
  have hbt := h.base
  have htw := h.top
  obtain ⟨p, l, a, sh, g1, g2, g4, g5, g7, g8, g9⟩ := h
  obtain ⟨c0, c1, _, f1⟩ := cur_cells g4
  rcases sh with _ | _
  · have hs : s = some (l.drop a) := g9
    subst hs
    have ha := g5.1.len
    have HN := Lib.hid (TakeT_any p base top l a (d : Int) w g5 g7)
    have HG4 := Lib.hid g4
    have hp : base ≤ p := g5.1.1
    have hpt : p < top := g5.2.1
    have hpq : q ≠ p := by
      rintro rfl
      obtain ⟨_, _, A, n, c, h3, _⟩ := g5.1
      rw [h3] at g4
      simp at g4
    unfold TakePostT at HN
    have hld : (l.drop a).length = l.length - a := List.length_drop
    by_cases hd : d ≤ (l.drop a).length
    · have ee : takE l.length a (d : Int) = 0 := by simp only [takE]; rw [if_neg (by omega), if_neg (by omega)]
      have el : takL l a (d : Int) = pV d (some (l.drop a)) := by rw [pV_some, if_pos hd, takL, ee]; simp
      have en : takN l.length a (d : Int) = a + d := by simp [takN, ee]
      rw [ee, el, en] at HN
      have hds : nS d (some (l.drop a)) = some (l.drop (a + d)) := by rw [nS_some, if_pos hd, List.drop_drop]
      rw [hds]
      generalize pV d (some (l.drop a)) = pl at *
      clear ee el en hds g4 g5 g9 hd hld
      go_enter Tryd.func67, Tryd.ntmps67
      go_wp2_with fail
      refine HN.out.mono ?_
      rintro e w1 ⟨A, n, c, rfl, hn, ho, _, hc1, hg1⟩
      have HC1 := Lib.hid hc1
      have HG1 := Lib.hid hg1
      have HO := Lib.hid ho
      clear hc1 hg1 ho HN c0 c1 f1
      go_wp2_with fail
      go_ret
      have hq1 := HG1.out.block q (by omega) (fun e => by injection e with e; omega)
      exact ⟨A, n, c, rfl, hn, HO.out, ⟨p, l, a + d, false, g1, g2, hq1.trans HG4.out, HC1.out, g7, Nat.le_trans g8 HG1.out.size, rfl⟩, Sto.of_grown HG1.out hp hpt (by omega)⟩
    · have ee : takE l.length a (d : Int) = 2 := by simp only [takE]; rw [if_neg (by omega), if_pos (by omega)]
      have el : takL l a (d : Int) = [] := by simp [takL, ee]
      have en : takN l.length a (d : Int) = a := by simp [takN, ee]
      rw [ee, el, en] at HN
      rw [pV_some, if_neg hd, nS_some, if_neg hd]
      clear ee el en g4 g5 g9 hd hld
      go_enter Tryd.func67, Tryd.ntmps67
      go_wp2_with fail
      refine HN.out.mono ?_
      rintro e w1 ⟨A, n, c, rfl, hn, ho, _, hc1, hg1⟩
      have HC1 := Lib.hid hc1
      have HG1 := Lib.hid hg1
      have hq1 := Lib.hid ((hg1.block q (by omega) (fun e => by injection e with e; omega)).trans HG4.out)
      have f1' : w1.frozen? ⟨q, 1, none⟩ = false := (cur_cells hq1.out).2.2.2
      have k1' : w1.cell? ⟨q, 1, none⟩ = some (.bool false) := (cur_cells hq1.out).2.1
      clear hc1 hg1 ho HN c0 c1 f1
      go_wp2_with fail
      go_ret
      have hs1 := Nat.le_trans g8 HG1.out.size
      exact ⟨none, 0, 0, rfl, rfl, World.ownsRow_nil _ _ _ _, ⟨p, l, a, true, g1, g2, cur_set hq1.out _, HC1.out.set hq1.out, g7, by rw [World.size_setCell]; exact hs1, rfl⟩, (Sto.of_grown HG1.out hp hpt (by omega)).trans (Sto.of_grown (grown_set w1 q 1 _) g1 g2 (by omega))⟩
  · have hs : s = none := g9
    subst hs
    have HR := Lib.hid (show Rd w base top q none from ⟨p, l, a, true, g1, g2, g4, g5, g7, g8, rfl⟩)
    clear g4 g5 g9
    go_enter Tryd.func67, Tryd.ntmps67
    go_wp2_with fail
    go_ret
    exact ⟨none, 0, 0, rfl, rfl, World.ownsRow_nil _ _ _ _, HR.out, Sto.refl _ _ _⟩
end Go.Proofs.YtkmcjjoicpgjfaaDoor
/-
  Contract of reader.instrs. Conditions: the reader is the call's own; the sizes that slices can have.
-/
namespace Go.Proofs.YtkmcjjoicpgjfaaDoor
open Go Go.RowKit Go.Sh

/-- a loop's way through: what has been read, and what the rest will be -/
theorem rep_go {α : Type} {f : Sx → α × Sx} {n k : Nat} {s s' : Sx} {xs : List α} (h : rep f n s = (xs ++ (rep f (n - k) s').1, (rep f (n - k) s').2)) (hk : k < n) {r : List UInt8} (hs : s' = some r) :
    rep f n s = ((xs ++ [(f s').1]) ++ (rep f (n - (k + 1)) (f s').2).1, (rep f (n - (k + 1)) (f s').2).2) := by
  subst hs
  rw [h, show n - k = (n - (k + 1)) + 1 by omega, rep_some, List.append_assoc]
  rfl
theorem rep_end {α : Type} {f : Sx → α × Sx} {n k : Nat} {s s' : Sx} {xs : List α} (h : rep f n s = (xs ++ (rep f (n - k) s').1, (rep f (n - k) s').2)) (hk : n ≤ k ∨ s' = none) : rep f n s = (xs, s') := by
  rcases hk with hk | rfl
  · rw [h, show n - k = 0 by omega]
    show (xs ++ [], s') = _
    rw [List.append_nil]
  · rw [h, rep_none, List.append_nil]
theorem rep_start {α : Type} {f : Sx → α × Sx} {n : Nat} {s : Sx} : rep f n s = ([] ++ (rep f (n - 0) s).1, (rep f (n - 0) s).2) := rfl
def insPost (w : World) (base top q n : Nat) (s : Sx) (e : Ending) (w' : World) : Prop :=
  ∃ A m c, e = .returned (.slice A m c) ∧ (rep fI n s).1.length = m ∧ w'.ownsRow w.heap.size 33 3 (.slice A m c) m ((rep fI n s).1.map Ins.cells).flatten ∧ Rd w' base top q (rep fI n s).2 ∧ Sto base top w w'
set_option maxRecDepth 100000 in
set_option maxHeartbeats 4000000 in
theorem instrs_any (q n : Nat) (w : World) (base top : Nat) (s : Sx) (h : Rd w base top q s) (hn : n ≤ 65535) :
    Calls Tryd.prog 42 #[.pointer (some ⟨q, 0, none⟩), .int .i64 (n : Int)] w (insPost w base top q n s) := by
  have HR := Lib.hid h
  have hbt := h.base
  have htw := h.top
  have hpl := h.place
  clear h
  go_enter Tryd.func42, Tryd.ntmps42
  go_wp2_with fail
  go_loopw [5, 6, 7, 8, 9] (fun ls i _ _ _ wr => ∃ (k : Nat) (A : Option Addr) (c : Nat) (xs : List Ins) (s' : Sx), k ≤ n ∧ i = .int .i64 (k : Int) ∧ ls = .slice A k c ∧ xs.length = k ∧ wr.ownsRow w.heap.size 33 3 (.slice A k c) k (xs.map Ins.cells).flatten ∧ Rd wr base top q s' ∧ Sto base top w wr ∧ rep fI n s = (xs ++ (rep fI (n - k) s').1, (rep fI (n - k) s').2)) (fun _ i _ _ _ _ => n - (intOf i).toNat)
  case atStart => exact ⟨0, none, 0, [], s, by omega, rfl, rfl, rfl, World.ownsRow_nil _ _ _ _, HR.out, Sto.refl _ _ _, rep_start⟩
  case round =>
    obtain ⟨k, A, c, xs, s', hk, rfl, rfl, hxl, ho, hr, hst, hrep⟩ := hrel
    have HX := Lib.hid hxl
    have HO := Lib.hid ho
    have HRr := Lib.hid hr
    have HS := Lib.hid hst
    have HP := Lib.hid hrep
    have hsh := hr.short
    have hsz := hst.1.size
    clear hxl ho hr hst hrep
    by_cases hlt : k < n
    · have dk : (k : Int) < (n : Int) := by omega
      rcases s' with _ | r
      · have hsh' : wr.cell? ⟨q, 1, none⟩ = some (.bool true) := hsh
        clear hsh
        go_wp2_with fail
        go_ret
        have e := rep_end HP.out (.inr rfl)
        unfold insPost
        rw [e]
        exact ⟨A, k, c, rfl, HX.out, HO.out, HRr.out, HS.out⟩
      · have hsh' : wr.cell? ⟨q, 1, none⟩ = some (.bool false) := hsh
        clear hsh
        obtain ⟨o, ho⟩ : ∃ o, nV 1 (some r) = o := ⟨_, rfl⟩
        obtain ⟨s1, hs1⟩ : ∃ s1, nS 1 (some r) = s1 := ⟨_, rfl⟩
        obtain ⟨a, ha⟩ : ∃ a, nV 4 s1 = a := ⟨_, rfl⟩
        obtain ⟨s2, hs2⟩ : ∃ s2, nS 4 s1 = s2 := ⟨_, rfl⟩
        obtain ⟨b, hb⟩ : ∃ b, nV 2 s2 = b := ⟨_, rfl⟩
        obtain ⟨s3, hs3⟩ : ∃ s3, nS 2 s2 = s3 := ⟨_, rfl⟩
        have hf : fI (some r) = (⟨UInt8.ofNat o, sgn a, (b : Int)⟩, s3) := by
          unfold fI
          rw [hs1, ho, ha, hs2, hb, hs3]
        have lo : o < 256 := by rw [← ho]; exact nV_lt 1 _
        have la : a < 4294967296 := by rw [← ha]; exact nV_lt 4 _
        have lb : b < 65536 := by rw [← hb]; exact nV_lt 2 _
        have hP2 := rep_go HP.out hlt rfl
        rw [hf] at hP2
        have HP2 := Lib.hid hP2
        have HM := Lib.hid (number_any q 1 1 rfl (by decide) (by decide) wr base top _ HRr.out)
        rw [ho, hs1] at HM
        have HM1 := Lib.hid (fun W h => number_any q 4 4 rfl (by decide) (by decide) W base top s1 h)
        rw [ha, hs2] at HM1
        have HM2 := Lib.hid (fun W h => number_any q 2 2 rfl (by decide) (by decide) W base top s2 h)
        rw [hb, hs3] at HM2
        have HO8 := Lib.hid (show ((UInt8.ofNat o).toNat : Int) = (o : Int) by simp; omega)
        have hw8 : IntKind.u8.wrap (o : Int) = (o : Int) := by rw [IntKind.wrap_u8]; omega
        clear hP2 hf ho hs1 ha hs2 hb hs3 HP
        go_wp2_with fail
        refine HM.out.mono ?_
        rintro e w1 ⟨rfl, hr1, hst1⟩
        have HR1 := Lib.hid hr1
        have HS1 := Lib.hid (HS.out.trans hst1)
        have HO1 := Lib.hid (own_sto HO.out hst1 (by omega))
        clear hr1 hst1 HM HO HS HRr
        go_wp2_with fail
        refine (HM1.out _ HR1.out).mono ?_
        rintro e w2 ⟨rfl, hr2, hst2⟩
        have HR2 := Lib.hid hr2
        have HS2 := Lib.hid (HS1.out.trans hst2)
        have HO2 := Lib.hid (own_sto HO1.out hst2 (by omega))
        clear hr2 hst2 HM1 HO1 HS1 HR1
        go_wp2_with fail
        refine (HM2.out _ HR2.out).mono ?_
        rintro e w3 ⟨rfl, hr3, hst3⟩
        have HR3 := Lib.hid hr3
        have HS3 := Lib.hid (HS2.out.trans hst3)
        have HO3 := Lib.hid (own_sto HO2.out hst3 (by omega))
        have hz3 := HS3.out.1.size
        clear hr3 hst3 HM2 HO2 HS2 HR2 hsh'
        have hfin : ∀ (A' : Option Addr) (c' : Nat) (w4 : World) (z : Int), z = sgn a → w4.ownsRow w.heap.size 33 3 (.slice A' (k + 1) c') (k + 1) ((xs.map Ins.cells).flatten ++ [.int .u8 (o : Int), .int .i64 z, .int .i64 (b : Int)]) → (w3.alloc (.cells #[.int .u8 (o : Int), .int .i64 z, .int .i64 (b : Int)] 33)).grownBy w4 (Value.slice A k c).ownBlock →
            ∃ (xs' : List Ins) (s'' : Sx), xs'.length = k + 1 ∧ w4.ownsRow w.heap.size 33 3 (.slice A' (k + 1) c') (k + 1) (xs'.map Ins.cells).flatten ∧ Rd w4 base top q s'' ∧ Sto base top w w4 ∧ rep fI n s = (xs' ++ (rep fI (n - (k + 1)) s'').1, (rep fI (n - (k + 1)) s'').2) := by
          intro A' c' w4 z hz ho hg
          subst hz
          have hb4 : Below w.heap.size w3 w4 := ((Below.refl w.heap.size w3).alloc hz3 _).grown hg (by simp; omega) (own_drop HO3.out)
          refine ⟨xs ++ [⟨UInt8.ofNat o, sgn a, (b : Int)⟩], s3, by rw [List.length_append, HX.out]; rfl, ?_, HR3.out.sub (hb4.mono htw), HS3.out.sub hb4 (by omega), HP2.out⟩
          rw [List.map_append, List.flatten_append]
          show w4.ownsRow _ _ _ _ _ (_ ++ [.int .u8 ((UInt8.ofNat o).toNat : Int), .int .i64 (sgn a), .int .i64 (b : Int)])
          rw [HO8.out]
          exact ho
        have HF := Lib.hid hfin
        clear hfin HP2 HX HO8
        by_cases hbig : 2147483647 < a
        · have db : (2147483647 : Int) < (a : Int) := by omega
          have HZ := Lib.hid (show (a : Int) - 4294967296 = sgn a by unfold sgn; rw [if_pos hbig])
          go_wp2_with (at_builtin; refine wl_app TIn (by rfl) (.tmp 32) (.tmp 38) (by rfl) (.slice A k c) (by rfl) (some ⟨w3.heap.size, 0, none⟩) 1 1 (by rfl) w.heap.size k _ (HO3.out.alloc _) (w3.heap.size + 1) [.int .u8 (o : Int), .int .i64 ((a : Int) - 4294967296), .int .i64 (b : Int)] (Reads.lit w3 33 _ 1 3 rfl _ rfl) ?a2 ?a3 ?a4 ?a5 ?a6)
          case a2 => simp [Value.oneCell']
          case a3 => omega
          case a4 => omega
          case a5 => simp; omega
          case a6 =>
            intro A4 c4 w4 hown hg _
            obtain ⟨xs', s'', e2, e3, e4, e5, e6⟩ := HF.out A4 c4 w4 _ HZ.out hown hg
            clear hown hg
            go_wp2_with fail
            exact ⟨⟨k + 1, A4, c4, xs', s'', by omega, by go_num, rfl, e2, e3, e4, e5, e6⟩, by simp [intOf]; omega⟩
        · have db : ¬ (2147483647 : Int) < (a : Int) := by omega
          have HZ := Lib.hid (show (a : Int) = sgn a by unfold sgn; rw [if_neg hbig])
          go_wp2_with (at_builtin; refine wl_app TIn (by rfl) (.tmp 32) (.tmp 38) (by rfl) (.slice A k c) (by rfl) (some ⟨w3.heap.size, 0, none⟩) 1 1 (by rfl) w.heap.size k _ (HO3.out.alloc _) (w3.heap.size + 1) [.int .u8 (o : Int), .int .i64 (a : Int), .int .i64 (b : Int)] (Reads.lit w3 33 _ 1 3 rfl _ rfl) ?b2 ?b3 ?b4 ?b5 ?b6)
          case b2 => simp [Value.oneCell']
          case b3 => omega
          case b4 => omega
          case b5 => simp; omega
          case b6 =>
            intro A4 c4 w4 hown hg _
            obtain ⟨xs', s'', e2, e3, e4, e5, e6⟩ := HF.out A4 c4 w4 _ HZ.out hown hg
            clear hown hg
            go_wp2_with fail
            exact ⟨⟨k + 1, A4, c4, xs', s'', by omega, by go_num, rfl, e2, e3, e4, e5, e6⟩, by simp [intOf]; omega⟩
    · have dk : ¬ (k : Int) < (n : Int) := by omega
      clear hsh
      go_wp2_with fail
      go_ret
      have e := rep_end HP.out (.inl (by omega))
      unfold insPost
      rw [e]
      exact ⟨A, k, c, rfl, HX.out, HO.out, HRr.out, HS.out⟩
end Go.Proofs.YtkmcjjoicpgjfaaDoor
/-
  Contract of reader.msgs. Conditions: the reader is the call's own; the sizes that slices can have.
-/
namespace Go.Proofs.YtkmcjjoicpgjfaaDoor
open Go Go.RowKit Go.Sh

theorem obv_sto {base top base' e t m : Nat} {v : Value} {ls : List (List UInt8)} {vs : List Value} {w w' : World} (h : OBV w base' e t v m ls vs) (hs : Sto base top w w') (hb : top ≤ base') : OBV w' base' e t v m ls vs := by
  obtain ⟨h1, ho, hi, h4⟩ := h
  refine ⟨h1, own_sto ho hs hb, fun i hin => ?_, h4⟩
  obtain ⟨Ai, ni, ci, hv, hrow⟩ := hi i hin
  exact ⟨Ai, ni, ci, hv, own_sto hrow hs hb⟩
def msgPost (w : World) (base top q n : Nat) (s : Sx) (e : Ending) (w' : World) : Prop :=
  ∃ A m c vs, e = .returned (.slice A m c) ∧ OBV w' w.heap.size 5 39 (.slice A m c) m (rep fM n s).1 vs ∧ Rd w' base top q (rep fM n s).2 ∧ Sto base top w w'
set_option maxRecDepth 100000 in
set_option maxHeartbeats 4000000 in
theorem msgs_any (q n : Nat) (w : World) (base top : Nat) (s : Sx) (h : Rd w base top q s) (hn : n ≤ 65535) :
    Calls Tryd.prog 43 #[.pointer (some ⟨q, 0, none⟩), .int .i64 (n : Int)] w (msgPost w base top q n s) := by
  have HR := Lib.hid h
  have hbt := h.base
  have htw := h.top
  have hpl := h.place
  clear h
  go_enter Tryd.func43, Tryd.ntmps43
  go_wp2_with fail
  go_loopw [5, 6] (fun ls i wr => ∃ (k : Nat) (A : Option Addr) (c : Nat) (xs : List (List UInt8)) (vs : List Value) (s' : Sx), k ≤ n ∧ i = .int .i64 (k : Int) ∧ ls = .slice A k c ∧ OBV wr w.heap.size 5 39 (.slice A k c) k xs vs ∧ Rd wr base top q s' ∧ Sto base top w wr ∧ rep fM n s = (xs ++ (rep fM (n - k) s').1, (rep fM (n - k) s').2)) (fun _ i _ => n - (intOf i).toNat)
  case atStart => exact ⟨0, none, 0, [], [], s, by omega, rfl, rfl, OBV.nil _ _ _ _, HR.out, Sto.refl _ _ _, rep_start⟩
  case round =>
    obtain ⟨k, A, c, xs, vs, s', hk, rfl, rfl, ho, hr, hst, hrep⟩ := hrel
    have HO := Lib.hid ho
    have HRr := Lib.hid hr
    have HS := Lib.hid hst
    have HP := Lib.hid hrep
    have hsh := hr.short
    have hsz := hst.1.size
    clear ho hr hst hrep
    by_cases hlt : k < n
    · have dk : (k : Int) < (n : Int) := by omega
      rcases s' with _ | r
      · have hsh' : wr.cell? ⟨q, 1, none⟩ = some (.bool true) := hsh
        clear hsh
        go_wp2_with fail
        go_ret
        have e := rep_end HP.out (.inr rfl)
        unfold msgPost
        rw [e]
        exact ⟨A, k, c, vs, rfl, HO.out, HRr.out, HS.out⟩
      · have hsh' : wr.cell? ⟨q, 1, none⟩ = some (.bool false) := hsh
        clear hsh
        obtain ⟨o, ho⟩ : ∃ o, nV 2 (some r) = o := ⟨_, rfl⟩
        obtain ⟨s1, hs1⟩ : ∃ s1, nS 2 (some r) = s1 := ⟨_, rfl⟩
        obtain ⟨l, hl⟩ : ∃ l, pV o s1 = l := ⟨_, rfl⟩
        obtain ⟨s2, hs2⟩ : ∃ s2, nS o s1 = s2 := ⟨_, rfl⟩
        have hf : fM (some r) = (l, s2) := by
          unfold fM
          rw [hs1, ho, hl, hs2]
        have hP2 := rep_go HP.out hlt rfl
        rw [hf] at hP2
        have HP2 := Lib.hid hP2
        have HM := Lib.hid (number_any q 2 2 rfl (by decide) (by decide) wr base top _ HRr.out)
        rw [ho, hs1] at HM
        have HM1 := Lib.hid (fun W h => piece_any q o o rfl W base top s1 h)
        rw [hl, hs2] at HM1
        have HLT := Lib.hid HO.out.lt
        clear hP2 hf ho hs1 hl hs2 HP
        go_wp2_with fail
        refine HM.out.mono ?_
        rintro e w1 ⟨rfl, hr1, hst1⟩
        have HR1 := Lib.hid hr1
        have HS1 := Lib.hid (HS.out.trans hst1)
        have HO1 := Lib.hid (obv_sto HO.out hst1 (by omega))
        have hz1 := hst1.1.size
        clear hr1 hst1 HM HO HS HRr
        go_wp2_with fail
        refine (HM1.out _ HR1.out).mono ?_
        rintro e w2 ⟨Ai, ni, ci, rfl, hln, hown, hr2, hst2⟩
        have HR2 := Lib.hid hr2
        have HS2 := Lib.hid (HS1.out.trans hst2)
        have HO2 := Lib.hid (obv_sto HO1.out hst2 (by omega))
        have HX := Lib.hid hown
        have hz2 := HS2.out.1.size
        clear hr2 hst2 HM1 HO1 HS1 HR1 hown hsh' hln
        have hb3 := (Below.refl w2.heap.size w2).alloc (Nat.le_refl _) (.cells #[.slice Ai ni ci] 39)
        have HB3 := Lib.hid (hb3.mono hz2)
        have HO3 := Lib.hid (HO2.out.later hb3)
        have HX3 := Lib.hid (own_later HX.out hb3)
        have HV3 := Lib.hid HO3.out.2.1
        have HL3 := Lib.hid (Reads.lit w2 39 [.slice Ai ni ci] 1 1 rfl _ rfl)
        have hz3 : (w2.alloc (.cells #[.slice Ai ni ci] 39)).heap.size = w2.heap.size + 1 := by simp
        clear hb3 HO2
        go_wp2_with (at_builtin; refine wl_app TBB (by rfl) (.tmp 19) (.tmp 24) (by rfl) (.slice A k c) (by rfl) (some ⟨w2.heap.size, 0, none⟩) 1 1 (by rfl) w.heap.size k vs HV3.out (w2.heap.size + 1) [.slice Ai ni ci] HL3.out ?a2 ?a3 ?a4 ?a5 ?a6)
        case a2 => simp [Value.oneCell']
        case a3 => omega
        case a4 => omega
        case a5 => omega
        case a6 =>
          intro A4 c4 w4 hown hg _
          have hO4 := HO3.out.snoc (T := wr.heap.size) (own_base HX3.out (show w.heap.size ≤ w1.heap.size by omega)) (fun u hu k hk => (HLT.out u hu k hk).2) (fun k hk => Nat.le_trans hz1 (HX.out.lt k hk).1) (by decide) hg hown
          have hb4 := HB3.out.grown hg (by omega) (own_drop HV3.out)
          have HF := Lib.hid (And.intro hO4 (And.intro (HR2.out.sub (hb4.mono htw)) (HS2.out.sub hb4 (by omega))))
          clear hown hg hO4 hb4
          go_wp2_with fail
          exact ⟨⟨k + 1, A4, c4, xs ++ [l], vs ++ [.slice Ai ni ci], s2, by omega, by go_num, rfl, HF.out.1, HF.out.2.1, HF.out.2.2, HP2.out⟩, by simp [intOf]; omega⟩
    · have dk : ¬ (k : Int) < (n : Int) := by omega
      clear hsh
      go_wp2_with fail
      go_ret
      have e := rep_end HP.out (.inl (by omega))
      unfold msgPost
      rw [e]
      exact ⟨A, k, c, vs, rfl, HO.out, HRr.out, HS.out⟩
end Go.Proofs.YtkmcjjoicpgjfaaDoor
/-
  Contract of reader.routes. Conditions: the reader is the call's own; the sizes that slices can have.
-/
namespace Go.Proofs.YtkmcjjoicpgjfaaDoor
open Go Go.RowKit Go.Sh

theorem ort_sto {base top base' m : Nat} {v : Value} {rs : List (List Sp)} {vs : List Value} {w w' : World} (h : ORt w base' v m rs vs) (hs : Sto base top w w') (hb : top ≤ base') : ORt w' base' v m rs vs := by
  obtain ⟨h1, ho, hi⟩ := h
  refine ⟨h1, own_sto ho hs hb, fun i hin => ?_⟩
  obtain ⟨Ai, ni, ci, hv, hrow, hl⟩ := hi i hin
  exact ⟨Ai, ni, ci, hv, own_sto hrow hs hb, hl⟩
def rtPost (w : World) (base top q n : Nat) (s : Sx) (e : Ending) (w' : World) : Prop :=
  ∃ A m c vs, e = .returned (.slice A m c) ∧ ORt w' w.heap.size (.slice A m c) m (rep fR n s).1 vs ∧ Rd w' base top q (rep fR n s).2 ∧ Sto base top w w'
set_option maxRecDepth 100000 in
set_option maxHeartbeats 4000000 in
theorem routes_any (q n : Nat) (w : World) (base top : Nat) (s : Sx) (h : Rd w base top q s) (hn : n ≤ 65535) :
    Calls Tryd.prog 44 #[.pointer (some ⟨q, 0, none⟩), .int .i64 (n : Int)] w (rtPost w base top q n s) := by
  have HR := Lib.hid h
  have hbt := h.base
  have htw := h.top
  have hpl := h.place
  clear h
  go_enter Tryd.func44, Tryd.ntmps44
  go_wp2_with fail
  go_loopw [5, 6, 7, 8, 9, 10, 11] (fun ls i _ _ _ _ _ wr => ∃ (k : Nat) (A : Option Addr) (c : Nat) (xs : List (List Sp)) (vs : List Value) (s' : Sx), k ≤ n ∧ i = .int .i64 (k : Int) ∧ ls = .slice A k c ∧ ORt wr w.heap.size (.slice A k c) k xs vs ∧ Rd wr base top q s' ∧ Sto base top w wr ∧ rep fR n s = (xs ++ (rep fR (n - k) s').1, (rep fR (n - k) s').2)) (fun _ i _ _ _ _ _ _ => n - (intOf i).toNat)
  case atStart => exact ⟨0, none, 0, [], [], s, by omega, rfl, rfl, ORt.nil _ _, HR.out, Sto.refl _ _ _, rep_start⟩
  case round =>
    obtain ⟨k, A, c, xs, vs, s', hk, rfl, rfl, ho, hr, hst, hrep⟩ := hrel
    have HO := Lib.hid ho
    have HRr := Lib.hid hr
    have HS := Lib.hid hst
    have HP := Lib.hid hrep
    have hsh := hr.short
    have hsz := hst.1.size
    clear ho hr hst hrep
    by_cases hlt : k < n
    · have dk : (k : Int) < (n : Int) := by omega
      rcases s' with _ | r
      · have hsh' : wr.cell? ⟨q, 1, none⟩ = some (.bool true) := hsh
        clear hsh
        go_wp2_with fail
        go_ret
        have e := rep_end HP.out (.inr rfl)
        unfold rtPost
        rw [e]
        exact ⟨A, k, c, vs, rfl, HO.out, HRr.out, HS.out⟩
      · have hsh' : wr.cell? ⟨q, 1, none⟩ = some (.bool false) := hsh
        clear hsh
        obtain ⟨o, ho⟩ : ∃ o, nV 1 (some r) = o := ⟨_, rfl⟩
        obtain ⟨s1, hs1⟩ : ∃ s1, nS 1 (some r) = s1 := ⟨_, rfl⟩
        have lo : o < 256 := by rw [← ho]; exact nV_lt 1 _
        have hf : fR (some r) = rep fT o s1 := by
          unfold fR
          rw [hs1, ho]
        have hP2 := rep_go HP.out hlt rfl
        rw [hf] at hP2
        have HP2 := Lib.hid hP2
        have HM := Lib.hid (number_any q 1 1 rfl (by decide) (by decide) wr base top _ HRr.out)
        rw [ho, hs1] at HM
        clear hP2 hf ho hs1 HP
        go_wp2_with fail
        refine HM.out.mono ?_
        rintro e w1 ⟨rfl, hr1, hst1⟩
        have HR1 := Lib.hid hr1
        have HS1 := Lib.hid (HS.out.trans hst1)
        have HO1 := Lib.hid (ort_sto HO.out hst1 (by omega))
        have hz1 := hst1.1.size
        clear hr1 hst1 HM HO HS HRr hsh'
        go_wp2_with fail
        go_loopw [7, 8, 9, 10, 11] (fun ls lf _ _ _ wi => ∃ (j m : Nat) (A' : Option Addr) (c' : Nat) (ys : List Sp) (t' : Sx), j + m = o ∧ lf = .int .i64 (m : Int) ∧ ls = .slice A' j c' ∧ ys.length = j ∧ wi.ownsRow w1.heap.size 66 3 (.slice A' j c') j (spv ys) ∧ Rd wi base top q t' ∧ Sto base top w1 wi ∧ rep fT o s1 = (ys ++ (rep fT (o - j) t').1, (rep fT (o - j) t').2)) (fun _ lf _ _ _ _ => (intOf lf).toNat)
        case atStart => exact ⟨0, o, none, 0, [], s1, by omega, rfl, rfl, rfl, World.ownsRow_nil _ _ _ _, HR1.out, Sto.refl _ _ _, rep_start⟩
        case round =>
          obtain ⟨j, m, A', c', ys, t', hjm, rfl, rfl, hyl, ho2, hr2, hst2, hrep2⟩ := hrel
          have HYL := Lib.hid hyl
          have HO2 := Lib.hid ho2
          have HR2 := Lib.hid hr2
          have HS2 := Lib.hid hst2
          have HQ := Lib.hid hrep2
          have hsh2 := hr2.short
          have hsz2 := hst2.1.size
          clear ho2 hr2 hst2 hrep2 hyl
          have HOw := Lib.hid (ort_sto HO1.out HS2.out (by omega))
          have HSw := Lib.hid (HS1.out.trans HS2.out)
          clear HO1 HS1 HR1
          /- the route is put behind the others -/
          have hfin : rep fT o s1 = (ys, t') → ∀ (A8 : Option Addr) (c8 : Nat) (w8 : World), w8.ownsRow w.heap.size 40 1 (.slice A8 (k + 1) c8) (k + 1) (vs ++ [.slice A' j c']) → (wr.alloc (.cells #[.slice A' j c'] 40)).grownBy w8 (Value.slice A k c).ownBlock →
              ∃ (xs' : List (List Sp)) (vs' : List Value) (s'' : Sx), ORt w8 w.heap.size (.slice A8 (k + 1) c8) (k + 1) xs' vs' ∧ Rd w8 base top q s'' ∧ Sto base top w w8 ∧ rep fR n s = (xs' ++ (rep fR (n - (k + 1)) s'').1, (rep fR (n - (k + 1)) s'').2) := by
            intro hend A8 c8 w8 hown hg
            have hba := (Below.refl wr.heap.size wr).alloc (Nat.le_refl _) (.cells #[.slice A' j c'] 40)
            have hb8 : Below w.heap.size wr w8 := (hba.mono (by omega)).grown hg (by simp; omega) (own_drop HOw.out.2.1)
            have hP := HP2.out
            rw [hend] at hP
            exact ⟨xs ++ [ys], vs ++ [.slice A' j c'], t', (HOw.out.later hba).snoc (own_later (own_base HO2.out (by omega)) hba) HYL.out hg hown, HR2.out.sub (hb8.mono htw), HSw.out.sub hb8 (by omega), hP⟩
          have HF := Lib.hid hfin
          have HL3 := Lib.hid (Reads.lit wr 40 [.slice A' j c'] 1 1 rfl _ rfl)
          have HV3 := Lib.hid ((HOw.out.2.1).alloc (.cells #[.slice A' j c'] 40))
          clear hfin
          rcases m with _ | m
          · clear hsh2
            have HE := Lib.hid (rep_end HQ.out (.inl (by omega)))
            go_wp2_with (at_builtin; refine wl_app TSS (by rfl) (.tmp 53) (.tmp 55) (by rfl) (.slice A k c) (by rfl) (some ⟨wr.heap.size, 0, none⟩) 1 1 (by rfl) w.heap.size k vs HV3.out (wr.heap.size + 1) [.slice A' j c'] HL3.out ?a2 ?a3 ?a4 ?a5 ?a6)
            case a2 => simp [Value.oneCell']
            case a3 => omega
            case a4 => omega
            case a5 => simp; omega
            case a6 =>
              intro A8 c8 w8 hown hg _
              obtain ⟨xs', vs', s'', e3, e4, e5, e6⟩ := HF.out HE.out A8 c8 w8 hown hg
              clear hown hg
              go_wp2_with fail
              exact ⟨⟨k + 1, A8, c8, xs', vs', s'', by omega, by go_num, rfl, e3, e4, e5, e6⟩, by simp [intOf]; omega⟩
          · have dm : (0 : Int) < ((m + 1 : Nat) : Int) := by omega
            rcases t' with _ | r2
            · have hsh2' : wr.cell? ⟨q, 1, none⟩ = some (.bool true) := hsh2
              have HE := Lib.hid (rep_end HQ.out (.inr rfl))
              clear hsh2
              go_wp2_with (at_builtin; refine wl_app TSS (by rfl) (.tmp 53) (.tmp 55) (by rfl) (.slice A k c) (by rfl) (some ⟨wr.heap.size, 0, none⟩) 1 1 (by rfl) w.heap.size k vs HV3.out (wr.heap.size + 1) [.slice A' j c'] HL3.out ?b2 ?b3 ?b4 ?b5 ?b6)
              case b2 => simp [Value.oneCell']
              case b3 => omega
              case b4 => omega
              case b5 => simp; omega
              case b6 =>
                intro A8 c8 w8 hown hg _
                obtain ⟨xs', vs', s'', e3, e4, e5, e6⟩ := HF.out HE.out A8 c8 w8 hown hg
                clear hown hg
                go_wp2_with fail
                exact ⟨⟨k + 1, A8, c8, xs', vs', s'', by omega, by go_num, rfl, e3, e4, e5, e6⟩, by simp [intOf]; omega⟩
            · have hsh2' : wr.cell? ⟨q, 1, none⟩ = some (.bool false) := hsh2
              clear hsh2 HF HL3 HV3 HOw HSw
              have hlt2 : j < o := by omega
              obtain ⟨o1, ho1⟩ : ∃ o1, nV 1 (some r2) = o1 := ⟨_, rfl⟩
              obtain ⟨t1, ht1⟩ : ∃ t1, nS 1 (some r2) = t1 := ⟨_, rfl⟩
              obtain ⟨l, hl⟩ : ∃ l, pV o1 t1 = l := ⟨_, rfl⟩
              obtain ⟨t2, ht2⟩ : ∃ t2, nS o1 t1 = t2 := ⟨_, rfl⟩
              obtain ⟨dl, hdl⟩ : ∃ dl, nV 4 t2 = dl := ⟨_, rfl⟩
              obtain ⟨t3, ht3⟩ : ∃ t3, nS 4 t2 = t3 := ⟨_, rfl⟩
              obtain ⟨fl, hfl⟩ : ∃ fl, nV 1 t3 = fl := ⟨_, rfl⟩
              obtain ⟨t4, ht4⟩ : ∃ t4, nS 1 t3 = t4 := ⟨_, rfl⟩
              have hft : fT (some r2) = (⟨⟨l.toArray⟩, (dl : Int), (fl : Int)⟩, t4) := by
                unfold fT
                rw [ht1, ho1, hl, ht2, hdl, ht3, hfl, ht4]
              have hQ2 := rep_go HQ.out hlt2 rfl
              rw [hft] at hQ2
              have HQ2 := Lib.hid hQ2
              have HM := Lib.hid (number_any q 1 1 rfl (by decide) (by decide) wr base top _ HR2.out)
              rw [ho1, ht1] at HM
              have HM1 := Lib.hid (fun W h => piece_any q o1 o1 rfl W base top t1 h)
              rw [hl, ht2] at HM1
              have HM2 := Lib.hid (fun W h => number_any q 4 4 rfl (by decide) (by decide) W base top t2 h)
              rw [hdl, ht3] at HM2
              have HM3 := Lib.hid (fun W h => number_any q 1 1 rfl (by decide) (by decide) W base top t3 h)
              rw [hfl, ht4] at HM3
              clear hQ2 hft ho1 ht1 hl ht2 hdl ht3 hfl ht4 HQ
              go_wp2_with fail
              refine HM.out.mono ?_
              rintro e w2 ⟨rfl, hr3, hst3⟩
              have HR3 := Lib.hid hr3
              have HS3 := Lib.hid (HS2.out.trans hst3)
              have HO3 := Lib.hid (own_sto HO2.out hst3 (by omega))
              clear hr3 hst3 HM HR2 HS2 HO2
              go_wp2_with fail
              refine (HM1.out _ HR3.out).mono ?_
              rintro e w3 ⟨Ai, ni, ci, rfl, hln, hown, hr4, hst4⟩
              have HR4 := Lib.hid hr4
              have HS4 := Lib.hid (HS3.out.trans hst4)
              have HO4 := Lib.hid (own_sto HO3.out hst4 (by omega))
              have HRB := Lib.hid (RB.of_own hown)
              clear hr4 hst4 HM1 HR3 HS3 HO3 hown hln
              go_wp2_with (refine wl_str Tryd.underlying39 Tryd.underlying5 Tryd.underlying9 rfl (.tmp 40) rfl Ai ni ci rfl w3.heap.size l HRB.out ?_)
              generalize (⟨l.toArray⟩ : ByteArray) = nm at *
              clear HRB
              go_wp2_with fail
              refine (HM2.out _ HR4.out).mono ?_
              rintro e w4 ⟨rfl, hr5, hst5⟩
              have HR5 := Lib.hid hr5
              have HS5 := Lib.hid (HS4.out.trans hst5)
              have HO5 := Lib.hid (own_sto HO4.out hst5 (by omega))
              clear hr5 hst5 HM2 HR4 HS4 HO4
              go_wp2_with fail
              refine (HM3.out _ HR5.out).mono ?_
              rintro e w5 ⟨rfl, hr6, hst6⟩
              have HR6 := Lib.hid hr6
              have HS6 := Lib.hid (HS5.out.trans hst6)
              have HO6 := Lib.hid (own_sto HO5.out hst6 (by omega))
              have hz6 := HS6.out.1.size
              clear hr6 hst6 HM3 HR5 HS5 HO5
              have HL6 := Lib.hid (Reads.lit w5 66 [.string nm, .int .i64 (dl : Int), .int .i64 (fl : Int)] 1 3 rfl _ rfl)
              have HV6 := Lib.hid (HO6.out.alloc (.cells #[.string nm, .int .i64 (dl : Int), .int .i64 (fl : Int)] 66))
              have lj : j + 1 ≤ 256 := by omega
              go_wp2_with (at_builtin; refine wl_app TSt (by rfl) (.tmp 46) (.tmp 51) (by rfl) (.slice A' j c') (by rfl) (some ⟨w5.heap.size, 0, none⟩) 1 1 (by rfl) w1.heap.size j _ HV6.out (w5.heap.size + 1) [.string nm, .int .i64 (dl : Int), .int .i64 (fl : Int)] HL6.out ?c2 ?c3 ?c4 ?c5 ?c6)
              case c2 => simp [Value.oneCell']
              case c3 => omega
              case c4 => omega
              case c5 => simp; omega
              case c6 =>
                intro A9 c9 w9 hown hg _
                have hb9 : Below w1.heap.size w5 w9 := ((Below.refl w1.heap.size w5).alloc hz6 _).grown hg (by simp; omega) (own_drop HO6.out)
                have hown9 : w9.ownsRow w1.heap.size 66 3 (.slice A9 (j + 1) c9) (j + 1) (spv (ys ++ [⟨nm, (dl : Int), (fl : Int)⟩])) := by
                  unfold spv
                  rw [List.map_append, List.flatten_append]
                  exact hown
                have HF := Lib.hid (And.intro hown9 (And.intro (HR6.out.sub (hb9.mono (by omega))) (HS6.out.sub hb9 (by omega))))
                clear hown hg hb9 hown9
                go_wp2_with fail
                exact ⟨⟨j + 1, m, A9, c9, ys ++ [⟨nm, (dl : Int), (fl : Int)⟩], t4, by omega, by go_num, rfl, by rw [List.length_append, HYL.out]; rfl, HF.out.1, HF.out.2.1, HF.out.2.2, HQ2.out⟩, by simp [intOf]⟩
    · have dk : ¬ (k : Int) < (n : Int) := by omega
      clear hsh
      go_wp2_with fail
      go_ret
      have e := rep_end HP.out (.inl (by omega))
      unfold rtPost
      rw [e]
      exact ⟨A, k, c, vs, rfl, HO.out, HRr.out, HS.out⟩
end Go.Proofs.YtkmcjjoicpgjfaaDoor
namespace Go.Proofs.YtkmcjjoicpgjfaaDoor
open Go Go.RowKit Go.Sh

theorem osn_sto {base top base' m : Nat} {v : Value} {ss : List Snd} {css : List (List Value)} {w w' : World} (h : OSn w base' v m ss css) (hs : Sto base top w w') (hb : top ≤ base') : OSn w' base' v m ss css := by
  obtain ⟨h1, h2, h3, ho, hi⟩ := h
  refine ⟨h1, h2, h3, own_sto ho hs hb, fun i hin => ?_⟩
  obtain ⟨Ai, ni, ci, hv, hrow, hl⟩ := hi i hin
  exact ⟨Ai, ni, ci, hv, own_sto hrow hs hb, hl⟩
def snPost (w : World) (base top q n : Nat) (s : Sx) (e : Ending) (w' : World) : Prop :=
  ∃ A m c css, e = .returned (.slice A m c) ∧ OSn w' w.heap.size (.slice A m c) m (rep fS n s).1 css ∧ Rd w' base top q (rep fS n s).2 ∧ Sto base top w w'
theorem fN_small {n : Nat} {s : Sx} : ∀ z ∈ (rep fN n s).1, 0 ≤ z ∧ z ≤ 255 := by
  induction n generalizing s with
  | zero => intro z hz; cases hz
  | succ n ih =>
    intro z hz
    rcases s with _ | r
    · cases hz
    · rw [rep_some] at hz
      rcases List.mem_cons.1 hz with rfl | h
      · have := nV_lt 1 (some r)
        show 0 ≤ ((nV 1 (some r) : Nat) : Int) ∧ _
        have h2 : (fN (some r)).1 = ((nV 1 (some r) : Nat) : Int) := rfl
        rw [h2]
        omega
      · exact ih z h
set_option maxRecDepth 100000 in
set_option maxHeartbeats 4000000 in
theorem sends_any (q n : Nat) (w : World) (base top : Nat) (s : Sx) (h : Rd w base top q s) (hn : n ≤ 65535) :
    Calls Tryd.prog 45 #[.pointer (some ⟨q, 0, none⟩), .int .i64 (n : Int)] w (snPost w base top q n s) := by
  have HR := Lib.hid h
  have hbt := h.base
  have htw := h.top
  have hpl := h.place
  clear h
  go_enter Tryd.func45, Tryd.ntmps45
  go_wp2_with fail
  go_loopw [5, 6, 7, 8] (fun ls i _ _ wr => ∃ (k : Nat) (A : Option Addr) (c : Nat) (xs : List Snd) (css : List (List Value)) (s' : Sx), k ≤ n ∧ i = .int .i64 (k : Int) ∧ ls = .slice A k c ∧ OSn wr w.heap.size (.slice A k c) k xs css ∧ Rd wr base top q s' ∧ Sto base top w wr ∧ rep fS n s = (xs ++ (rep fS (n - k) s').1, (rep fS (n - k) s').2)) (fun _ i _ _ _ => n - (intOf i).toNat)
  case atStart => exact ⟨0, none, 0, [], [], s, by omega, rfl, rfl, OSn.nil _ _, HR.out, Sto.refl _ _ _, rep_start⟩
  case round =>
    obtain ⟨k, A, c, xs, css, s', hk, rfl, rfl, ho, hr, hst, hrep⟩ := hrel
    have HO := Lib.hid ho
    have HRr := Lib.hid hr
    have HS := Lib.hid hst
    have HP := Lib.hid hrep
    have hsh := hr.short
    have hsz := hst.1.size
    clear ho hr hst hrep
    by_cases hlt : k < n
    · have dk : (k : Int) < (n : Int) := by omega
      rcases s' with _ | r
      · have hsh' : wr.cell? ⟨q, 1, none⟩ = some (.bool true) := hsh
        clear hsh
        go_wp2_with fail
        go_ret
        have e := rep_end HP.out (.inr rfl)
        unfold snPost
        rw [e]
        exact ⟨A, k, c, css, rfl, HO.out, HRr.out, HS.out⟩
      · have hsh' : wr.cell? ⟨q, 1, none⟩ = some (.bool false) := hsh
        clear hsh
        obtain ⟨mg, hmg⟩ : ∃ mg, nV 1 (some r) = mg := ⟨_, rfl⟩
        obtain ⟨s1, hs1⟩ : ∃ s1, nS 1 (some r) = s1 := ⟨_, rfl⟩
        obtain ⟨o, ho⟩ : ∃ o, nV 1 s1 = o := ⟨_, rfl⟩
        obtain ⟨s2, hs2⟩ : ∃ s2, nS 1 s1 = s2 := ⟨_, rfl⟩
        have lm : mg < 256 := by rw [← hmg]; exact nV_lt 1 _
        have lo : o < 256 := by rw [← ho]; exact nV_lt 1 _
        have hf : fS (some r) = (⟨(mg : Int), (rep fN o s2).1, (nV 1 (rep fN o s2).2 : Int) - 1⟩, nS 1 (rep fN o s2).2) := by
          unfold fS
          rw [hmg, hs1, ho, hs2]
        have hP2 := rep_go HP.out hlt rfl
        rw [hf] at hP2
        have HP2 := Lib.hid hP2
        have HM := Lib.hid (number_any q 1 1 rfl (by decide) (by decide) wr base top _ HRr.out)
        rw [hmg, hs1] at HM
        have HM1 := Lib.hid (fun W h => number_any q 1 1 rfl (by decide) (by decide) W base top s1 h)
        rw [ho, hs2] at HM1
        have HFS := Lib.hid (fN_small (n := o) (s := s2))
        clear hP2 hf hmg hs1 ho hs2 HP
        go_wp2_with fail
        refine HM.out.mono ?_
        rintro e w1 ⟨rfl, hr1, hst1⟩
        have hz1 := hst1.1.size
        have hba := (Below.refl w1.heap.size w1).alloc (Nat.le_refl _) (.cells #[.int .i64 (mg : Int), .slice none 0 0, .int .i64 0] 43)
        have HR1 := Lib.hid (hr1.sub (hba.mono (by omega)))
        have HS1 := Lib.hid ((HS.out.trans hst1).sub (hba.mono (by omega)) (by omega))
        have HO1 := Lib.hid (osn_sto HO.out hst1 (by omega))
        have HBk := Lib.hid (heap_alloc_new w1 (.cells #[.int .i64 (mg : Int), .slice none 0 0, .int .i64 0] 43))
        have hza : (w1.alloc (.cells #[.int .i64 (mg : Int), .slice none 0 0, .int .i64 0] 43)).heap.size = w1.heap.size + 1 := by simp
        have HSa := Lib.hid (Sto.sub (Sto.refl base top w1) hba (by omega))
        have HSw1 := Lib.hid (HS.out.trans hst1)
        clear hr1 hst1 HM HO HS HRr hsh' hba
        go_wp2_with fail
        generalize w1.alloc (.cells #[.int .i64 (mg : Int), .slice none 0 0, .int .i64 0] 43) = wa at *
        obtain ⟨gb, hgb⟩ : ∃ gb, w1.heap.size = gb := ⟨_, rfl⟩
        rw [hgb] at HBk hza hz1 ⊢
        refine (HM1.out _ HR1.out).mono ?_
        rintro e w2 ⟨rfl, hr2, hst2⟩
        have HR2 := Lib.hid hr2
        have HS2 := Lib.hid (HSa.out.trans hst2)
        have HB2 := Lib.hid ((hst2.2 gb (by omega) (by omega)).trans HBk.out)
        have hz2 : gb + 1 ≤ w2.heap.size := by have := hst2.1.size; omega
        have HGB := Lib.hid hgb
        clear hr2 hst2 HM1 HR1 HSa HBk HS1 hza hgb
        go_wp2_with fail
        go_loopw [8] (fun lf wi => ∃ (j m : Nat) (A' : Option Addr) (c' : Nat) (ys : List Int) (t' : Sx), j + m = o ∧ lf = .int .i64 (m : Int) ∧ wi.heap[gb]? = some (.cells #[.int .i64 (mg : Int), .slice A' j c', .int .i64 0] 43 (0, 0)) ∧ wi.ownsRow (gb + 1) 3 1 (.slice A' j c') j (iv ys) ∧ Rd wi base top q t' ∧ Sto base top w1 wi ∧ rep fN o s2 = (ys ++ (rep fN (o - j) t').1, (rep fN (o - j) t').2)) (fun lf _ => (intOf lf).toNat)
        case atStart => exact ⟨0, o, none, 0, [], s2, by omega, rfl, HB2.out, World.ownsRow_nil _ _ _ _, HR2.out, HS2.out, rep_start⟩
        case round =>
          obtain ⟨j, m, A', c', ys, t', hjm, rfl, hblk, ho2, hr2, hst2, hrep2⟩ := hrel
          have HO2 := Lib.hid ho2
          have HRi := Lib.hid hr2
          have HSi := Lib.hid hst2
          have HQ := Lib.hid hrep2
          have HBi := Lib.hid hblk
          have hsh2 := hr2.short
          have hsz2 := hst2.1.size
          have hltb : gb < wr.heap.size := (Array.getElem?_eq_some_iff.1 hblk).1
          have i0 : wr.cell? ⟨gb, 0, none⟩ = some (.int .i64 (mg : Int)) := by rw [blk_cell hblk]; rfl
          have i1 : wr.cell? ⟨gb, 1, none⟩ = some (.slice A' j c') := by rw [blk_cell hblk]; rfl
          have f1 : wr.frozen? ⟨gb, 1, none⟩ = false := frozen_of_row _ _ _ _ _ hblk
          have f2 : wr.frozen? ⟨gb, 2, none⟩ = false := frozen_of_row _ _ _ _ _ hblk
          clear ho2 hr2 hst2 hrep2 hblk HR2 HS2 HB2
          obtain ⟨bl, hbl⟩ : ∃ bl, nV 1 t' = bl := ⟨_, rfl⟩
          obtain ⟨t5, ht5⟩ : ∃ t5, nS 1 t' = t5 := ⟨_, rfl⟩
          have lbl : bl < 256 := by rw [← hbl]; exact nV_lt 1 _
          have hnum : Calls Tryd.prog 41 #[.pointer (some ⟨q, 0, none⟩), .int .i64 1] wr (fun e w5 => e = .returned (.int .i64 (bl : Int)) ∧ w5.frozen? ⟨gb, 2, none⟩ = false ∧
              w5.cell? ⟨gb, 2, none⟩ = some (.int .i64 0) ∧ (w5.setCell ⟨gb, 2, none⟩ (.int .i64 ((bl : Int) - 1))).cell? ⟨gb, 0, none⟩ = some (.int .i64 (mg : Int)) ∧
              (w5.setCell ⟨gb, 2, none⟩ (.int .i64 ((bl : Int) - 1))).cell? ⟨gb, 1, none⟩ = some (.slice A' j c') ∧ (w5.setCell ⟨gb, 2, none⟩ (.int .i64 ((bl : Int) - 1))).cell? ⟨gb, 2, none⟩ = some (.int .i64 ((bl : Int) - 1)) ∧
              gb < w5.heap.size ∧ Go.RowKit.Hid (Rd (w5.setCell ⟨gb, 2, none⟩ (.int .i64 ((bl : Int) - 1))) base top q t5) ∧ Go.RowKit.Hid (Sto base top w (w5.setCell ⟨gb, 2, none⟩ (.int .i64 ((bl : Int) - 1)))) ∧
              Go.RowKit.Hid ((w5.setCell ⟨gb, 2, none⟩ (.int .i64 ((bl : Int) - 1))).ownsRow w.heap.size 3 1 (.slice A' j c') j (iv ys)) ∧
              Go.RowKit.Hid (OSn (w5.setCell ⟨gb, 2, none⟩ (.int .i64 ((bl : Int) - 1))) w.heap.size (.slice A k c) k xs css)) := by
            refine (number_any q 1 1 rfl (by decide) (by decide) wr base top _ HRi.out).mono ?_
            rintro e w5 ⟨rfl, hr5, hst5⟩
            rw [hbl, ht5] at *
            have b5 := (hst5.2 gb (by omega) hltb).trans HBi.out
            have hs5 := HSi.out.trans hst5
            have hgs := HGB.out
            have hb6 : Below gb w5 (w5.setCell ⟨gb, 2, none⟩ (.int .i64 ((bl : Int) - 1))) := (Below.refl gb w5).setCell (p := ⟨gb, 2, none⟩) (Nat.le_refl _) _
            have b6 := set_blk (k := 2) (v := .int .i64 ((bl : Int) - 1)) b5
            have hs6 : Sto base top w1 (w5.setCell ⟨gb, 2, none⟩ (.int .i64 ((bl : Int) - 1))) := hs5.sub (by rw [hgs]; exact hb6) (by omega)
            exact ⟨rfl, frozen_of_row _ _ _ _ _ b5, by rw [blk_cell b5]; rfl, by rw [blk_cell b6]; rfl, by rw [blk_cell b6]; rfl, by rw [blk_cell b6]; rfl, Nat.lt_of_lt_of_le hltb hst5.1.size, Lib.hid (hr5.sub (hb6.mono (by omega))), Lib.hid (HSw1.out.trans hs6), Lib.hid (own_base (own_set (own_sto HO2.out hst5 (by omega)) (Nat.lt_succ_self _)) (by omega)), Lib.hid (osn_sto HO1.out hs6 (by omega))⟩
          have HNU := Lib.hid hnum
          have hend : rep fN o s2 = (ys, t') → rep fS n s = ((xs ++ [⟨(mg : Int), ys, (bl : Int) - 1⟩]) ++ (rep fS (n - (k + 1)) t5).1, (rep fS (n - (k + 1)) t5).2) ∧ ∀ z ∈ ys, -9223372036854775808 ≤ z ∧ z ≤ 9223372036854775807 := by
            intro e
            have hP := HP2.out
            have hF := HFS.out
            rw [e] at hP hF
            rw [hbl, ht5] at hP
            exact ⟨hP, fun z hz => by have := hF z hz; omega⟩
          have HEN := Lib.hid hend
          clear hnum hend hbl ht5
          rcases m with _ | m
          · clear hsh2
            have HE := Lib.hid (rep_end HQ.out (.inl (by omega)))
            clear HO2 HRi HSi HBi i0 i1 f1 f2
            go_wp2_with fail
            refine HNU.out.mono ?_
            rintro e w5 ⟨rfl, k5, j5, q0, q1, q2, hl5, HR6, HS6, HO6, HN6⟩
            have hz6 : (w5.setCell ⟨gb, 2, none⟩ (.int .i64 ((bl : Int) - 1))).heap.size = w5.heap.size := by simp [World.setCell]
            have hzw := HS6.out.1.size
            rw [hz6] at hzw
            have HL6 := Lib.hid (Reads.lit (w5.setCell ⟨gb, 2, none⟩ (.int .i64 ((bl : Int) - 1))) 43 [.int .i64 (mg : Int), .slice A' j c', .int .i64 ((bl : Int) - 1)] 1 3 rfl _ rfl)
            have hba := (Below.refl (w5.setCell ⟨gb, 2, none⟩ (.int .i64 ((bl : Int) - 1))).heap.size _).alloc (Nat.le_refl _) (.cells #[.int .i64 (mg : Int), .slice A' j c', .int .i64 ((bl : Int) - 1)] 43)
            have HBa := Lib.hid hba
            have HNa := Lib.hid (HN6.out.later hba)
            have HOa := Lib.hid (own_later HO6.out hba)
            have HVa := Lib.hid HNa.out.2.2.2.1
            rw [hz6] at HL6
            clear hba
            go_wp2_with (at_builtin; refine wl_app TSp (by rfl) (.tmp 48) (.tmp 50) (by rfl) (.slice A k c) (by rfl) (some ⟨w5.heap.size, 0, none⟩) 1 1 (by rfl) w.heap.size k css.flatten HVa.out (w5.heap.size + 1) [.int .i64 (mg : Int), .slice A' j c', .int .i64 ((bl : Int) - 1)] HL6.out ?a2 ?a3 ?a4 ?a5 ?a6)
            case a2 => simp [Value.oneCell']
            case a3 => omega
            case a4 => omega
            case a5 => simp [World.setCell]; omega
            case a6 =>
              intro A8 c8 w8 hown hg _
              obtain ⟨e1, e2⟩ := HEN.out HE.out
              have hO8 := HNa.out.snoc (s := ⟨(mg : Int), ys, (bl : Int) - 1⟩) HOa.out e2 hg hown
              have hb8 : Below w.heap.size (w5.setCell ⟨gb, 2, none⟩ (.int .i64 ((bl : Int) - 1))) w8 := (HBa.out.mono (by rw [hz6]; exact hzw)).grown hg (by simp [World.setCell]; omega) (own_drop HVa.out)
              have HF := Lib.hid (And.intro hO8 (And.intro (HR6.out.sub (hb8.mono (by omega))) (And.intro (HS6.out.sub hb8 (by omega)) e1)))
              clear hown hg hO8 hb8 e1 e2
              go_wp2_with fail
              exact ⟨⟨k + 1, A8, c8, _, _, t5, by omega, by go_num, rfl, HF.out.1, HF.out.2.1, HF.out.2.2.1, HF.out.2.2.2⟩, by simp [intOf]; omega⟩
          · have dm : (0 : Int) < ((m + 1 : Nat) : Int) := by omega
            rcases t' with _ | r2
            · have hsh2' : wr.cell? ⟨q, 1, none⟩ = some (.bool true) := hsh2
              have HE := Lib.hid (rep_end HQ.out (.inr rfl))
              clear hsh2
              clear HO2 HRi HSi HBi i0 i1 f1 f2
              go_wp2_with fail
              refine HNU.out.mono ?_
              rintro e w5 ⟨rfl, k5, j5, q0, q1, q2, hl5, HR6, HS6, HO6, HN6⟩
              have hz6 : (w5.setCell ⟨gb, 2, none⟩ (.int .i64 ((bl : Int) - 1))).heap.size = w5.heap.size := by simp [World.setCell]
              have hzw := HS6.out.1.size
              rw [hz6] at hzw
              have HL6 := Lib.hid (Reads.lit (w5.setCell ⟨gb, 2, none⟩ (.int .i64 ((bl : Int) - 1))) 43 [.int .i64 (mg : Int), .slice A' j c', .int .i64 ((bl : Int) - 1)] 1 3 rfl _ rfl)
              have hba := (Below.refl (w5.setCell ⟨gb, 2, none⟩ (.int .i64 ((bl : Int) - 1))).heap.size _).alloc (Nat.le_refl _) (.cells #[.int .i64 (mg : Int), .slice A' j c', .int .i64 ((bl : Int) - 1)] 43)
              have HBa := Lib.hid hba
              have HNa := Lib.hid (HN6.out.later hba)
              have HOa := Lib.hid (own_later HO6.out hba)
              have HVa := Lib.hid HNa.out.2.2.2.1
              rw [hz6] at HL6
              clear hba
              go_wp2_with (at_builtin; refine wl_app TSp (by rfl) (.tmp 48) (.tmp 50) (by rfl) (.slice A k c) (by rfl) (some ⟨w5.heap.size, 0, none⟩) 1 1 (by rfl) w.heap.size k css.flatten HVa.out (w5.heap.size + 1) [.int .i64 (mg : Int), .slice A' j c', .int .i64 ((bl : Int) - 1)] HL6.out ?b2 ?b3 ?b4 ?b5 ?b6)
              case b2 => simp [Value.oneCell']
              case b3 => omega
              case b4 => omega
              case b5 => simp [World.setCell]; omega
              case b6 =>
                intro A8 c8 w8 hown hg _
                obtain ⟨e1, e2⟩ := HEN.out HE.out
                have hO8 := HNa.out.snoc (s := ⟨(mg : Int), ys, (bl : Int) - 1⟩) HOa.out e2 hg hown
                have hb8 : Below w.heap.size (w5.setCell ⟨gb, 2, none⟩ (.int .i64 ((bl : Int) - 1))) w8 := (HBa.out.mono (by rw [hz6]; exact hzw)).grown hg (by simp [World.setCell]; omega) (own_drop HVa.out)
                have HF := Lib.hid (And.intro hO8 (And.intro (HR6.out.sub (hb8.mono (by omega))) (And.intro (HS6.out.sub hb8 (by omega)) e1)))
                clear hown hg hO8 hb8 e1 e2
                go_wp2_with fail
                exact ⟨⟨k + 1, A8, c8, _, _, t5, by omega, by go_num, rfl, HF.out.1, HF.out.2.1, HF.out.2.2.1, HF.out.2.2.2⟩, by simp [intOf]; omega⟩
            · have hsh2' : wr.cell? ⟨q, 1, none⟩ = some (.bool false) := hsh2
              clear hsh2
              have hlt2 : j < o := by omega
              obtain ⟨v, hv⟩ : ∃ v, nV 1 (some r2) = v := ⟨_, rfl⟩
              obtain ⟨t1, ht1⟩ : ∃ t1, nS 1 (some r2) = t1 := ⟨_, rfl⟩
              have hft : fN (some r2) = ((v : Int), t1) := by
                unfold fN
                rw [hv, ht1]
              have hQ2 := rep_go HQ.out hlt2 rfl
              rw [hft] at hQ2
              have HQ2 := Lib.hid hQ2
              have HM := Lib.hid (fun W h => number_any q 1 1 rfl (by decide) (by decide) W base top (some r2) h)
              rw [hv, ht1] at HM
              clear hQ2 hft hv ht1 HQ
              have hcall : ∀ W : World, Below wr.heap.size wr W → W.heap = wr.heap → Calls Tryd.prog 41 #[.pointer (some ⟨q, 0, none⟩), .int .i64 1] W (fun e w6 => e = .returned (.int .i64 (v : Int)) ∧ wr.heap.size ≤ w6.heap.size ∧ gb < w6.heap.size ∧ w6.cell? ⟨gb, 1, none⟩ = some (.slice A' j c') ∧ Go.RowKit.Hid (w6.heap[gb]? = some (.cells #[.int .i64 (mg : Int), .slice A' j c', .int .i64 0] 43 (0, 0))) ∧ Go.RowKit.Hid (Rd w6 base top q t1) ∧ Go.RowKit.Hid (Sto base top wr w6) ∧ Go.RowKit.Hid (w6.ownsRow (gb + 1) 3 1 (.slice A' j c') j (iv ys))) := by
                intro W hW hH
                refine (HM.out W (HRi.out.sub (hW.mono (by omega)))).mono ?_
                rintro e w6 ⟨rfl, hr6, hst6⟩
                have hs6 : Sto base top wr w6 := Sto.trans (Sto.of_below hW (by omega)) hst6
                have b6 := (hs6.2 gb (by omega) hltb).trans HBi.out
                exact ⟨rfl, hs6.1.size, Nat.lt_of_lt_of_le hltb hs6.1.size, by rw [blk_cell b6]; rfl, Lib.hid b6, Lib.hid hr6, Lib.hid hs6, Lib.hid (own_sto HO2.out hs6 (by omega))⟩
              have HC := Lib.hid hcall
              have hfin : ∀ (w6 w7 : World) (A7 : Option Addr) (c7 : Nat), wr.heap.size ≤ w6.heap.size → w6.heap[gb]? = some (.cells #[.int .i64 (mg : Int), .slice A' j c', .int .i64 0] 43 (0, 0)) → Rd w6 base top q t1 → Sto base top wr w6 → w6.ownsRow (gb + 1) 3 1 (.slice A' j c') j (iv ys) →
                  w7.ownsRow (gb + 1) 3 1 (.slice A7 (j + 1) c7) (j + 1) (iv ys ++ [.int .i64 (v : Int)]) → (w6.alloc (.cells #[.int .i64 (v : Int)] 3)).grownBy w7 (Value.slice A' j c').ownBlock →
                  w7.heap[gb]? = some (.cells #[.int .i64 (mg : Int), .slice A' j c', .int .i64 0] 43 (0, 0)) ∧
                  (w7.setCell ⟨gb, 1, none⟩ (.slice A7 (j + 1) c7)).heap[gb]? = some (.cells #[.int .i64 (mg : Int), .slice A7 (j + 1) c7, .int .i64 0] 43 (0, 0)) ∧
                  (w7.setCell ⟨gb, 1, none⟩ (.slice A7 (j + 1) c7)).ownsRow (gb + 1) 3 1 (.slice A7 (j + 1) c7) (j + 1) (iv (ys ++ [(v : Int)])) ∧
                  Rd (w7.setCell ⟨gb, 1, none⟩ (.slice A7 (j + 1) c7)) base top q t1 ∧ Sto base top w1 (w7.setCell ⟨gb, 1, none⟩ (.slice A7 (j + 1) c7)) := by
                intro w6 w7 A7 c7 hz6 b6 hr6 hs6 ho6 ho7 hg7
                have hb7 : Below (gb + 1) w6 w7 := ((Below.refl (gb + 1) w6).alloc (by omega) _).grown hg7 (by simp; omega) (own_drop ho6)
                have b7 := (hb7.block gb (Nat.lt_succ_self _)).trans b6
                have hb8 : Below gb w6 (w7.setCell ⟨gb, 1, none⟩ (.slice A7 (j + 1) c7)) := (hb7.mono (Nat.le_succ _)).setCell (p := ⟨gb, 1, none⟩) (Nat.le_refl _) _
                refine ⟨b7, set_blk b7, ?_, hr6.sub (hb8.mono (by omega)), (HSi.out.trans hs6).sub (by rw [HGB.out]; exact hb8) (by rw [HGB.out]; omega)⟩
                rw [iv_append]
                exact own_set ho7 (Nat.lt_succ_self _)
              have HFI := Lib.hid hfin
              clear hcall hfin HM
              go_wp2_with fail
              go_region_law (first
                | (go_simp; go_at_call 41; refine (HC.out _ (Below.drew (Below.refl _ _)) rfl).mono ?_; rintro e w6 ⟨rfl, hz6, hl6, k1, HB6, HR6, HS6, HO6⟩)
                | (refine step_app TIt (by rfl) (.tmp 38) (.tmp 41) (by rfl) (.slice A' j c') (by rfl) (some ⟨_, 0, none⟩) 1 1 (by rfl) (gb + 1) j (iv ys) (HO6.out.alloc _) (w6.heap.size + 1) [.int .i64 (v : Int)] (Reads.lit w6 _ [.int .i64 (v : Int)] 1 1 rfl _ rfl) (by simp [Value.oneCell']) (by omega) (by omega) (by simp; omega) ?_; intro A7 c7 w7 hown7 hg7 _; have HR7 := Lib.hid (HFI.out w6 w7 A7 c7 hz6 HB6.out HR6.out HS6.out HO6.out hown7 hg7); have f7 : w7.frozen? ⟨gb, 1, none⟩ = false := frozen_of_row _ _ _ _ _ HR7.out.1; have k7 : w7.cell? ⟨gb, 1, none⟩ = some (.slice A' j c') := (by rw [blk_cell HR7.out.1]; rfl); clear hown7 hg7))
              all_goals
                go_wp2_with fail
                obtain ⟨_, e2, e3, e4, e5⟩ := HR7.out
                exact ⟨⟨j + 1, m, A7, c7, ys ++ [(v : Int)], t1, by omega, by go_num, e2, e3, e4, e5, HQ2.out⟩, by simp [intOf]⟩
    · have dk : ¬ (k : Int) < (n : Int) := by omega
      clear hsh
      go_wp2_with fail
      go_ret
      have e := rep_end HP.out (.inl (by omega))
      unfold snPost
      rw [e]
      exact ⟨A, k, c, css, rfl, HO.out, HRr.out, HS.out⟩
end Go.Proofs.YtkmcjjoicpgjfaaDoor
