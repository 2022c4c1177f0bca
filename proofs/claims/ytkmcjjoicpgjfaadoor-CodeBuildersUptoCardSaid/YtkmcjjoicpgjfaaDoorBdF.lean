/-
  Contracts of code's Builder: Msg. Conditions: the sizes that slices can have.
-/
import Derived.Test.YtkmcjjoicpgjfaaDoorBdE
namespace Go.Proofs.YtkmcjjoicpgjfaaDoor
open Go Go.RowKit Go.Sh

theorem PO.rbb {w : World} {base : Nat} {S : Nat → Prop} {d t : Pad} {p : Prg} (h : PO w base S d t p) : RBB w w.heap.size d.A2 d.n2 p.msgs := by
  obtain ⟨vm, hm, im⟩ := h.msgs
  refine ⟨h.lm, vm, Reads.of_own hm.1, fun i hi => ?_⟩
  obtain ⟨Ai, ni, ci, h1, h2⟩ := im i hi
  exact ⟨Ai, ni, ci, h1, own_cap h2.1, RB.of_own h2.1⟩
theorem PO.rrt {w : World} {base : Nat} {S : Nat → Prop} {d t : Pad} {p : Prg} (h : PO w base S d t p) : RRt w w.heap.size d.A3 d.n3 p.rts := by
  obtain ⟨vm, hm, im⟩ := h.rts
  refine ⟨h.lr, vm, Reads.of_own hm.1, fun i hi => ?_⟩
  obtain ⟨Ai, ni, ci, h1, h2, h4⟩ := im i hi
  exact ⟨Ai, ni, ci, h1, own_cap h2.1, RR.of_own h2.1 (by rw [List.length_map]; exact h4) (spv_len _)⟩
theorem PO.rsn {w : World} {base : Nat} {S : Nat → Prop} {d t : Pad} {p : Prg} (h : PO w base S d t p) : RSn w w.heap.size d.A4 d.n4 p.snds := by
  obtain ⟨css, hm, hl, h3, im⟩ := h.snds
  refine ⟨h.ls, css, RR.of_own hm.1 hl h3, fun i hi => ?_⟩
  obtain ⟨Ai, ni, ci, h1, h2, h4⟩ := im i hi
  exact ⟨Ai, ni, ci, h1, own_cap h2.1, RI.of_own h2.1 h4⟩
theorem OwS.since {w w1 w3 : World} {base b e size n : Nat} {S : Nat → Prop} {v : Value} {xs : List Value} (h : OwS w base S e size v n xs) (hg : w.grownBy w1 (some b)) (hlt : b < base) : OwS w1 base (Since S w w3) e size v n xs :=
  ⟨h.1.kept hg (.inr fun e => by have := (h.1.lt b e).1; omega), fun k hk => .inl (h.2 k hk)⟩
/-- the place of the first that is like it, or the length -/
def fnd {α : Type} (f : α → Bool) : List α → Nat
  | [] => 0
  | x :: l => if f x then 0 else fnd f l + 1
theorem fnd_le {α : Type} (f : α → Bool) : ∀ l : List α, fnd f l ≤ l.length
  | [] => Nat.le_refl _
  | x :: l => by
    unfold fnd
    split
    · omega
    · have := fnd_le f l; rw [List.length_cons]; omega
set_option maxRecDepth 100000 in
theorem fnd_at {α : Type} (f : α → Bool) : ∀ (l : List α) (k : Nat) (x : α), l[k]? = some x → f x = true → (∀ (j : Nat) (y : α), j < k → l[j]? = some y → f y = false) → fnd f l = k
  | [], k, x, h, _, _ => by simp at h
  | y :: l, 0, x, h, hf, _ => by
    obtain rfl : y = x := by simpa using h
    unfold fnd
    rw [if_pos hf]
  | y :: l, k + 1, x, h, hf, hn => by
    have h0 := hn 0 y (by omega) rfl
    unfold fnd
    rw [if_neg (by rw [h0]; decide), fnd_at f l k x (by simpa using h) hf fun j z hj hz => hn (j + 1) z (by omega) (by simpa using hz)]
set_option maxRecDepth 100000 in
theorem fnd_none {α : Type} (f : α → Bool) : ∀ (l : List α), (∀ (j : Nat) (y : α), l[j]? = some y → f y = false) → fnd f l = l.length
  | [], _ => rfl
  | y :: l, hn => by
    unfold fnd
    rw [if_neg (by rw [hn 0 y rfl]; decide), fnd_none f l fun j z hz => hn (j + 1) z (by simpa using hz), List.length_cons]
/-- what the builder's program is behind Msg -/
def msgP (p : Prg) (l : List UInt8) : Prg := if fnd (fun x => decide (x = l)) p.msgs < p.msgs.length then p else { p with msgs := p.msgs ++ [l] }
theorem lat_get {ls : List (List UInt8)} {k : Nat} (h : k < ls.length) : ls[k]? = some (lat ls k) := by
  rw [lat, List.getD_eq_getElem?_getD, List.getElem?_eq_getElem h]
  rfl
theorem lat_of {ls : List (List UInt8)} {k : Nat} {x : List UInt8} (h : ls[k]? = some x) : lat ls k = x := by
  rw [lat, List.getD_eq_getElem?_getD, h]
  rfl
theorem bv_one1 {l : List UInt8} {u : Value} (hu : u ∈ bv l) : u.oneCell' = true := by
  obtain ⟨x, _, rfl⟩ := List.mem_map.1 hu
  rfl
set_option maxHeartbeats 2000000 in
set_option maxRecDepth 100000 in
theorem Msg_any (b base : Nat) (S : Nat → Prop) (d t : Pad) (p : Prg) (A2 : Option Addr) (m c2 B : Nat) (l : List UInt8) (w : World) (hb : BlkB w b d p) (ho : PO w base S d t p) (hl : RB w B A2 m l) (hlt : b < base) (hbs : base ≤ w.heap.size) (hB : B ≤ w.heap.size) (hn : (d.n2 + 1) * 24 ≤ 140737488355328) (hm : m ≤ 140737488355328) :
    Calls Tryd.prog 35 #[.pointer (some ⟨b, 0, none⟩), .slice A2 m c2] w fun e w' => e = .returned (.int .i64 ((fnd (fun x => decide (x = l)) p.msgs : Nat) : Int)) ∧ BdPost w b base S (msgP p l) w' := by
  have hc1 : w.cell? ⟨b, 1, none⟩ = some (.slice d.A2 d.n2 d.c2) := hb.cell 1
  have HBK := Lib.hid hb
  have HPO := Lib.hid ho
  have HL := Lib.hid hl
  have HM := Lib.hid ho.rbb
  have HLM := Lib.hid ho.lm
  obtain ⟨K, hK⟩ : ∃ K, fnd (fun x => decide (x = l)) p.msgs = K := ⟨_, rfl⟩
  obtain ⟨P', hP⟩ : ∃ P', msgP p l = P' := ⟨_, rfl⟩
  rw [hK, hP]
  have HK := Lib.hid hK
  have HP := Lib.hid hP
  clear hb ho hl hK hP
  go_enter Tryd.func35, Tryd.ntmps35
  go_wp2_with fail
  go_loopw [13, 5, 6] (fun i _ _ wr => ∃ k : Nat, k ≤ d.n2 ∧ i = .int .i64 (k : Int) ∧ wr = w ∧ ∀ j, j < k → lat p.msgs j ≠ l) (fun i _ _ _ => d.n2 - (intOf i).toNat)
  case atStart => exact ⟨0, by omega, rfl, rfl, fun j hj => absurd hj (by omega)⟩
  case round =>
    obtain ⟨k, hk, rfl, rfl, hno⟩ := hrel
    have HNO := Lib.hid hno
    clear hno
    by_cases hlk : k < d.n2
    · obtain ⟨ad, Ai, ni, ci, hAd, hab, hc, hle, hrb⟩ := HM.out.at_ hlk
      have HE := Lib.hid (BytesEqual_any Ai A2 ni m ci c2 (lat p.msgs k) l wr _ _ hrb HL.out)
      have HG := Lib.hid (lat_get (ls := p.msgs) (k := k) (by rw [HLM.out]; exact hlk))
      have hsl : (.slice d.A2 d.n2 d.c2 : Value) = .slice (some ad) d.n2 d.c2 := by rw [hAd]
      rw [hsl]
      clear hrb hle
      by_cases heq : lat p.msgs k = l
      · have hd : decide (lat p.msgs k = l) = true := decide_eq_true heq
        rw [hd] at HE
        have HQ := Lib.hid heq
        clear heq hd
        go_wp2_with fail
        refine HE.out.mono ?_
        rintro e w1 ⟨rfl, rfl⟩
        go_wp2_with fail
        go_ret
        have hkk : K = k := by rw [← HK.out]; exact fnd_at _ _ k _ HG.out (decide_eq_true HQ.out) fun j y hj hy => decide_eq_false (by rw [← lat_of hy]; exact HNO.out j hj)
        have hpp : P' = p := by rw [← HP.out, msgP, HK.out, hkk, if_pos (by rw [HLM.out]; exact hlk)]
        rw [hkk, hpp]
        exact ⟨rfl, S, d, t, HBK.out, HPO.out, fun _ h => .inl h, World.grownBy.refl _ _⟩
      · have hd : decide (lat p.msgs k = l) = false := decide_eq_false heq
        rw [hd] at HE
        have HQ := Lib.hid heq
        clear heq hd
        go_wp2_with fail
        refine HE.out.mono ?_
        rintro e w1 ⟨rfl, rfl⟩
        go_wp2_with fail
        exact ⟨⟨k + 1, by omega, by go_num, trivial, fun j hj => by
          by_cases e : j = k
          · rw [e]; exact HQ.out
          · exact HNO.out j (by omega)⟩, by simp [intOf]; omega⟩
    · obtain rfl : k = d.n2 := by omega
      have hkk : K = d.n2 := by rw [← HK.out, ← HLM.out]; exact fnd_none _ _ fun j y hy => decide_eq_false (by rw [← lat_of hy]; exact HNO.out j (by rw [← HLM.out]; exact (List.getElem?_eq_some_iff.1 hy).1))
      have hpp : P' = { p with msgs := p.msgs ++ [l] } := by rw [← HP.out, msgP, HK.out, hkk, if_neg (by rw [HLM.out]; omega)]
      have HKK := Lib.hid hkk
      have HPP := Lib.hid hpp
      have HCL := Lib.hid (ClipBB_any d.A2 d.n2 d.c2 wr HPO.out.k2)
      have HCN := Lib.hid (CloneB_any A2 m c2 (bv l) wr B HL.out (fun u hu => bv_one1 hu) hB (by omega))
      clear HNO HK HP hkk hpp
      go_wp2_with fail
      refine HCL.out.mono ?_
      rintro e w0 ⟨rfl, rfl⟩
      go_wp2_with fail
      refine HCN.out.mono ?_
      rintro e w1 ⟨A3, c3, rfl, hown1, hb1⟩
      clear hc1
      obtain ⟨vm, hvm, him⟩ := HPO.out.msgs
      have HB1 := Lib.hid hb1
      have HO1 := Lib.hid hown1
      have HIM := Lib.hid him
      have hvm1 := own_later hvm.1 hb1
      have hlit := Reads.lit w1 39 [.slice A3 m c3] 1 1 rfl w1.heap.size rfl
      have hba := (Below.refl w1.heap.size w1).alloc (Nat.le_refl _) (.cells #[.slice A3 m c3] 39)
      have HVM := Lib.hid (own_later hvm1 hba)
      have HLT := Lib.hid hlit
      have HBA := Lib.hid hba
      have HVS := Lib.hid hvm.2
      have hsz1 := hb1.size
      have hsza : (w1.alloc (.cells #[.slice A3 m c3] 39)).heap.size = w1.heap.size + 1 := by simp
      clear hb1 hown1 him hvm hvm1 hlit hba HCL HCN
      go_wp2_with (at_builtin; refine wl_appF TBB rfl (.tmp 29) (.tmp 32) rfl d.A2 d.n2 rfl (some ⟨w1.heap.size, 0, none⟩) 1 1 rfl base t.c2 vm HVM.out (w1.heap.size + 1) [.slice A3 m c3] HLT.out hn (by omega) (by omega) ?_)
      intro A' c' c'' w3 hown3 hb3 hc' hA'
      have hbw : Below wr.heap.size wr w3 := HB1.out.trans ((HBA.out.trans (hb3.mono (by omega))).mono hsz1)
      have hbk3 := HBK.out.below hbw HBK.out.lt
      have hc3 : w3.cell? ⟨b, 1, none⟩ = some (.slice d.A2 d.n2 d.c2) := hbk3.cell 1
      have hf3 := hbk3.free 1
      have hbk4 := hbk3.msgs A' (d.n2 + 1) c' (p.msgs ++ [l])
      have HC4 := Lib.hid (show (w3.setCell ⟨b, 1, none⟩ (.slice A' (d.n2 + 1) c')).cell? ⟨b, 1, none⟩ = some (.slice A' (d.n2 + 1) c') from hbk4.cell 1)
      have HBK4 := Lib.hid hbk4
      have HG4 := Lib.hid (grown_below (b := b) hbw 1 (.slice A' (d.n2 + 1) c'))
      have HPO4 := Lib.hid (HPO.out.stored hbw hlt hbs 1 (.slice A' (d.n2 + 1) c'))
      have hin3 : w3.ownsRow wr.heap.size 5 1 (.slice A3 m c3) m (bv l) := own_later (own_later HO1.out HBA.out) (by rw [hsza]; exact hb3)
      have HIN := Lib.hid hin3
      have HOW := Lib.hid hown3
      have HA := Lib.hid hA'
      have hz3 := hbw.size
      have HSZ := Lib.hid (show (w3.setCell ⟨b, 1, none⟩ (.slice A' (d.n2 + 1) c')).heap.size = w3.heap.size by simp)
      have hwr : IntKind.i64.wrap (((d.n2 + 1 : Nat) : Int) - 1) = (d.n2 : Int) := by rw [IntKind.wrap_i64]; omega
      clear hbw hbk3 hbk4 hin3 hown3 hb3 hA' HB1 HBA HO1 HVM HLT HL HM HBK
      go_upto_region 8 with fail
      clear hc3 hf3
      generalize hw4 : w3.setCell ⟨b, 1, none⟩ (.slice A' (d.n2 + 1) c') = w4 at *
      have HW4 := Lib.hid hw4
      clear hw4
      have hc4 := HC4.out
      go_wp2_with fail
      go_ret
      rw [HKK.out, HPP.out]
      refine ⟨rfl, Since S wr w3, { d with A2 := A', n2 := d.n2 + 1, c2 := c' }, { t with c2 := c'' }, HBK4.out, ?_, fun j hj => hj.imp id (·.1), HG4.out⟩
      have hp := HPO4.out
      refine { hp with lm := ?_, msgs := ⟨vm ++ [.slice A3 m c3], ⟨?_, fun j hj => ?_⟩, fun i hi => ?_⟩, k2 := hc' }
      · show (p.msgs ++ [l]).length = d.n2 + 1
        rw [List.length_append, HLM.out]; rfl
      · rw [← HW4.out]
        exact ownsRow_setCell_below HOW.out (show b < base from hlt) _
      · rcases HA.out with rfl | rfl
        · exact .inl (HVS.out j ((ob_any _ _ _ _ _).trans hj))
        · have := (HOW.out.lt j hj).2
          injection hj with hj
          have hj : w1.heap.size + 1 = j := hj
          exact .inr ⟨by omega, this⟩
      · have hvl : vm.length = d.n2 := by have := HOW.out.1; rw [List.length_append] at this; simp at this; omega
        by_cases e : i < d.n2
        · obtain ⟨Ai, ni, ci, h1, h2⟩ := HIM.out i e
          have e1 : lat (p.msgs ++ [l]) i = lat p.msgs i := by simp [lat, List.getElem?_append_left (show i < p.msgs.length by rw [HLM.out]; exact e)]
          refine ⟨Ai, ni, ci, by rw [List.getElem?_append_left (by omega)]; exact h1, ?_⟩
          rw [show lat ({ p with msgs := p.msgs ++ [l] } : Prg).msgs i = lat p.msgs i from e1]
          exact h2.since HG4.out hlt
        · have hie : i = d.n2 := by have : i < d.n2 + 1 := hi; omega
          subst hie
          refine ⟨A3, m, c3, by rw [List.getElem?_append_right (by omega), hvl, Nat.sub_self]; rfl, ?_, fun j hj => ?_⟩
          · have e1 : lat (p.msgs ++ [l]) d.n2 = l := by simp [lat, ← HLM.out]
            rw [show lat ({ p with msgs := p.msgs ++ [l] } : Prg).msgs d.n2 = l from e1, ← HW4.out]
            exact ownsRow_setCell_below (own_base HIN.out hbs) (show b < base from hlt) _
          · have := HIN.out.lt j hj
            exact .inr ⟨this.1, this.2⟩
end Go.Proofs.YtkmcjjoicpgjfaaDoor
