/-
  Contract of dir.Check: a directory in form, in plain words. Conditions: the fields fit their types; the sizes that slices can have.
-/
import Derived.Test.YtkmcjjoicpgjfaaDoorDirName
import Derived.Test.YtkmcjjoicpgjfaaDoorPathErr
namespace Go.Proofs.YtkmcjjoicpgjfaaDoor
open Go Go.RowKit Go.Sh
open Classical

def badNode (h : Hp) : Prop := h.id = 0 ∨ ¬ wfN h.nm
def clash (a b : Hp) : Prop := a.nm.toList = b.nm.toList ∨ a.id = b.id
/-- the error of a directory -/
noncomputable def chkN (ns : List Hp) : Int :=
  if 64 < ns.length then 2 else if ∃ i, i < ns.length ∧ badNode (hat ns i) then 3 else if ∃ i j, j < i ∧ i < ns.length ∧ clash (hat ns i) (hat ns j) then 4 else 0
theorem chkN_cases (ns : List Hp) : chkN ns = 0 ∨ chkN ns = 2 ∨ chkN ns = 3 ∨ chkN ns = 4 := by
  unfold chkN
  split
  · simp
  · split
    · simp
    · split <;> simp
theorem chkN_zero {ns : List Hp} (h : chkN ns = 0) : ns.length ≤ 64 ∧ (∀ i, i < ns.length → ¬ badNode (hat ns i)) ∧ ∀ i j, j < i → i < ns.length → ¬ clash (hat ns i) (hat ns j) := by
  unfold chkN at h
  split at h
  · omega
  · split at h
    · omega
    · rename_i h2
      split at h
      · omega
      · rename_i h3
        exact ⟨by omega, fun i hi hb => h2 ⟨i, hi, hb⟩, fun i j hj hi hc => h3 ⟨i, j, hj, hi, hc⟩⟩
/-- a row of nodes: what node k holds -/
theorem node_at {w : World} {B n : Nat} {A : Option Addr} {ns : List Hp} (h : RR w B 66 A n (ns.map Hp.node)) {k : Nat} (hk : k < n) :
    ∃ b off, A = some ⟨b, off, none⟩ ∧ b < B ∧ w.cell? ⟨b, off + k * 66, none⟩ = some (.string (hat ns k).nm) ∧ w.cell? ⟨b, off + k * 66 + 1, none⟩ = some (.int .u64 (hat ns k).id) ∧ w.rangeAt b (off + k * 66) (hat ns k).node := by
  have hl : ns.length = n := by rw [← h.len, List.length_map]
  obtain ⟨b, off, cs, rfl, hb, hcs, _, hr⟩ := h.at_ hk
  have e : cs = (hat ns k).node := by
    rw [List.getElem?_map, hat_eq (by omega)] at hcs
    exact (Option.some.inj hcs).symm
  subst e
  exact ⟨b, off, rfl, hb, hr 0 _ rfl, hr 1 _ rfl, hr⟩

set_option maxRecDepth 100000 in
set_option maxHeartbeats 4000000 in
theorem DirCheck_any (A : Option Addr) (n c : Nat) (ns : List Hp) (w : World) (B : Nat) (hr : RR w B 66 A n (ns.map Hp.node)) (hok : ∀ h ∈ ns, h.OK) (hn : n ≤ 140737488355328) :
    Calls Tryd.prog 94 #[.slice A n c] w (fun e w' => e = .returned (.int .i64 (chkN ns)) ∧ ∃ m, w' = w.drewN m) := by
  have HL := Lib.hid (show ns.length = n by rw [← hr.len, List.length_map])
  have HR := Lib.hid hr
  have HOK := Lib.hid hok
  have HC := Lib.hid (show chkN ns = if 64 < ns.length then 2 else if ∃ i, i < ns.length ∧ badNode (hat ns i) then 3 else if ∃ i j, j < i ∧ i < ns.length ∧ clash (hat ns i) (hat ns j) then 4 else 0 from rfl)
  rw [HL.out] at HC
  generalize chkN ns = e at *
  clear hr hok
  by_cases h1 : 64 < n
  · have he := HC.out
    rw [if_pos h1] at he
    subst he
    have i1 : (64 : Int) < (n : Int) := by omega
    go_enter Tryd.func94, Tryd.ntmps94
    go_wp2_with fail
    go_ret
    exact ⟨rfl, 0, rfl⟩
  rw [if_neg h1] at HC
  have i1 : ¬ (64 : Int) < (n : Int) := by omega
  go_enter Tryd.func94, Tryd.ntmps94
  go_wp2_with fail
  go_loopw [3, 11] (fun _ i wr => ∃ k : Nat, k ≤ n ∧ i = .int .i64 (k : Int) ∧ wr = w ∧ ∀ j, j < k → ¬ badNode (hat ns j)) (fun _ i _ => n - (intOf i).toNat)
  case atStart => exact ⟨0, by omega, rfl, rfl, fun j hj => absurd hj (by omega)⟩
  case round =>
    obtain ⟨k, hk, rfl, rfl, hall⟩ := hrel
    have HA := Lib.hid hall
    clear hall
    by_cases hlt : k < n
    · obtain ⟨b, off, rfl, hb, c0, c1, _⟩ := node_at HR.out hlt
      have hid := (HOK.out _ (hat_mem (hs := ns) (k := k) (by rw [HL.out]; exact hlt))).id
      have HBD := Lib.hid (show badNode (hat ns k) → e = 3 from fun hb => by rw [HC.out, if_pos ⟨k, hlt, hb⟩])
      have HBI := Lib.hid (show badNode (hat ns k) ↔ ((hat ns k).id = 0 ∨ ¬ wfN (hat ns k).nm) from Iff.rfl)
      generalize (hat ns k).nm = nm at *
      generalize (hat ns k).id = id at *
      by_cases hz : id = 0
      · have he := HBD.out (HBI.out.2 (.inl hz))
        subst he hz
        go_wp2_with fail
        go_ret
        exact ⟨rfl, 0, rfl⟩
      · have hz' : (id == 0) = false := by rw [beq_eq_false_iff_ne]; exact hz
        have HZ := Lib.hid hz
        clear hz
        go_wp2_with fail
        refine (wellFormed_any nm wr).mono ?_
        rintro e2 w2 ⟨rfl, rfl⟩
        by_cases hw : wfN nm
        · rw [show decide (wfN nm) = true by simpa using hw]
          have HNB := Lib.hid (show ∀ j, j < k + 1 → ¬ badNode (hat ns j) from fun j hj => by
            by_cases hjk : j < k
            · exact HA.out j hjk
            · obtain rfl : j = k := by omega
              intro h
              rcases HBI.out.1 h with h | h
              · exact HZ.out h
              · exact h hw)
          clear hw
          go_wp2_with fail
          exact ⟨⟨k + 1, by omega, by go_num, by first | rfl | trivial, HNB.out⟩, by simp [intOf]; omega⟩
        · rw [show decide (wfN nm) = false by simpa using hw]
          have he := HBD.out (HBI.out.2 (.inr hw))
          subst he
          clear hw
          go_wp2_with fail
          go_ret
          exact ⟨rfl, 0, rfl⟩
    · obtain rfl : k = n := by omega
      rw [if_neg (by rintro ⟨i, hi, hb⟩; exact HA.out i hi hb)] at HC
      clear HA
      go_wp2_with fail
      go_loopw [4, 5, 32] (fun _ _ i wr2 => ∃ q : Nat, q ≤ k ∧ i = .int .i64 (q : Int) ∧ (∃ m, wr2 = wr.drewN m) ∧ ∀ i j, j < i → i < q → ¬ clash (hat ns i) (hat ns j)) (fun _ _ i _ => k - (intOf i).toNat)
      case atStart => exact ⟨0, by omega, rfl, ⟨0, rfl⟩, fun i j _ hj => absurd hj (by omega)⟩
      case round =>
        obtain ⟨q, hq, rfl, ⟨md, rfl⟩, hall⟩ := hrel
        have HA := Lib.hid hall
        clear hall
        by_cases hlq : q < k
        · go_wp2_with fail
          go_loopw [5] (fun j wr2 => ∃ p : Nat, p ≤ q ∧ j = .int .i64 (p : Int) ∧ (∃ m, wr2 = wr.drewN m) ∧ ∀ j, j < p → ¬ clash (hat ns q) (hat ns j)) (fun j _ => q - (intOf j).toNat)
          case atStart => exact ⟨0, by omega, rfl, ⟨md, rfl⟩, fun j hj => absurd hj (by omega)⟩
          case round =>
            obtain ⟨p, hp, rfl, ⟨me, rfl⟩, hall2⟩ := hrel
            have HA2 := Lib.hid hall2
            clear hall2
            by_cases hlp : p < q
            · obtain ⟨wv, hwv⟩ : ∃ wv, wr.drewN me = wv := ⟨_, rfl⟩
              have HRq := Lib.hid (show RR wv B 66 A k (ns.map Hp.node) by rw [← hwv]; exact HR.out)
              rw [hwv]
              have HWV := Lib.hid hwv
              clear hwv
              obtain ⟨b, off, rfl, hb, c0, c1, _⟩ := node_at HRq.out hlq
              obtain ⟨b', off', hbb, _, d0, d1, _⟩ := node_at HRq.out (k := p) (by omega)
              injection hbb with hbb
              injection hbb with e1 e2
              subst e1 e2
              have HCL := Lib.hid (show clash (hat ns q) (hat ns p) ↔ ((hat ns q).nm.toList = (hat ns p).nm.toList ∨ (hat ns q).id = (hat ns p).id) from Iff.rfl)
              have HBD := Lib.hid (show clash (hat ns q) (hat ns p) → e = 4 from fun hb => by rw [HC.out, if_pos ⟨q, p, hlp, hlq, hb⟩])
              generalize (hat ns q).nm = nmq at *
              generalize (hat ns p).nm = nmp at *
              generalize (hat ns q).id = iq at *
              generalize (hat ns p).id = ip at *
              have hpk : p < k := by omega
              have hpk' : (p : Int) < (k : Int) := by omega
              by_cases hs : nmq.toList = nmp.toList
              · have he := HBD.out (HCL.out.2 (.inl hs))
                subst he
                have hs' : (nmq.toList == nmp.toList) = true := by rw [beq_iff_eq]; exact hs
                clear hs
                go_wp2_with fail
                go_quiet (fail)
                go_wp2_with fail
                go_ret
                exact ⟨rfl, _, by rw [← HWV.out, World.drewN_drewN]⟩
              · have hs' : (nmq.toList == nmp.toList) = false := by rw [beq_eq_false_iff_ne]; exact hs
                by_cases hi : iq = ip
                · have he := HBD.out (HCL.out.2 (.inr hi))
                  subst he
                  have hi' : (iq == ip) = true := by rw [beq_iff_eq]; exact hi
                  clear hs hi
                  go_wp2_with fail
                  go_quiet (fail)
                  go_wp2_with fail
                  go_ret
                  exact ⟨rfl, _, by rw [← HWV.out, World.drewN_drewN]⟩
                · have hi' : (iq == ip) = false := by rw [beq_eq_false_iff_ne]; exact hi
                  have HNB := Lib.hid (show ∀ j, j < p + 1 → ¬ clash (hat ns q) (hat ns j) from fun j hj => by
                    by_cases hjp : j < p
                    · exact HA2.out j hjp
                    · obtain rfl : j = p := by omega
                      intro h
                      rcases HCL.out.1 h with h | h
                      · exact hs h
                      · exact hi h)
                  clear hs hi
                  go_wp2_with fail
                  go_quiet (fail)
                  go_wp2_with fail
                  exact ⟨⟨p + 1, by omega, by go_num, ⟨_, by rw [← HWV.out, World.drewN_drewN]⟩, HNB.out⟩, by simp [intOf]; omega⟩
            · obtain rfl : p = q := by omega
              have HNB := Lib.hid (show ∀ i j, j < i → i < p + 1 → ¬ clash (hat ns i) (hat ns j) from fun i j hj hi => by
                by_cases hip : i < p
                · exact HA.out i j hj hip
                · obtain rfl : i = p := by omega
                  exact HA2.out j hj)
              go_wp2_with fail
              exact ⟨⟨p + 1, by omega, by go_num, ⟨me, rfl⟩, HNB.out⟩, by simp [intOf]; omega⟩
        · obtain rfl : q = k := by omega
          have he := HC.out
          rw [if_neg (by rintro ⟨i, j, hj, hi, hc⟩; exact HA.out i j hj hi hc)] at he
          subst he
          go_wp2_with fail
          go_ret
          exact ⟨rfl, md, rfl⟩
end Go.Proofs.YtkmcjjoicpgjfaaDoor
