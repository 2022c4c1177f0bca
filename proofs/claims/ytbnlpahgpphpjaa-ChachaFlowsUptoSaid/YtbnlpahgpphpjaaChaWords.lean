/-
  Contract of shallotref04.words: the words of bytes, the least byte first, in new memory. No conditions but the sizes that a slice can have.
-/
import Derived.Test.YtbnlpahgpphpjaaChaIni
namespace Go.Proofs.Ytbnlpahgpphpjaa
open Go Go.RowKit Go.Sh

theorem TW : STy Try.prog 78 22 (.int .u32 0) 1 4 := ⟨Try.underlying78, by kernel_rfl, rfl, by decide⟩

/-- words in new memory (or none) are handed back; nothing that was there has turned -/
def RetW (w : World) (s : List Int) (e : Ending) (w' : World) : Prop :=
  ∃ A n c, e = .returned (.slice A n c) ∧ s.length = n ∧ w'.ownsRow w.heap.size 22 1 (.slice A n c) n (wv s) ∧ Below w.heap.size w w'

theorem get_word (l : List UInt8) (n k : Nat) (h : 4 * k + 4 ≤ n) : getE 1 n ((4 * k : Nat) : Int) 4 = 0 ∧ ((getV 1 l n ((4 * k : Nat) : Int) 4 : Nat) : Int) = wd l (4 * k) := by
  have e : getE 1 n ((4 * k : Nat) : Int) 4 = 0 := by
    unfold getE
    rw [if_neg (by simp [okW]; omega), if_neg (by omega)]
  refine ⟨e, ?_⟩
  unfold getV
  rw [if_pos e, dig_one]
  rfl

set_option maxHeartbeats 1000000 in
theorem words_any (A : Option Addr) (n c : Nat) (l : List UInt8) (w : World) (B : Nat) (hr : RB w B A n l) (hB : B ≤ w.heap.size) (hn : n ≤ 140737488355328) :
    Calls Try.prog 38 #[.slice A n c] w (RetW w (wds l (n / 4))) := by
  have HR := Lib.hid hr
  clear hr
  go_enter Try.func38, Try.ntmps38
  go_wp2_with fail
  go_loopw [3, 4] (fun v i wr => ∃ (k : Nat) (A2 : Option Addr) (c2 : Nat), 4 * k ≤ n ∧ i = .int .i64 ((4 * k : Nat) : Int) ∧ v = .slice A2 k c2 ∧ wr.ownsRow w.heap.size 22 1 (.slice A2 k c2) k (wv (wds l k)) ∧ Below w.heap.size w wr) (fun _ i _ => n - (intOf i).toNat)
  case atStart => exact ⟨0, none, 0, by omega, rfl, rfl, World.ownsRow_nil _ _ _ _, Below.refl _ _⟩
  case round =>
    obtain ⟨k, A2, c2, hk, rfl, rfl, o, b⟩ := hrel
    have O := Lib.hid o
    have HB := Lib.hid b
    have hsz := b.size
    clear o b
    obtain ⟨m, hm⟩ : ∃ m, 4 * k = m := ⟨_, rfl⟩
    have HM := Lib.hid hm
    rw [hm]
    rw [hm] at hk
    by_cases hlt : m + 3 < n
    · have hlt' : (m : Int) + 3 < (n : Int) := by omega
      obtain ⟨hge, hgv⟩ := get_word l n k (by omega)
      rw [hm] at hge hgv
      have HGE := Lib.hid hge
      have HGV := Lib.hid hgv
      have hw := wd_w l m
      clear hge hgv hm
      go_wp2_with fail
      refine (RefGet_any 1 A n c l (m : Int) 4 wr B (HR.out.below (HB.out.mono hB)) (by omega) (by omega)).mono ?_
      rintro e w' ⟨rfl, rfl⟩
      rw [HGE.out, HGV.out]
      obtain ⟨w1, w2⟩ := hw
      generalize hx : wd l m = x at *
      have HX := Lib.hid hx
      clear hx
      go_wp2_with (at_builtin; refine wl_app TW rfl (.tmp 20) (.tmp 23) rfl _ rfl _ 1 1 rfl w.heap.size k _ (O.out.alloc _) (wr.heap.size + 1) [.int .u32 x] ?h2 ?h1 ?h3 ?h4 ?h5 ?h6)
      case h2 => exact Reads.lit wr _ [.int .u32 x] 1 1 rfl wr.heap.size rfl
      case h1 => intro u hu; rw [List.mem_singleton.1 hu]; rfl
      case h3 => have := HM.out; omega
      case h4 => have := HM.out; omega
      case h5 => simp; omega
      case h6 =>
        intro A3 c3 w3 hown hgr hat
        have e1 : wv (wds l k) ++ [.int .u32 x] = wv (wds l (k + 1)) := by rw [wds_succ, wv_append, HM.out, HX.out]; rfl
        rw [e1] at hown
        have O3 := Lib.hid hown
        have B3 := Lib.hid ((HB.out.alloc hsz _).grown hgr (by simp; omega) (own_drop O.out))
        clear hown hgr hat e1
        go_wp2_with fail
        have hm4 : m + 4 = 4 * (k + 1) := by have := HM.out; omega
        refine ⟨⟨k + 1, A3, c3, by omega, ?_, rfl, O3.out, B3.out⟩, by simp [intOf]; omega⟩
        rw [← hm4]
        go_num
    · have hlt' : ¬ (m : Int) + 3 < (n : Int) := by omega
      go_wp2_with fail
      go_ret
      have hkn : n / 4 = k := by have := HM.out; omega
      rw [hkn]
      exact ⟨A2, k, c2, rfl, length_wds _ _, O.out, HB.out⟩
end Go.Proofs.Ytbnlpahgpphpjaa
