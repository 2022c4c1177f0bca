/-
  shallot: CodeBuildersUptoCardSaid is proved: for every input of bulk at most 1048576 the law returns true, and the argument reads afterwards as it read before; the listed tables are tied to the program's text. Conditions: none but the statement's own.
-/
import Derived.Test.YtkmcjjoicpgjfaaDoorCopy
import Derived.Test.YtkmcjjoicpgjfaaDoorCodeCheck
import Derived.Lib.AppendStr
import Derived.Lib.SlBytesConst
import Derived.Test.YtkmcjjoicpgjfaaDoorCodeUses
import Derived.Lib.ItoaNum
import Derived.Lib.ItoaLen
import Derived.Shelf.Strconv.Itoa0
import Derived.Shelf.Strconv.Itoa1
import Derived.Shelf.LaysM
import Derived.Shelf.Strconv.Itoa2
import Derived.Shelf.Strconv.Itoa3
import Derived.Shelf.Strconv.Itoa4
import Derived.Lib.AppendIntMem
import Derived.Test.YtkmcjjoicpgjfaaDoorProg
import Derived.Test.YtkmcjjoicpgjfaaDoorVerOwn
import Derived.Test.YtkmcjjoicpgjfaaDoorBdUM
import Derived.Test.YtkmcjjoicpgjfaaDoorVerSame2
import Derived.Test.YtkmcjjoicpgjfaaDoorOpen
import Derived.Test.YtkmcjjoicpgjfaaDoorDirRoute
import Derived.Test.YtkmcjjoicpgjfaaDoorPrg
import Derived.Test.YtkmcjjoicpgjfaaDoorVerTwin
import Derived.Test.YtkmcjjoicpgjfaaDoorRows
import Derived.Test.YtkmcjjoicpgjfaaDoorCards
import Derived.Test.YtkmcjjoicpgjfaaDoorTie
import Derived.WalkKit
import Derived.ProofKit
import Derived.OpenShut
import Derived.Deep.DeepHandedRow
import Derived.Lib.LaidTab
import Derived.Stop.LaidErr
import Derived.LaidMore
/-
  A row of bytes that a call builds, whose first part may be a constant string's bytes (a marked row, full): one law of append for both. No statement of the seat is proved here.
-/
namespace Go.Proofs.YtkmcjjoicpgjfaaDoor
open Go Go.RowKit Go.Sh

/-- what lay before, but for the slice's own row, lies as it did; and the new slice's row is none of it -/
def Far (w w' : World) (v v' : Value) : Prop := ∀ k, k < w.heap.size → v.ownBlock ≠ some k → w'.heap[k]? = w.heap[k]? ∧ v'.ownBlock ≠ some k
theorem Far.refl (w : World) (v : Value) : Far w w v v := fun _ _ h => ⟨rfl, h⟩
theorem Far.trans {w w' w'' : World} {v v' v'' : Value} (h : Far w w' v v') (h' : Far w' w'' v' v'') (hs : w.heap.size ≤ w'.heap.size) : Far w w'' v v'' := fun k hk hv => by
  obtain ⟨e1, e2⟩ := h k hk hv
  obtain ⟨e3, e4⟩ := h' k (by omega) e2
  exact ⟨e3.trans e1, e4⟩
theorem Far.of_below {w w' : World} (v : Value) (hb : Below w.heap.size w w') : Far w w' v v := fun k hk h => ⟨hb.block k hk, h⟩
theorem Far.of_grown {w w' : World} {v v' : Value} (h : w.grownBy w' v.ownBlock) (ho : v'.ownBlock = v.ownBlock ∨ v'.ownBlock = some w.heap.size) : Far w w' v v' := fun k hk hv => by
  refine ⟨h.block k hk (fun e => hv e.symm), ?_⟩
  rcases ho with e | e
  · rw [e]; exact hv
  · rw [e]; intro e2; injection e2 with e2; omega
section
variable {P : Program} {t e : TypeId} {z : Value} {bytes : Nat}
theorem run_appFull (T : STy P t e z 1 bytes) (w : World) (ty : TypeId) (base : Nat) (b : Addr) (n : Nat) (xs : List Value) (hx : xs.length = n) (hlo : Lies w b xs)
    (B : Nat) (A : Option Addr) (m c : Nat) (news : List Value) (hr : Reads w B 1 A m news) (hm : 0 < m)
    (hbytes : (n + m) * bytes ≤ 140737488355328) (h63 : n + m ≤ 9223372036854775807) (hbase : base ≤ w.heap.size) :
    ∃ A' c' w', (Builtin.append_ #[t, t] ty #[.slice (some b) n n, .slice A m c]).run P w = .ok (.slice A' (n + m) c') w' ∧ w'.ownsRow base e 1 (.slice A' (n + m) c') (n + m) (xs ++ news) ∧ Below w.heap.size w w' ∧ (Value.slice A' (n + m) c').ownBlock = some w.heap.size := by
  obtain ⟨i, hi, hz, hsize, hby⟩ := info_parts T.info
  subst hby
  have hnl : 0 < news.length := by rw [hr.1]; omega
  obtain ⟨a, rfl, _, hlie⟩ := hr.some_ hnl
  have hl := hr.1
  have hnews : ∀ j u, news[j]? = some u → w.cell? (a.add j) = some u := fun j u hu => hlie.get hu
  have holds : ∀ j u, xs[j]? = some u → w.cell? (b.add j) = some u := fun j u hu => hlo.get hu
  have h63' : n + m ≤ maxLen := by simp only [maxLen]; omega
  have hlen : (xs ++ news).length = (n + m) * 1 := by rw [List.length_append, hx, hl]; omega
  have hr := run_append_grow (P := P) w t ty e i z T.und hi hz b n n xs (by rw [hsize, hx]; omega) holds a m c news (by rw [hsize]; exact hl) hnews (by omega) (by omega) (growslice_fits (by omega) hbytes)
  have hge := grownCap_ge w (n + m) n e
  have hcm : grownCap w (n + m) n e ≤ maxLen := grownCap_le_maxLen w (n + m) n e h63'
  refine ⟨_, _, _, hr, ⟨hlen, .inr ⟨w.heap.size, _, _, rfl, hbase, heap_alloc_new w.drew _, hge, hcm, ?_, ?_⟩⟩, (Below.refl w.heap.size w).drew.alloc (Nat.le_refl _) _, rfl⟩
  · simp only [Array.size_append, List.size_toArray, size_zeroCells, T.zs, hx, hl]
    omega
  · simp only [Array.toList_append, List.append_assoc]
    rw [← List.append_assoc, ← hlen]
    exact List.take_left
end
/-- the slice is a row of the call's own that holds the bytes l; or it is full, and reads as l -/
def EO (base : Nat) (w : World) (A : Option Addr) (n c : Nat) (l : List UInt8) : Prop :=
  w.ownsRow base 5 1 (.slice A n c) n (bv l) ∨ (n = c ∧ l.length = n ∧ ∃ b, A = some b ∧ base ≤ b.block ∧ b.block < w.heap.size ∧ Lies w b (bv l))
theorem EO.len {base : Nat} {w : World} {A : Option Addr} {n c : Nat} {l : List UInt8} (h : EO base w A n c l) : l.length = n := by
  rcases h with h | ⟨_, h, _⟩
  · have := h.1; rw [length_bv] at this; omega
  · exact h
theorem EO.later {base : Nat} {w w' : World} {A : Option Addr} {n c : Nat} {l : List UInt8} (h : EO base w A n c l) (hb : Below w.heap.size w w') : EO base w' A n c l := by
  rcases h with h | ⟨h1, h2, b, h3, h4, h5, h6⟩
  · exact .inl (own_later h hb)
  · exact .inr ⟨h1, h2, b, h3, h4, Nat.lt_of_lt_of_le h5 hb.size, fun j hj => by rw [hb.cell (by rw [block_of_add]; exact h5)]; exact h6 j hj⟩
theorem wl_appE {w : World} {ops : Array Oper} {rest : List Oper} {o : Oper} {a : Act} {Q : Exit → Act → World → Prop} (hw : Region.wanted o (yielded ops a.tmps) = true) (s x : Operand)
    (ho : o.op = .call { callee := .builtin .append, args := #[s, x], argTypes := #[39, 39] })
    (A0 : Option Addr) (n c0 : Nat) (hs : a.eval s = .slice A0 n c0) (A : Option Addr) (m c : Nat) (hx : a.eval x = .slice A m c)
    (base : Nat) (l : List UInt8) (hown : EO base w A0 n c0 l)
    (B : Nat) (news : List UInt8) (hr : RB w B A m news) (hm : 0 < m)
    (hbytes : n + m ≤ 140737488355328) (hbase : base ≤ w.heap.size)
    (h : ∀ A' c' w', w'.ownsRow base 5 1 (.slice A' (n + m) c') (n + m) (bv (l ++ news)) → Below base w w' → Far w w' (.slice A0 n c0) (.slice A' (n + m) c') → wpList Tryd.prog ops Q rest (a.put o.dst (.slice A' (n + m) c')) w') : wpList Tryd.prog ops Q (o :: rest) a w := by
  rcases hown with hown | ⟨rfl, hl, b, rfl, hb1, hb2, hlie⟩
  · exact wl_app TB hw s x ho _ hs A m c hx base n (bv l) hown B (bv news) hr (bv_one _) (by omega) (by omega) hbase fun A' c' w' h1 h2 h3 => h A' c' w' (by rw [bv_append]; exact h1) ((Below.refl base w).grown h2 hbase (own_drop hown)) (Far.of_grown h2 h3)
  · obtain ⟨A', c', w', hrun, h1, h2, h3⟩ := run_appFull TB w o.type base b n (bv l) (by rw [length_bv]; exact hl) hlie B A m c (bv news) hr hm (by omega) (by omega) hbase
    exact wl_step hw fun _ hK => Lib.wp_append_run w s x 39 39 ho _ _ hs hx _ _ hrun (hK _ _ (h A' c' w' (by rw [bv_append]; exact h1) (h2.mono hbase) (fun k hk _ => ⟨h2.block k hk, by rw [h3]; intro e; injection e with e; omega⟩)))
end Go.Proofs.YtkmcjjoicpgjfaaDoor
/-
  Contract of code.put: a number of so many bytes, the most significant first, behind a row of the call's own. Conditions: the sizes that slices can have.
-/
namespace Go.Proofs.YtkmcjjoicpgjfaaDoor
open Go Go.RowKit Go.Sh

/-- byte number k of a number, from the right -/
def beK (n : Int) (k : Nat) : UInt8 := UInt8.ofNat (n / 2 ^ (8 * k) % 256).toNat
/-- the last d bytes of a number -/
def beB : Nat → Int → List UInt8
  | 0, _ => []
  | d + 1, n => beK n d :: beB d n
theorem beK_int (n : Int) (k : Nat) : ((beK n k).toNat : Int) = n / 2 ^ (8 * k) % 256 := by
  unfold beK
  rw [UInt8.toNat_ofNat']
  generalize n / 2 ^ (8 * k) = x
  omega
theorem beB_len : ∀ (d : Nat) (n : Int), (beB d n).length = d
  | 0, _ => rfl
  | d + 1, n => by show (beB d n).length + 1 = _; rw [beB_len d n]
set_option maxRecDepth 100000 in
set_option maxHeartbeats 2000000 in
theorem put_any (d : Nat) (n : Int) (hd0 : 1 ≤ d) (hd : d ≤ 4) (A : Option Addr) (m c : Nat) (l : List UInt8) (w : World) (base : Nat) (ho : EO base w A m c l) (hB : base ≤ w.heap.size) (hm : m ≤ 140737488355000) :
    Calls Tryd.prog 51 #[.slice A m c, .int .i64 (d : Int), .int .i64 n] w (fun e w' => ∃ A' c', e = .returned (.slice A' (m + d) c') ∧ w'.ownsRow base 5 1 (.slice A' (m + d) c') (m + d) (bv (l ++ beB d n)) ∧ Below base w w' ∧ Far w w' (.slice A m c) (.slice A' (m + d) c')) := by
  have HO0 := Lib.hid ho
  have w1 : IntKind.i64.wrap ((d : Int) - 1) = (d : Int) - 1 := by rw [IntKind.wrap_i64]; omega
  have w2 : IntKind.i64.wrap (8 * ((d : Int) - 1)) = 8 * ((d : Int) - 1) := by rw [IntKind.wrap_i64]; omega
  have hml : l.length = m := ho.len
  clear ho
  go_enter Tryd.func51, Tryd.ntmps51
  go_wp2_with fail
  go_loopw [0, 7] (fun o s wr => ∃ (j : Nat) (A' : Option Addr) (c' : Nat) (r : List UInt8), j ≤ d ∧ s = .int .i64 (8 * ((j : Int) - 1)) ∧ o = .slice A' (m + (d - j)) c' ∧ r ++ beB j n = l ++ beB d n ∧ EO base wr A' (m + (d - j)) c' r ∧ (j < d → wr.ownsRow base 5 1 (.slice A' (m + (d - j)) c') (m + (d - j)) (bv r)) ∧ Below base w wr ∧ Far w wr (.slice A m c) (.slice A' (m + (d - j)) c')) (fun _ s _ => ((intOf s) + 8).toNat)
  case atStart => exact ⟨d, A, c, l, by omega, rfl, by rw [Nat.sub_self]; rfl, rfl, by rw [Nat.sub_self]; exact HO0.out, fun h => absurd h (by omega), Below.refl _ _, by rw [Nat.sub_self]; exact Far.refl _ _⟩
  case round =>
    obtain ⟨j, A', c', r, hj, rfl, rfl, hr, ho, how, hb, hfar⟩ := hrel
    have HOW := Lib.hid how
    have HF := Lib.hid hfar
    clear how hfar
    have HR := Lib.hid hr
    have HO := Lib.hid ho
    have HB := Lib.hid hb
    have hs := hb.size
    clear hr ho hb w1 w2
    rcases j with _ | p
    · have HRR := Lib.hid (show r = l ++ beB d n by have := HR.out; rwa [show beB 0 n = [] from rfl, List.append_nil] at this)
      have e1 : (8 * (((0 : Nat) : Int) - 1)) = -8 := by omega
      rw [Nat.sub_zero] at HOW
      have HF0 := Lib.hid (show Far w wr (.slice A m c) (.slice A' (m + d) c') from HF.out)
      rw [e1, Nat.sub_zero]
      have HO1 := Lib.hid (show wr.ownsRow base 5 1 (.slice A' (m + d) c') (m + d) (bv (l ++ beB d n)) by rw [← HRR.out]; exact HOW.out (by omega))
      clear HO HR HRR e1 HOW
      go_wp2_with fail
      go_ret
      exact ⟨A', c', rfl, HO1.out, HB.out, HF0.out⟩
    · have hsh : (8 * (((p + 1 : Nat) : Int) - 1)) = ((8 * p : Nat) : Int) := by omega
      rw [hsh]
      have hp : p ≤ 3 := by omega
      have HRR := Lib.hid (show (r ++ [beK n p]) ++ beB p n = l ++ beB d n by rw [← HR.out, List.append_assoc]; rfl)
      have HBK := Lib.hid (show [Value.int .u8 (n / 2 ^ (8 * p) % 256)] = bv [beK n p] by show _ = [Value.int .u8 ((beK n p).toNat : Int)]; rw [beK_int])
      obtain ⟨k, hk⟩ : ∃ k, m + (d - (p + 1)) = k := ⟨_, rfl⟩
      have hk2 : m + (d - p) = k + 1 := by omega
      rw [hk] at HO HF ⊢
      clear HR hsh HOW
      go_wp2_with (at_builtin; refine wl_appE rfl (.tmp 15) (.tmp 20) rfl A' k c' rfl (some ⟨wr.heap.size, 0, none⟩) 1 1 rfl base r (HO.out.later ((Below.refl _ _).alloc (Nat.le_refl _) _)) (wr.heap.size + 1) [beK n p] ?ha0 (Nat.one_pos) ?ha2 ?ha4 ?ha5)
      case ha0 =>
        unfold RB
        rw [← HBK.out]
        exact Reads.lit wr _ _ 1 1 rfl _ rfl
      case ha2 => omega
      case ha4 => simp; omega
      case ha5 =>
        intro A2 c2 w2 hown2 hb2 hf2
        have HF2 := Lib.hid (HF.out.trans ((Far.of_below _ ((Below.refl _ _).alloc (Nat.le_refl _) _)).trans hf2 (by simp)) hs)
        have HB2 := Lib.hid ((HB.out.alloc (by omega) _).trans hb2)
        have HO2 := Lib.hid hown2
        clear hown2 hb2 hf2
        go_wp2_with fail
        refine ⟨⟨p, A2, c2, r ++ [beK n p], by omega, ?_, by rw [hk2], HRR.out, by rw [hk2]; exact .inl HO2.out, fun _ => by rw [hk2]; exact HO2.out, HB2.out, by rw [hk2]; exact HF2.out⟩, ?_⟩
        · congr 1; omega
        · simp [intOf]; omega
/-- what a call has written so far, and what is still to come -/
def EOr (base : Nat) (w : World) (A : Option Addr) (m c : Nat) (rest E : List UInt8) : Prop := ∃ l, EO base w A m c l ∧ l ++ rest = E
def OWr (base : Nat) (w : World) (A : Option Addr) (m c : Nat) (rest E : List UInt8) : Prop := ∃ l, w.ownsRow base 5 1 (.slice A m c) m (bv l) ∧ l ++ rest = E
theorem OWr.eo {base : Nat} {w : World} {A : Option Addr} {m c : Nat} {rest E : List UInt8} (h : OWr base w A m c rest E) : EOr base w A m c rest E := by
  obtain ⟨l, h1, h2⟩ := h
  exact ⟨l, .inl h1, h2⟩
theorem EOr.to {base : Nat} {w : World} {A : Option Addr} {m c : Nat} {rest rest' E : List UInt8} (h : EOr base w A m c rest E) (e : rest = rest') : EOr base w A m c rest' E := e ▸ h
theorem OWr.to {base : Nat} {w : World} {A : Option Addr} {m c : Nat} {rest rest' E : List UInt8} (h : OWr base w A m c rest E) (e : rest = rest') : OWr base w A m c rest' E := e ▸ h
theorem EOr.later {base : Nat} {w w' : World} {A : Option Addr} {m c : Nat} {rest E : List UInt8} (h : EOr base w A m c rest E) (hb : Below w.heap.size w w') : EOr base w' A m c rest E := by
  obtain ⟨l, h1, h2⟩ := h
  exact ⟨l, h1.later hb, h2⟩
theorem OWr.later {base : Nat} {w w' : World} {A : Option Addr} {m c : Nat} {rest E : List UInt8} (h : OWr base w A m c rest E) (hb : Below w.heap.size w w') : OWr base w' A m c rest E := by
  obtain ⟨l, h1, h2⟩ := h
  exact ⟨l, own_later h1 hb, h2⟩
theorem OWr.not_new {base : Nat} {w : World} {A : Option Addr} {m c : Nat} {rest E : List UInt8} (h : OWr base w A m c rest E) {k : Nat} (hk : w.heap.size ≤ k) : (Value.slice A m c).ownBlock ≠ some k := by
  obtain ⟨l, h1, _⟩ := h
  intro e
  have := (h1.lt k e).2
  omega
theorem putR_any (d : Nat) (n : Int) (hd0 : 1 ≤ d) (hd : d ≤ 4) (A : Option Addr) (m c : Nat) (w : World) (base : Nat) (rest E : List UInt8) (ho : EOr base w A m c (beB d n ++ rest) E) (hB : base ≤ w.heap.size) (hE : E.length ≤ 140737488355000) :
    Calls Tryd.prog 51 #[.slice A m c, .int .i64 (d : Int), .int .i64 n] w (fun e w' => ∃ A' m' c', e = .returned (.slice A' m' c') ∧ OWr base w' A' m' c' rest E ∧ Below base w w' ∧ Far w w' (.slice A m c) (.slice A' m' c') ∧ 0 < m') := by
  obtain ⟨l, h1, h2⟩ := ho
  refine (put_any d n hd0 hd A m c l w base h1 hB ?_).mono ?_
  · have := h1.len
    have h3 := congrArg List.length h2
    rw [List.length_append] at h3
    omega
  · rintro e w' ⟨A', c', rfl, h3, h4, h5⟩
    exact ⟨A', m + d, c', rfl, ⟨_, h3, by rw [← h2, List.append_assoc]⟩, h4, h5, by omega⟩
end Go.Proofs.YtkmcjjoicpgjfaaDoor
/-
  The bytes of a program in plain Lean, and how many they can be where the program is in form. No statement of the seat is proved here.
-/
namespace Go.Proofs.YtkmcjjoicpgjfaaDoor
open Go Go.RowKit Go.Sh

/-- what is known of a program in form -/
structure Fm (p : Prg) : Prop where
  ops : ∀ i ∈ p.code, i.op.toNat ≤ 16
  ins : ∀ i ∈ p.code, shB i = true
  msgs : ∀ m ∈ p.msgs, m.length ≤ 7200
  rts : ∀ r ∈ p.rts, 1 ≤ r.length ∧ r.length ≤ 5 ∧ ∀ s ∈ r, wfN s.nm ∧ 0 ≤ s.dl ∧ s.dl ≤ 1000000 ∧ 0 ≤ s.fl ∧ s.fl ≤ 255
  snds : ∀ s ∈ p.snds, 1 ≤ s.rts.length ∧ s.rts.length ≤ 8 ∧ (∀ r ∈ s.rts, 0 ≤ r ∧ r ≤ 63) ∧ 0 ≤ s.msg ∧ s.msg ≤ 63 ∧ -1 ≤ s.blk ∧ s.blk ≤ 15
  n1 : p.code.length ≤ 4000
  n2 : p.msgs.length ≤ 64
  n3 : p.rts.length ≤ 64
  n4 : p.snds.length ≤ 64
  vars : 0 ≤ p.vars ∧ p.vars ≤ 64
  stack : 0 ≤ p.stack ∧ p.stack ≤ 64
  blocks : 0 ≤ p.blocks ∧ p.blocks ≤ 16
  fuel : 0 ≤ p.fuel ∧ p.fuel ≤ 1000000
theorem wi_is {n lo hi : Int} : wi n lo hi = true ↔ lo ≤ n ∧ n ≤ hi := by unfold wi; rw [Bool.and_eq_true, decide_eq_true_eq, decide_eq_true_eq]
theorem fm_of {p : Prg} (h : ckP p = 0) : Fm p := by
  unfold ckP at h
  split at h
  · cases h
  · rename_i h1
    split at h
    · cases h
    · rename_i h2
      split at h
      · cases h
      · rename_i h3
        rw [Bool.not_eq_false] at h1 h2 h3
        unfold fmB at h2
        unfold bdB at h3
        simp only [Bool.and_eq_true, List.all_eq_true, decide_eq_true_eq, wi_is] at h1 h2 h3
        refine ⟨fun i hi => ?_, h2.1.1.1, h2.1.1.2, fun r hr => ?_, fun s hs => ?_, h3.1.1.1.1.1.1.1, h3.1.1.1.1.1.1.2, h3.1.1.1.1.1.2, h3.1.1.1.1.2, h3.1.1.1.2, h3.1.1.2, h3.1.2, h3.2⟩
        · have := h1 i hi
          unfold usB at this
          rw [decide_eq_true_eq] at this
          exact this
        · have := h2.1.2 r hr
          unfold rtB at this
          simp only [Bool.and_eq_true, decide_eq_true_eq, List.all_eq_true] at this
          refine ⟨this.1.1, this.1.2, fun s hs => ?_⟩
          have h5 := this.2 s hs
          unfold stB nmB at h5
          simp only [Bool.and_eq_true, decide_eq_true_eq, wi_is] at h5
          exact ⟨h5.1.1, h5.1.2.1, h5.1.2.2, h5.2.1, h5.2.2⟩
        · have := h2.2 s hs
          unfold sdB at this
          simp only [Bool.and_eq_true, decide_eq_true_eq, List.all_eq_true, wi_is] at this
          exact ⟨this.1.1.1.1, this.1.1.1.2, this.1.1.2, this.1.2.1, this.1.2.2, this.2.1, this.2.2⟩
/-- a name's bytes -/
def nmL (s : ByteArray) : List UInt8 := s.data.toList
def encI (i : Ins) : List UInt8 := i.op :: (beB 4 i.a ++ beB 2 i.b)
def encM (m : List UInt8) : List UInt8 := beB 2 (m.length : Int) ++ m
def encT (s : Sp) : List UInt8 := beB 1 (s.nm.size : Int) ++ (nmL s.nm ++ (beB 4 s.dl ++ beB 1 s.fl))
def encRt (r : List Sp) : List UInt8 := beB 1 (r.length : Int) ++ r.flatMap encT
def encSd (s : Snd) : List UInt8 := beB 1 s.msg ++ (beB 1 (s.rts.length : Int) ++ (s.rts.flatMap (beB 1) ++ beB 1 (s.blk + 1)))
def headsP (p : Prg) : List Int := [p.code.length, p.msgs.length, p.rts.length, p.snds.length, p.vars, p.stack, p.blocks]
def tl3 (p : Prg) : List UInt8 := p.snds.flatMap encSd
def tl2 (p : Prg) : List UInt8 := p.rts.flatMap encRt ++ tl3 p
def tl1 (p : Prg) : List UInt8 := p.msgs.flatMap encM ++ tl2 p
def tl0 (p : Prg) : List UInt8 := beB 4 p.fuel ++ (p.code.flatMap encI ++ tl1 p)
/-- the bytes of a program -/
def encP (p : Prg) : List UInt8 := [115, 104, 108, 49] ++ ((headsP p).flatMap (beB 2) ++ tl0 p)
theorem flat_len {α β : Type} {f : α → List β} {B : Nat} : ∀ {l : List α}, (∀ x ∈ l, (f x).length ≤ B) → (l.flatMap f).length ≤ l.length * B
  | [], _ => by simp
  | x :: l, h => by
    rw [List.flatMap_cons, List.length_append, List.length_cons, Nat.add_mul]
    have h1 := h x (List.mem_cons_self ..)
    have h2 := flat_len (l := l) fun y hy => h y (List.mem_cons_of_mem _ hy)
    omega
theorem drop_flat {α β : Type} {f : α → List β} {l : List α} {k : Nat} {x : α} (h : l[k]? = some x) (R : List β) : (l.drop k).flatMap f ++ R = f x ++ ((l.drop (k + 1)).flatMap f ++ R) := by
  obtain ⟨hk, e⟩ := List.getElem?_eq_some_iff.1 h
  rw [List.drop_eq_getElem_cons hk, List.flatMap_cons, e, List.append_assoc]
theorem drop_end {α β : Type} {f : α → List β} {l : List α} {k : Nat} (h : l.length ≤ k) (R : List β) : (l.drop k).flatMap f ++ R = R := by
  rw [List.drop_eq_nil_of_le h]; rfl
theorem nmL_len (s : ByteArray) : (nmL s).length = s.size := rfl
theorem encP_len {p : Prg} (h : ckP p = 0) : (encP p).length ≤ 1000000 := by
  have hf := fm_of h
  have h1 : (p.code.flatMap encI).length ≤ p.code.length * 7 := flat_len fun i _ => by
    unfold encI; rw [List.length_cons, List.length_append, beB_len, beB_len]; omega
  have h2 : (p.msgs.flatMap encM).length ≤ p.msgs.length * 7202 := flat_len fun m hm => by
    unfold encM; rw [List.length_append, beB_len]; have := hf.msgs m hm; omega
  have h3 : (p.rts.flatMap encRt).length ≤ p.rts.length * 111 := flat_len fun r hr => by
    unfold encRt
    rw [List.length_append, beB_len]
    have h4 : (r.flatMap encT).length ≤ r.length * 22 := flat_len fun s hs => by
      unfold encT
      rw [List.length_append, List.length_append, List.length_append, beB_len, beB_len, beB_len, nmL_len]
      have := ((hf.rts r hr).2.2 s hs).1.2.1
      omega
    have := (hf.rts r hr).2.1
    omega
  have h5 : (p.snds.flatMap encSd).length ≤ p.snds.length * 11 := flat_len fun s hs => by
    unfold encSd
    rw [List.length_append, List.length_append, List.length_append, beB_len, beB_len, beB_len]
    have h4 : (s.rts.flatMap (beB 1)).length ≤ s.rts.length * 1 := flat_len fun r _ => by rw [beB_len]; exact Nat.le_refl _
    have := (hf.snds s hs).2.1
    omega
  have h0 : ((headsP p).flatMap (beB 2)).length ≤ (headsP p).length * 2 := flat_len fun r _ => by rw [beB_len]; exact Nat.le_refl _
  rw [show (headsP p).length = 7 from rfl] at h0
  have g1 := hf.n1
  have g2 := hf.n2
  have g3 := hf.n3
  have g4 := hf.n4
  unfold encP tl0 tl1 tl2 tl3
  simp only [List.length_append, beB_len, List.length_cons, List.length_nil]
  omega
end Go.Proofs.YtkmcjjoicpgjfaaDoor
/-
  A string's bytes are appended to a row of the call's own: with word on where the new row lies. No statement of the seat is proved here.
-/
namespace Go.Proofs.YtkmcjjoicpgjfaaDoor
open Go Go.RowKit Go.Sh

theorem strCells_bv (s : ByteArray) : Go.Lib.strCells s = bv (nmL s) := rfl
theorem run_appS (w : World) (ty base : Nat) (A : Option Addr) (n c : Nat) (l : List UInt8) (hown : w.ownsRow base 5 1 (.slice A n c) n (bv l)) (hn : 0 < n) (s : ByteArray) (hbytes : n + s.size ≤ 140737488355328) (hbase : base ≤ w.heap.size) :
    ∃ A' c' w', (Builtin.append_ #[39, 9] ty #[.slice A n c, .string s]).run Tryd.prog w = .ok (.slice A' (n + s.size) c') w' ∧ w'.ownsRow base 5 1 (.slice A' (n + s.size) c') (n + s.size) (bv (l ++ nmL s)) ∧ w.grownBy w' (Value.slice A n c).ownBlock ∧
      ((Value.slice A' (n + s.size) c').ownBlock = (Value.slice A n c).ownBlock ∨ (Value.slice A' (n + s.size) c').ownBlock = some w.heap.size) := by
  obtain ⟨i, hi, hz, hsize, hby⟩ := info_parts TB.info
  have h63 : n + s.size ≤ maxLen := by simp only [maxLen]; omega
  obtain ⟨v', w', hr, h2, h3, _⟩ := Go.Lib.run_append_own_string (P := Tryd.prog) w base 39 9 ty 5 i Tryd.underlying39 Tryd.underlying9 hi hz hsize hby (.slice A n c) n (bv l) hown s h63 hbytes hbase
  rw [strCells_bv, ← bv_append] at h2
  rcases hown.2 with ⟨_, h0⟩ | ⟨g, cap, cur, hv, hbg, hg, hnc, hcm, hcs, htake⟩
  · omega
  · injection hv with hv1 hv2 hv3
    subst hv1 hv3
    by_cases hroom : n + s.size ≤ c
    · have hr2 := Go.Lib.run_append_room_string (P := Tryd.prog) w 39 9 ty 5 i Tryd.underlying39 Tryd.underlying9 hi hsize g n c cur hg s hroom (by omega)
      rw [hr2] at hr
      injection hr with e1 e2
      subst e1
      exact ⟨_, _, w', by rw [hr2, e2], h2, h3, .inl rfl⟩
    · have holds : ∀ j u, (bv l)[j]? = some u → w.cell? ((⟨g, 0, none⟩ : Addr).add j) = some u := hown.cells (g := g) rfl
      have hr2 := Go.Lib.run_append_grow_string (P := Tryd.prog) w 39 9 ty 5 i (.int .u8 0) Tryd.underlying39 Tryd.underlying9 hi hz ⟨g, 0, none⟩ n c (bv l) (by rw [hsize]; exact hown.1) holds s (by omega) (by omega) (growslice_fits (by omega) (by rw [hby]; omega))
      rw [hr2] at hr
      injection hr with e1 e2
      subst e1
      exact ⟨_, _, w', by rw [hr2, e2], h2, h3, .inr rfl⟩
theorem step_appS {w : World} {ops : Array Oper} {o : Oper} {a : Act} {K : Act → World → Prop} {Q : Exit → Act → World → Prop} {Er : Prop} (hw : Region.wanted o (yielded ops a.tmps) = true) (sl x : Operand)
    (ho : o.op = .call { callee := .builtin .append, args := #[sl, x], argTypes := #[39, 9] })
    (A0 : Option Addr) (n c0 : Nat) (hs : a.eval sl = .slice A0 n c0) (s : ByteArray) (hx : a.eval x = .string s)
    (base : Nat) (rest E : List UInt8) (hown : OWr base w A0 n c0 (nmL s ++ rest) E) (hn : 0 < n) (hE : E.length ≤ 140737488355000) (hbase : base ≤ w.heap.size)
    (h : ∀ A' c' w', OWr base w' A' (n + s.size) c' rest E → Below base w w' → Far w w' (.slice A0 n c0) (.slice A' (n + s.size) c') → K (a.put o.dst (.slice A' (n + s.size) c')) w') :
    if Region.wanted o (yielded ops a.tmps) = true then Oper.wp Tryd.prog o a w K Q else Er := by
  rw [if_pos hw]
  obtain ⟨l, h1, h2⟩ := hown
  have hl : n + s.size ≤ 140737488355000 := by
    have h3 := congrArg List.length h2
    have h4 := h1.1
    rw [length_bv] at h4
    rw [List.length_append, List.length_append, nmL_len] at h3
    omega
  obtain ⟨A', c', w', hr, g1, g2, g3⟩ := run_appS w o.type base A0 n c0 l h1 hn s (by omega) hbase
  exact Lib.wp_append_run w sl x 39 9 ho _ _ hs hx _ _ hr (h A' c' w' ⟨l ++ nmL s, g1, by rw [← h2, List.append_assoc]⟩ ((Below.refl base w).grown g2 hbase (own_drop h1)) (Far.of_grown g2 g3))
end Go.Proofs.YtkmcjjoicpgjfaaDoor
/-
  Contract of code.Encode: a program's bytes, or the error of its form. Conditions: the sizes that slices can have.
-/
namespace Go.Proofs.YtkmcjjoicpgjfaaDoor
open Go Go.RowKit Go.Sh

theorem step_appO {w : World} {ops : Array Oper} {o : Oper} {a : Act} {K : Act → World → Prop} {Q : Exit → Act → World → Prop} {Er : Prop} (hw : Region.wanted o (yielded ops a.tmps) = true) (s x : Operand)
    (ho : o.op = .call { callee := .builtin .append, args := #[s, x], argTypes := #[39, 39] })
    (A0 : Option Addr) (n c0 : Nat) (hs : a.eval s = .slice A0 n c0) (A : Option Addr) (m c : Nat) (hx : a.eval x = .slice A m c)
    (base : Nat) (rest E : List UInt8) (B : Nat) (news : List UInt8) (hown : OWr base w A0 n c0 (news ++ rest) E)
    (hr : RB w B A m news) (hE : E.length ≤ 140737488355000) (hbase : base ≤ w.heap.size)
    (h : ∀ A' c' w', OWr base w' A' (n + m) c' rest E → Below base w w' → Far w w' (.slice A0 n c0) (.slice A' (n + m) c') → K (a.put o.dst (.slice A' (n + m) c')) w') :
    if Region.wanted o (yielded ops a.tmps) = true then Oper.wp Tryd.prog o a w K Q else Er := by
  obtain ⟨l, h1, h2⟩ := hown
  have hl : n + m ≤ 140737488355000 := by
    have h3 := congrArg List.length h2
    have h4 := h1.1
    have h5 := hr.len
    rw [length_bv] at h4
    rw [List.length_append, List.length_append] at h3
    omega
  exact step_app TB hw s x ho _ hs A m c hx base n (bv l) h1 B (bv news) hr (bv_one _) (by omega) (by omega) hbase fun A' c' w' g1 g2 g3 => h A' c' w' ⟨l ++ news, by rw [bv_append]; exact g1, by rw [← h2, List.append_assoc]⟩ ((Below.refl base w).grown g2 hbase (own_drop h1)) (Far.of_grown g2 g3)
theorem wl_appO {w : World} {ops : Array Oper} {rs : List Oper} {o : Oper} {a : Act} {Q : Exit → Act → World → Prop} (hw : Region.wanted o (yielded ops a.tmps) = true) (s x : Operand)
    (ho : o.op = .call { callee := .builtin .append, args := #[s, x], argTypes := #[39, 39] })
    (A0 : Option Addr) (n c0 : Nat) (hs : a.eval s = .slice A0 n c0) (A : Option Addr) (m c : Nat) (hx : a.eval x = .slice A m c)
    (base : Nat) (rest E : List UInt8) (B : Nat) (news : List UInt8) (hown : OWr base w A0 n c0 (news ++ rest) E)
    (hr : RB w B A m news) (hE : E.length ≤ 140737488355000) (hbase : base ≤ w.heap.size)
    (h : ∀ A' c' w', OWr base w' A' (n + m) c' rest E → Below base w w' → Far w w' (.slice A0 n c0) (.slice A' (n + m) c') → wpList Tryd.prog ops Q rs (a.put o.dst (.slice A' (n + m) c')) w') : wpList Tryd.prog ops Q (o :: rs) a w := by
  obtain ⟨l, h1, h2⟩ := hown
  have hl : n + m ≤ 140737488355000 := by
    have h3 := congrArg List.length h2
    have h4 := h1.1
    have h5 := hr.len
    rw [length_bv] at h4
    rw [List.length_append, List.length_append] at h3
    omega
  exact wl_app TB hw s x ho _ hs A m c hx base n (bv l) h1 B (bv news) hr (bv_one _) (by omega) (by omega) hbase fun A' c' w' g1 g2 g3 => h A' c' w' ⟨l ++ news, by rw [bv_append]; exact g1, by rw [← h2, List.append_assoc]⟩ ((Below.refl base w).grown g2 hbase (own_drop h1)) (Far.of_grown g2 g3)
theorem itI_eq {l : List Int} {k : Nat} (h : k < l.length) : l[k]? = some (it l k) := by
  unfold it
  rw [List.getD_eq_getElem?_getD, List.getElem?_eq_getElem h, Option.getD_some]
/-- a constant string's bytes: full, marked -/
theorem EO.marked (w : World) (base : Nat) (hB : base ≤ w.heap.size) (l : List UInt8) (cs : Array Value) (hc : cs.toList = bv l) (n : Nat) (hn : l.length = n) (fr : Nat × Nat) : EO base (w.alloc (.cells cs 5 fr)) (some ⟨w.heap.size, 0, none⟩) n n l := by
  refine .inr ⟨rfl, hn, _, rfl, hB, by simp, fun j hj => ?_⟩
  rw [add_mk, blk_cell (heap_alloc_new w _), Nat.zero_add, ← hc]
  simp
theorem putD_any (d : Nat) (D n : Int) (hD : D = (d : Int)) (hd0 : 1 ≤ d) (hd : d ≤ 4) (A : Option Addr) (m c : Nat) (w : World) (base : Nat) (rest E : List UInt8) (ho : EOr base w A m c (beB d n ++ rest) E) (hB : base ≤ w.heap.size) (hE : E.length ≤ 140737488355000) :
    Calls Tryd.prog 51 #[.slice A m c, .int .i64 D, .int .i64 n] w (fun e w' => ∃ A' m' c', e = .returned (.slice A' m' c') ∧ OWr base w' A' m' c' rest E ∧ Below base w w' ∧ Far w w' (.slice A m c) (.slice A' m' c') ∧ 0 < m') := by
  subst hD
  exact putR_any d n hd0 hd A m c w base rest E ho hB hE
set_option maxRecDepth 100000 in
set_option maxHeartbeats 16000000 in
theorem Encode_any (d : Pad) (p : Prg) (w : World) (B : Nat) (hp : PR w B d p) (hB : B ≤ w.heap.size) :
    Calls Tryd.prog 17 #[.agg (pcs d p)] w (fun e w' => Below w.heap.size w w' ∧ ((ckP p ≠ 0 ∧ e = .returned (.tuple #[.slice none 0 0, .int .i64 (ckP p)])) ∨ (ckP p = 0 ∧ ∃ A n c, e = .returned (.tuple #[.slice A n c, .int .i64 0]) ∧ (encP p).length = n ∧ w'.ownsRow w.heap.size 5 1 (.slice A n c) n (bv (encP p))))) := by
  have hb1 := (Below.refl w.heap.size w).alloc (Nat.le_refl _) (.cells (pcs d p) 30)
  have HB1 := Lib.hid hb1
  have HPR := Lib.hid (hp.below (hb1.mono hB))
  have HBX := Lib.hid (show (w.alloc (.cells (pcs d p) 30)).heap[w.heap.size]? = some (.cells (pcs d p).toList.toArray 30 (0, 0)) from heap_alloc_new w _)
  have hps : (pcs d p).size = 8 := rfl
  have hz1 : (w.alloc (.cells (pcs d p) 30)).heap.size = w.heap.size + 1 := by simp
  have HCK := Lib.hid (fun (W : World) (h : PR W B d p) (hB : B ≤ W.heap.size) => CodeCheck_any d p W B h hB)
  have HI := Lib.hid (show (Tryd.prog.info? 30).map (·.size) = some (pcs d p).toList.length by rw [show (pcs d p).toList.length = 8 from rfl]; exact info_prog)
  have HFM := Lib.hid (fun h : ckP p = 0 => fm_of h)
  have HLE := Lib.hid (fun h : ckP p = 0 => encP_len h)
  have HEN := Lib.hid (show [115, 104, 108, 49] ++ ((headsP p).flatMap (beB 2) ++ tl0 p) = encP p from rfl)
  have HL1 := Lib.hid (show p.code.length = d.n1 by have := hp.code.len; rw [List.length_map] at this; exact this)
  have HL2 := Lib.hid (show p.msgs.length = d.n2 from hp.msgs.len)
  have HL3 := Lib.hid (show p.rts.length = d.n3 from hp.rts.len)
  have HL4 := Lib.hid (show p.snds.length = d.n4 from hp.snds.len)
  have HHS := Lib.hid (show headsP p = [(d.n1 : Int), (d.n2 : Int), (d.n3 : Int), (d.n4 : Int), p.vars, p.stack, p.blocks] by unfold headsP; rw [HL1.out, HL2.out, HL3.out, HL4.out])
  generalize headsP p = hs at *
  have HT0 := Lib.hid (show tl0 p = beB 4 p.fuel ++ (p.code.flatMap encI ++ tl1 p) from rfl)
  have HT1 := Lib.hid (show tl1 p = p.msgs.flatMap encM ++ tl2 p from rfl)
  have HT2 := Lib.hid (show tl2 p = p.rts.flatMap encRt ++ tl3 p from rfl)
  have HT3 := Lib.hid (show tl3 p = p.snds.flatMap encSd ++ [] by rw [List.append_nil]; rfl)
  generalize tl0 p = T0 at *
  generalize tl1 p = T1 at *
  generalize tl2 p = T2 at *
  generalize tl3 p = T3 at *
  generalize encP p = E at *
  generalize ckP p = ck at *
  have e0 : (pcs d p).toList[0]? = some (.slice d.A1 d.n1 d.c1) := rfl
  have e1 : (pcs d p).toList[1]? = some (.slice d.A2 d.n2 d.c2) := rfl
  have e2 : (pcs d p).toList[2]? = some (.slice d.A3 d.n3 d.c3) := rfl
  have e3 : (pcs d p).toList[3]? = some (.slice d.A4 d.n4 d.c4) := rfl
  have e4 : (pcs d p).toList[4]? = some (.int .i64 p.vars) := rfl
  have e5 : (pcs d p).toList[5]? = some (.int .i64 p.stack) := rfl
  have e6 : (pcs d p).toList[6]? = some (.int .i64 p.blocks) := rfl
  have e7 : (pcs d p).toList[7]? = some (.int .i64 p.fuel) := rfl
  have HEL := Lib.hid (And.intro e0 (And.intro e1 (And.intro e2 (And.intro e3 (And.intro e4 (And.intro e5 (And.intro e6 e7)))))))
  clear e0 e1 e2 e3 e4 e5 e6 e7 hp hb1
  obtain ⟨X, hX⟩ : ∃ X, pcs d p = X := ⟨_, rfl⟩
  have HTA := Lib.hid (show (pcs d p).toList.toArray = X by rw [hX])
  rw [hX] at HB1 HPR hps hz1 HCK ⊢
  have hxe : ¬ X = #[] := by intro h; rw [h] at hps; cases hps
  have HBX1 := Lib.hid (show (w.alloc (.cells X 30)).heap[w.heap.size]? = some (.cells (pcs d p).toList.toArray 30 (0, 0)) by rw [← hX]; exact HBX.out)
  clear hX HBX
  generalize (pcs d p).toList = L at *
  go_enter Tryd.func17, Tryd.ntmps17
  have HRNG := Lib.hid (blk_range HBX1.out)
  go_wp2_with (refine wl_load_mid rfl 30 (.tmp 1) rfl w.heap.size 0 rfl L _ HRNG.out Tryd.underlying30 rfl HI.out ?_; rw [HTA.out])
  clear HRNG
  generalize w.alloc (.cells X 30) = w1 at *
  obtain ⟨g, hg⟩ : ∃ g, w.heap.size = g := ⟨_, rfl⟩
  have HG := Lib.hid hg
  rw [hg] at hB hz1 HB1 HBX1 ⊢
  clear hg
  have HFR := Lib.hid (fun (W : World) (h : Below (g + 1) w1 W) (j : Nat) (v : Value) (hv : L[j]? = some v) => show W.cell? ⟨g, j, none⟩ = some v by rw [blk_cell ((h.block g (Nat.lt_succ_self _)).trans HBX1.out), List.getElem?_toArray]; exact hv)
  refine (HCK.out w1 HPR.out (by omega)).mono ?_
  rintro e w2 ⟨rfl, hb2⟩
  rw [hz1] at hb2
  have HB2 := Lib.hid hb2
  have hs2 := hb2.size
  clear hb2 HCK HTA
  by_cases hck : ck = 0
  case neg =>
    have hne : (ck != 0) = true := by rw [bne_iff_ne]; exact hck
    have HNE := Lib.hid hck
    clear hck
    go_wp2_with fail
    go_ret2
    exact ⟨by rw [HG.out]; exact HB1.out.trans (HB2.out.mono (Nat.le_succ _)), .inl ⟨HNE.out, rfl⟩⟩
  case pos =>
    have HFMM := Lib.hid (HFM.out hck)
    have hEl := HLE.out hck
    have HLEN := Lib.hid (show E.length ≤ 140737488355000 by omega)
    subst hck
    clear HFM HLE hEl
    have hcv := fun (W : World) (C : Array Value) (n c : Nat) => Lib.run_convert_bytes_const (P := Tryd.prog) W 39 5 C n c Tryd.underlying39 Tryd.underlying5
    have hb3 := (Below.refl w2.heap.size w2).alloc (Nat.le_refl _) (.cells #[.int .u8 115, .int .u8 104, .int .u8 108, .int .u8 49] 5 (4, 5))
    have HB3 := Lib.hid (HB2.out.trans (hb3.mono (by omega)))
    have HO3 := Lib.hid (show EOr (g + 1) (w2.alloc (.cells #[.int .u8 115, .int .u8 104, .int .u8 108, .int .u8 49] 5 (4, 5))) (some ⟨w2.heap.size, 0, none⟩) 4 4 ((hs.drop 0).flatMap (beB 2) ++ T0) E from ⟨[115, 104, 108, 49], EO.marked w2 (g + 1) (by omega) [115, 104, 108, 49] #[.int .u8 115, .int .u8 104, .int .u8 108, .int .u8 49] rfl 4 rfl (4, 5), HEN.out⟩)
    have hz3 : (w2.alloc (.cells #[.int .u8 115, .int .u8 104, .int .u8 108, .int .u8 49] 5 (4, 5))).heap.size = w2.heap.size + 1 := by simp
    have HP1 := Lib.hid (fun (A : Option Addr) (m c : Nat) (n : Int) (W : World) (rest : List UInt8) (h : EOr (g + 1) W A m c (beB 1 n ++ rest) E) (hB : g + 1 ≤ W.heap.size) => putD_any 1 1 n rfl (by decide) (by decide) A m c W (g + 1) rest E h hB HLEN.out)
    have HP2 := Lib.hid (fun (A : Option Addr) (m c : Nat) (n : Int) (W : World) (rest : List UInt8) (h : EOr (g + 1) W A m c (beB 2 n ++ rest) E) (hB : g + 1 ≤ W.heap.size) => putD_any 2 2 n rfl (by decide) (by decide) A m c W (g + 1) rest E h hB HLEN.out)
    have HP4 := Lib.hid (fun (A : Option Addr) (m c : Nat) (n : Int) (W : World) (rest : List UInt8) (h : EOr (g + 1) W A m c (beB 4 n ++ rest) E) (hB : g + 1 ≤ W.heap.size) => putD_any 4 4 n rfl (by decide) (by decide) A m c W (g + 1) rest E h hB HLEN.out)
    obtain ⟨e0, e1, e2, e3, e4, e5, e6, e7⟩ := HEL.out
    have k0 := HFR.out _ HB3.out 0 _ e0
    have k1 := HFR.out _ HB3.out 1 _ e1
    have k2 := HFR.out _ HB3.out 2 _ e2
    have k3 := HFR.out _ HB3.out 3 _ e3
    have k4 := HFR.out _ HB3.out 4 _ e4
    have k5 := HFR.out _ HB3.out 5 _ e5
    have k6 := HFR.out _ HB3.out 6 _ e6
    clear e0 e1 e2 e3 e4 e5 e6 e7 hb3
    go_wp2_with fail
    generalize w2.alloc (.cells #[.int .u8 115, .int .u8 104, .int .u8 108, .int .u8 49] 5 (4, 5)) = w3 at *
    clear hcv k0 k1 k2 k3 k4 k5 k6
    go_loopw [5, 7, 46] (fun o _ i wr => ∃ (k : Nat) (A : Option Addr) (m c : Nat), k ≤ 7 ∧ i = .int .i64 (k : Int) ∧ o = .slice A m c ∧ EOr (g + 1) wr A m c ((hs.drop k).flatMap (beB 2) ++ T0) E ∧ Below (g + 1) w1 wr) (fun _ _ i _ => 7 - (intOf i).toNat)
    case atStart => exact ⟨0, some ⟨w2.heap.size, 0, none⟩, 4, 4, by omega, rfl, rfl, HO3.out, HB3.out⟩
    case round =>
      obtain ⟨k, A, m, c, hk, rfl, rfl, ho, hb⟩ := hrel
      have HO := Lib.hid ho
      have HBr := Lib.hid hb
      have hzr := hb.size
      clear ho hb HO3 HB3
      rcases (show k = 0 ∨ k = 1 ∨ k = 2 ∨ k = 3 ∨ k = 4 ∨ k = 5 ∨ k = 6 ∨ k = 7 by omega) with rfl | rfl | rfl | rfl | rfl | rfl | rfl | rfl
      · have hix : ∀ W : World, (Instr.index 97 (.agg #[.int .i64 ((d.n1 : Int)), .int .i64 ((d.n2 : Int)), .int .i64 ((d.n3 : Int)), .int .i64 ((d.n4 : Int)), .int .i64 (p.vars), .int .i64 (p.stack), .int .i64 (p.blocks)]) (.int .i64 0)).run Tryd.prog W = .ok (.int .i64 ((d.n1 : Int))) W := fun _ => by kernel_rfl
        go_wp2_with fail
        refine (putD_any 2 2 (d.n1 : Int) rfl (by decide) (by decide) A m c _ (g + 1) ((hs.drop 1).flatMap (beB 2) ++ T0) E (HO.out.to (drop_flat (by rw [HHS.out]; rfl) _)) (by omega) HLEN.out).mono ?_
        rintro e w4 ⟨A4, m4, c4, rfl, ho4, hb4, _⟩
        have HO4 := Lib.hid ho4.eo
        have HB4 := Lib.hid (HBr.out.trans hb4)
        clear ho4 hb4
        go_wp2_with fail
        exact ⟨⟨1, A4, m4, c4, by decide, rfl, rfl, HO4.out, HB4.out⟩, by simp [intOf]⟩
      · have hix : ∀ W : World, (Instr.index 97 (.agg #[.int .i64 ((d.n1 : Int)), .int .i64 ((d.n2 : Int)), .int .i64 ((d.n3 : Int)), .int .i64 ((d.n4 : Int)), .int .i64 (p.vars), .int .i64 (p.stack), .int .i64 (p.blocks)]) (.int .i64 1)).run Tryd.prog W = .ok (.int .i64 ((d.n2 : Int))) W := fun _ => by kernel_rfl
        go_wp2_with fail
        refine (putD_any 2 2 (d.n2 : Int) rfl (by decide) (by decide) A m c _ (g + 1) ((hs.drop 2).flatMap (beB 2) ++ T0) E (HO.out.to (drop_flat (by rw [HHS.out]; rfl) _)) (by omega) HLEN.out).mono ?_
        rintro e w4 ⟨A4, m4, c4, rfl, ho4, hb4, _⟩
        have HO4 := Lib.hid ho4.eo
        have HB4 := Lib.hid (HBr.out.trans hb4)
        clear ho4 hb4
        go_wp2_with fail
        exact ⟨⟨2, A4, m4, c4, by decide, rfl, rfl, HO4.out, HB4.out⟩, by simp [intOf]⟩
      · have hix : ∀ W : World, (Instr.index 97 (.agg #[.int .i64 ((d.n1 : Int)), .int .i64 ((d.n2 : Int)), .int .i64 ((d.n3 : Int)), .int .i64 ((d.n4 : Int)), .int .i64 (p.vars), .int .i64 (p.stack), .int .i64 (p.blocks)]) (.int .i64 2)).run Tryd.prog W = .ok (.int .i64 ((d.n3 : Int))) W := fun _ => by kernel_rfl
        go_wp2_with fail
        refine (putD_any 2 2 (d.n3 : Int) rfl (by decide) (by decide) A m c _ (g + 1) ((hs.drop 3).flatMap (beB 2) ++ T0) E (HO.out.to (drop_flat (by rw [HHS.out]; rfl) _)) (by omega) HLEN.out).mono ?_
        rintro e w4 ⟨A4, m4, c4, rfl, ho4, hb4, _⟩
        have HO4 := Lib.hid ho4.eo
        have HB4 := Lib.hid (HBr.out.trans hb4)
        clear ho4 hb4
        go_wp2_with fail
        exact ⟨⟨3, A4, m4, c4, by decide, rfl, rfl, HO4.out, HB4.out⟩, by simp [intOf]⟩
      · have hix : ∀ W : World, (Instr.index 97 (.agg #[.int .i64 ((d.n1 : Int)), .int .i64 ((d.n2 : Int)), .int .i64 ((d.n3 : Int)), .int .i64 ((d.n4 : Int)), .int .i64 (p.vars), .int .i64 (p.stack), .int .i64 (p.blocks)]) (.int .i64 3)).run Tryd.prog W = .ok (.int .i64 ((d.n4 : Int))) W := fun _ => by kernel_rfl
        go_wp2_with fail
        refine (putD_any 2 2 (d.n4 : Int) rfl (by decide) (by decide) A m c _ (g + 1) ((hs.drop 4).flatMap (beB 2) ++ T0) E (HO.out.to (drop_flat (by rw [HHS.out]; rfl) _)) (by omega) HLEN.out).mono ?_
        rintro e w4 ⟨A4, m4, c4, rfl, ho4, hb4, _⟩
        have HO4 := Lib.hid ho4.eo
        have HB4 := Lib.hid (HBr.out.trans hb4)
        clear ho4 hb4
        go_wp2_with fail
        exact ⟨⟨4, A4, m4, c4, by decide, rfl, rfl, HO4.out, HB4.out⟩, by simp [intOf]⟩
      · have hix : ∀ W : World, (Instr.index 97 (.agg #[.int .i64 ((d.n1 : Int)), .int .i64 ((d.n2 : Int)), .int .i64 ((d.n3 : Int)), .int .i64 ((d.n4 : Int)), .int .i64 (p.vars), .int .i64 (p.stack), .int .i64 (p.blocks)]) (.int .i64 4)).run Tryd.prog W = .ok (.int .i64 (p.vars)) W := fun _ => by kernel_rfl
        go_wp2_with fail
        refine (putD_any 2 2 p.vars rfl (by decide) (by decide) A m c _ (g + 1) ((hs.drop 5).flatMap (beB 2) ++ T0) E (HO.out.to (drop_flat (by rw [HHS.out]; rfl) _)) (by omega) HLEN.out).mono ?_
        rintro e w4 ⟨A4, m4, c4, rfl, ho4, hb4, _⟩
        have HO4 := Lib.hid ho4.eo
        have HB4 := Lib.hid (HBr.out.trans hb4)
        clear ho4 hb4
        go_wp2_with fail
        exact ⟨⟨5, A4, m4, c4, by decide, rfl, rfl, HO4.out, HB4.out⟩, by simp [intOf]⟩
      · have hix : ∀ W : World, (Instr.index 97 (.agg #[.int .i64 ((d.n1 : Int)), .int .i64 ((d.n2 : Int)), .int .i64 ((d.n3 : Int)), .int .i64 ((d.n4 : Int)), .int .i64 (p.vars), .int .i64 (p.stack), .int .i64 (p.blocks)]) (.int .i64 5)).run Tryd.prog W = .ok (.int .i64 (p.stack)) W := fun _ => by kernel_rfl
        go_wp2_with fail
        refine (putD_any 2 2 p.stack rfl (by decide) (by decide) A m c _ (g + 1) ((hs.drop 6).flatMap (beB 2) ++ T0) E (HO.out.to (drop_flat (by rw [HHS.out]; rfl) _)) (by omega) HLEN.out).mono ?_
        rintro e w4 ⟨A4, m4, c4, rfl, ho4, hb4, _⟩
        have HO4 := Lib.hid ho4.eo
        have HB4 := Lib.hid (HBr.out.trans hb4)
        clear ho4 hb4
        go_wp2_with fail
        exact ⟨⟨6, A4, m4, c4, by decide, rfl, rfl, HO4.out, HB4.out⟩, by simp [intOf]⟩
      · have hix : ∀ W : World, (Instr.index 97 (.agg #[.int .i64 ((d.n1 : Int)), .int .i64 ((d.n2 : Int)), .int .i64 ((d.n3 : Int)), .int .i64 ((d.n4 : Int)), .int .i64 (p.vars), .int .i64 (p.stack), .int .i64 (p.blocks)]) (.int .i64 6)).run Tryd.prog W = .ok (.int .i64 (p.blocks)) W := fun _ => by kernel_rfl
        go_wp2_with fail
        refine (putD_any 2 2 p.blocks rfl (by decide) (by decide) A m c _ (g + 1) ((hs.drop 7).flatMap (beB 2) ++ T0) E (HO.out.to (drop_flat (by rw [HHS.out]; rfl) _)) (by omega) HLEN.out).mono ?_
        rintro e w4 ⟨A4, m4, c4, rfl, ho4, hb4, _⟩
        have HO4 := Lib.hid ho4.eo
        have HB4 := Lib.hid (HBr.out.trans hb4)
        clear ho4 hb4
        go_wp2_with fail
        exact ⟨⟨7, A4, m4, c4, by decide, rfl, rfl, HO4.out, HB4.out⟩, by simp [intOf]⟩
      · have HO7 := Lib.hid (HO.out.to (show (hs.drop 7).flatMap (beB 2) ++ T0 = beB 4 p.fuel ++ (p.code.flatMap encI ++ T1) by rw [drop_end (by rw [HHS.out]; exact Nat.le_refl _), HT0.out]))
        have k7 := HFR.out _ HBr.out 7 _ HEL.out.2.2.2.2.2.2.2
        clear HO
        go_wp2_with fail
        refine (putD_any 4 4 p.fuel rfl (by decide) (by decide) A m c _ (g + 1) (p.code.flatMap encI ++ T1) E HO7.out (by omega) HLEN.out).mono ?_
        rintro e w5 ⟨A5, m5, c5, rfl, ho5, hb5, _⟩
        have HO5 := Lib.hid ho5
        have HB5 := Lib.hid (HBr.out.trans hb5)
        have k0 := HFR.out _ HB5.out 0 _ HEL.out.1
        have hz5 := HB5.out.size
        clear ho5 hb5 HO7 HBr k7 hzr HHS HEN HT0
        go_wp2_with fail
        clear k0
        have hn1 : d.n1 ≤ 4000 := by have := HFMM.out.n1; rw [HL1.out] at this; exact this
        go_loopw [5, 9, 60] (fun o _ i wr => ∃ (k : Nat) (A : Option Addr) (m c : Nat), k ≤ d.n1 ∧ i = .int .i64 (k : Int) ∧ o = .slice A m c ∧ OWr (g + 1) wr A m c ((p.code.drop k).flatMap encI ++ T1) E ∧ Below (g + 1) w1 wr) (fun _ _ i _ => d.n1 - (intOf i).toNat)
        case atStart => exact ⟨0, A5, m5, c5, by omega, rfl, rfl, HO5.out, HB5.out⟩
        case round =>
          obtain ⟨k, A, m, c, hk, rfl, rfl, ho, hb⟩ := hrel
          have HO := Lib.hid ho
          have HBr := Lib.hid hb
          have hzr := hb.size
          clear ho hb HO5 HB5
          by_cases hlt : k < d.n1
          · have dk : (k : Int) < (d.n1 : Int) := by omega
            obtain ⟨b, off, hA1, hbB, c0, c1, c2⟩ := ins_at (HPR.out.code.below (HBr.out.mono (by omega))) hlt
            rw [hA1]
            have HO2 := Lib.hid (HO.out.to (show _ = (iat p.code k).op :: (beB 4 (iat p.code k).a ++ (beB 2 (iat p.code k).b ++ ((p.code.drop (k + 1)).flatMap encI ++ T1))) by rw [drop_flat (iat_eq (by have := HL1.out; omega)) T1]; unfold encI; simp))
            obtain ⟨R0, hR0⟩ : ∃ R0, (p.code.drop (k + 1)).flatMap encI ++ T1 = R0 := ⟨_, rfl⟩
            rw [hR0] at HO2
            have HR0 := Lib.hid hR0
            clear hR0
            generalize iat p.code k = st at *
            obtain ⟨op, a, bb⟩ := st
            simp only at c0 c1 c2 HO2
            have hba := (Below.refl wr.heap.size wr).alloc (Nat.le_refl _) (.cells #[.int .u8 (op.toNat : Int), .int .i64 a, .int .i64 bb] 33)
            have HBA := Lib.hid (HBr.out.trans (hba.mono (by omega)))
            have HOA := Lib.hid (HO2.out.later hba)
            have hng := HO.out.not_new (k := wr.heap.size) (Nat.le_refl _)
            have HCA := Lib.hid (heap_alloc_new wr (.cells #[.int .u8 (op.toNat : Int), .int .i64 a, .int .i64 bb] 33))
            have hzA : (wr.alloc (.cells #[.int .u8 (op.toNat : Int), .int .i64 a, .int .i64 bb] 33)).heap.size = wr.heap.size + 1 := by simp
            clear hba HO HO2 HBr
            go_wp2_with fail
            generalize wr.alloc (.cells #[.int .u8 (op.toNat : Int), .int .i64 a, .int .i64 bb] 33) = wa at *
            clear c0 c1 c2
            obtain ⟨ga, hga⟩ : ∃ ga, wr.heap.size = ga := ⟨_, rfl⟩
            rw [hga] at HCA hzA hzr hng ⊢
            have HGA := Lib.hid hng
            clear hng
            have j0 : wa.cell? ⟨ga, 0, none⟩ = some (.int .u8 (op.toNat : Int)) := by rw [blk_cell HCA.out]; rfl
            have j1 : wa.cell? ⟨ga, 1, none⟩ = some (.int .i64 a) := by rw [blk_cell HCA.out]; rfl
            have j2 : wa.cell? ⟨ga, 2, none⟩ = some (.int .i64 bb) := by rw [blk_cell HCA.out]; rfl
            have hga2 : ga < wa.heap.size := by omega
            have hga3 : g + 1 ≤ ga := by omega
            have hga4 : g + 1 ≤ wa.heap.size := by omega
            clear hzA hga
            have hb14 : Below wa.heap.size wa (wa.alloc (.cells #[.int .u8 (op.toNat : Int)] 5)).drew := ((Below.refl _ _).alloc (Nat.le_refl _) _).drew
            have HBB := Lib.hid (HBA.out.trans (hb14.mono hga4))
            have HOB := Lib.hid (HOA.out.later hb14)
            have HNB := Lib.hid (HOA.out.not_new (k := wa.heap.size) (Nat.le_refl _))
            have HCB := Lib.hid ((hb14.block ga hga2).trans HCA.out)
            have HRB := Lib.hid (show RB (wa.alloc (.cells #[.int .u8 (op.toNat : Int)] 5)).drew (wa.heap.size + 1) (some ⟨wa.heap.size, 0, none⟩) 1 [op] from Reads.lit wa _ [.int .u8 (op.toNat : Int)] 1 1 rfl _ rfl)
            have hz14 : (wa.alloc (.cells #[.int .u8 (op.toNat : Int)] 5)).drew.heap.size = wa.heap.size + 1 := by show (wa.alloc _).heap.size = _; simp
            have hz15 : g + 1 ≤ (wa.alloc (.cells #[.int .u8 (op.toNat : Int)] 5)).drew.heap.size := by omega
            have hz16 : ga < (wa.alloc (.cells #[.int .u8 (op.toNat : Int)] 5)).drew.heap.size := by omega
            clear hb14
            go_region_held3 (fun w' => w'.cell? ⟨ga, 0, none⟩ = some (.int .u8 (op.toNat : Int)) ∧ w'.cell? ⟨ga, 1, none⟩ = some (.int .i64 a) ∧ w'.cell? ⟨ga, 2, none⟩ = some (.int .i64 bb)) (go_keep) (first | ((fail_if_success (go_simp; go_at_call 51)); refine step_appO (by rfl) (.tmp 64) (.tmp 67) (by rfl) A m c (by rfl) (some ⟨wa.heap.size, 0, none⟩) 1 1 (by rfl) (g + 1) (beB 4 a ++ (beB 2 bb ++ R0)) E (wa.heap.size + 1) [op] HOB.out HRB.out HLEN.out hz15 ?_; intro A5 c5 w5 ho5 hb5 hf5; have HO5 := Lib.hid ho5.eo; have HB5 := Lib.hid (HBB.out.trans hb5); have HF5 := Lib.hid (hf5 ga hz16 HGA.out); have hs5 := hb5.size; have hg5 : g + 1 ≤ w5.heap.size := Nat.le_trans hz15 hs5; have hg5a : ga < w5.heap.size := Nat.lt_of_lt_of_le hz16 hs5; have HC5 := Lib.hid (HF5.out.1.trans HCB.out); have ka0 : w5.cell? ⟨ga, 0, none⟩ = some (.int .u8 (op.toNat : Int)) := (by rw [blk_cell HC5.out]; rfl); have ka1 : w5.cell? ⟨ga, 1, none⟩ = some (.int .i64 a) := (by rw [blk_cell HC5.out]; rfl); have ka2 : w5.cell? ⟨ga, 2, none⟩ = some (.int .i64 bb) := (by rw [blk_cell HC5.out]; rfl); clear ho5 hb5 hf5) | (go_at_call 51; refine (HP2.out A6 m6 c6 bb w6 R0 HO6.out hg6).mono ?_; rintro e w7 ⟨A7, m7, c7, rfl, ho7, hb7, hf7, _⟩; have HO7 := Lib.hid ho7; have HB7 := Lib.hid (HB6.out.trans hb7); have HF7 := Lib.hid (hf7 ga hg6a HF6.out.2); have HC7 := Lib.hid (HF7.out.1.trans HC6.out); have kc0 : w7.cell? ⟨ga, 0, none⟩ = some (.int .u8 (op.toNat : Int)) := (by rw [blk_cell HC7.out]; rfl); have kc1 : w7.cell? ⟨ga, 1, none⟩ = some (.int .i64 a) := (by rw [blk_cell HC7.out]; rfl); have kc2 : w7.cell? ⟨ga, 2, none⟩ = some (.int .i64 bb) := (by rw [blk_cell HC7.out]; rfl); clear ho7 hb7 hf7) | (go_at_call 51; refine (HP4.out A5 (m + 1) c5 a w5 (beB 2 bb ++ R0) HO5.out hg5).mono ?_; rintro e w6 ⟨A6, m6, c6, rfl, ho6, hb6, hf6, _⟩; have HO6 := Lib.hid ho6.eo; have HB6 := Lib.hid (HB5.out.trans hb6); have HF6 := Lib.hid (hf6 ga hg5a HF5.out.2); have hs6 := hb6.size; have hg6 : g + 1 ≤ w6.heap.size := Nat.le_trans hg5 hs6; have hg6a : ga < w6.heap.size := Nat.lt_of_lt_of_le hg5a hs6; have HC6 := Lib.hid (HF6.out.1.trans HC5.out); have kb0 : w6.cell? ⟨ga, 0, none⟩ = some (.int .u8 (op.toNat : Int)) := (by rw [blk_cell HC6.out]; rfl); have kb1 : w6.cell? ⟨ga, 1, none⟩ = some (.int .i64 a) := (by rw [blk_cell HC6.out]; rfl); have kb2 : w6.cell? ⟨ga, 2, none⟩ = some (.int .i64 bb) := (by rw [blk_cell HC6.out]; rfl); clear ho6 hb6 hf6))
            all_goals go_wp2_with fail
            all_goals exact ⟨⟨k + 1, A7, m7, c7, by omega, by go_num, rfl, by rw [HR0.out]; exact HO7.out, HB7.out⟩, by simp [intOf]; omega⟩
          · obtain rfl : k = d.n1 := by omega
            have HO1 := Lib.hid (HO.out.to (show _ = p.msgs.flatMap encM ++ T2 by rw [drop_end (by have := HL1.out; omega), HT1.out]))
            have k1 := HFR.out _ HBr.out 1 _ HEL.out.2.1
            clear HO hn1
            go_wp2_with fail
            clear k1
            have hn2 : d.n2 ≤ 64 := by have := HFMM.out.n2; rw [HL2.out] at this; exact this
            go_loopw [5, 11, 79] (fun o _ i wr => ∃ (k : Nat) (A : Option Addr) (m c : Nat), k ≤ d.n2 ∧ i = .int .i64 (k : Int) ∧ o = .slice A m c ∧ OWr (g + 1) wr A m c ((p.msgs.drop k).flatMap encM ++ T2) E ∧ Below (g + 1) w1 wr) (fun _ _ i _ => d.n2 - (intOf i).toNat)
            case atStart => exact ⟨0, A, m, c, by omega, rfl, rfl, HO1.out, HBr.out⟩
            case round =>
              clear HO1 HBr hzr
              obtain ⟨k, A, m, c, hk, rfl, rfl, ho, hb⟩ := hrel
              have HO := Lib.hid ho
              have HBr := Lib.hid hb
              have hzr := hb.size
              clear ho hb
              by_cases hlt : k < d.n2
              · have dk : (k : Int) < (d.n2 : Int) := by omega
                obtain ⟨ad, Ai, ni, ci, hA2, hbB, c0, hnc, hrow⟩ := (HPR.out.msgs.below (HBr.out.mono (by omega))).at_ hlt
                rw [hA2]
                have hml := hrow.len
                obtain ⟨R0, hR0⟩ : ∃ R0, (p.msgs.drop (k + 1)).flatMap encM ++ T2 = R0 := ⟨_, rfl⟩
                have HO2 := Lib.hid (HO.out.to (show _ = beB 2 (ni : Int) ++ (lat p.msgs k ++ R0) by rw [drop_flat (show p.msgs[k]? = some (lat p.msgs k) from lat_eq (by have := HL2.out; omega)) T2, hR0]; unfold encM; rw [hml, List.append_assoc]))
                have HR0 := Lib.hid hR0
                have HRW := Lib.hid hrow
                clear hR0 HO hrow hml
                generalize lat p.msgs k = ms at *
                go_wp2_with fail
                refine (HP2.out A m c (ni : Int) _ (ms ++ R0) HO2.out.eo (by omega)).mono ?_
                rintro e w6 ⟨A6, m6, c6, rfl, ho6, hb6, _, _⟩
                have HO6 := Lib.hid ho6
                have HB6 := Lib.hid (HBr.out.trans hb6)
                have HRW6 := Lib.hid (HRW.out.below (hb6.mono (by omega)))
                have hz6 := HB6.out.size
                have hg6 : g + 1 ≤ w6.heap.size := by omega
                clear ho6 hb6 HO2 HBr HRW c0
                go_wp2_with (at_builtin; refine wl_appO rfl (.tmp 86) (.tmp 87) rfl A6 m6 c6 rfl Ai ni ci rfl (g + 1) R0 E B ms HO6.out HRW6.out HLEN.out hg6 ?appm)
                case appm =>
                  intro A7 c7 w7 ho7 hb7 _
                  have HO7 := Lib.hid ho7
                  have HB7 := Lib.hid (HB6.out.trans hb7)
                  clear ho7 hb7 HO6 HB6 HRW6
                  go_wp2_with fail
                  exact ⟨⟨k + 1, A7, m6 + ni, c7, by omega, by go_num, rfl, by rw [HR0.out]; exact HO7.out, HB7.out⟩, by simp [intOf]; omega⟩
              · obtain rfl : k = d.n2 := by omega
                have HO1 := Lib.hid (HO.out.to (show _ = p.rts.flatMap encRt ++ T3 by rw [drop_end (by have := HL2.out; omega), HT2.out]))
                have k2 := HFR.out _ HBr.out 2 _ HEL.out.2.2.1
                clear HO hn2
                go_wp2_with fail
                clear k2
                have hn3 : d.n3 ≤ 64 := by have := HFMM.out.n3; rw [HL3.out] at this; exact this
                go_loopw [5, 13, 15, 93] (fun o _ _ i wr => ∃ (k : Nat) (A : Option Addr) (m c : Nat), k ≤ d.n3 ∧ i = .int .i64 (k : Int) ∧ o = .slice A m c ∧ OWr (g + 1) wr A m c ((p.rts.drop k).flatMap encRt ++ T3) E ∧ Below (g + 1) w1 wr) (fun _ _ _ i _ => d.n3 - (intOf i).toNat)
                case atStart => exact ⟨0, A, m, c, by omega, rfl, rfl, HO1.out, HBr.out⟩
                case round =>
                  clear HO1 HBr hzr
                  obtain ⟨k, A, m, c, hk, rfl, rfl, ho, hb⟩ := hrel
                  have HO := Lib.hid ho
                  have HBr := Lib.hid hb
                  have hzr := hb.size
                  clear ho hb
                  by_cases hlt : k < d.n3
                  · have dk : (k : Int) < (d.n3 : Int) := by omega
                    obtain ⟨ad, Ai, ni, ci, hA3, hbB, c0, hnc, hrow⟩ := (HPR.out.rts.below (HBr.out.mono (by omega))).at_ hlt
                    rw [hA3]
                    have hml : (rat p.rts k).length = ni := by have := hrow.len; rw [List.length_map] at this; exact this
                    obtain ⟨R0, hR0⟩ : ∃ R0, (p.rts.drop (k + 1)).flatMap encRt ++ T3 = R0 := ⟨_, rfl⟩
                    have HO2 := Lib.hid (HO.out.to (show _ = beB 1 (ni : Int) ++ ((rat p.rts k).flatMap encT ++ R0) by rw [drop_flat (rat_eq (by have := HL3.out; omega)) T3, hR0]; unfold encRt; rw [hml, List.append_assoc]))
                    have HR0 := Lib.hid hR0
                    have HRW := Lib.hid hrow
                    have HML := Lib.hid hml
                    have HRT := Lib.hid (HFMM.out.rts _ (rat_mem (l := p.rts) (k := k) (by have := HL3.out; omega)))
                    have hni : ni ≤ 5 := by have := HRT.out.2.1; omega
                    clear hR0 HO hrow hml
                    generalize rat p.rts k = rt at *
                    go_wp2_with fail
                    refine (HP1.out A m c (ni : Int) _ (rt.flatMap encT ++ R0) HO2.out.eo (by omega)).mono ?_
                    rintro e w6 ⟨A6, m6, c6, rfl, ho6, hb6, _, _⟩
                    have HO6 := Lib.hid ho6
                    have HB6 := Lib.hid (HBr.out.trans hb6)
                    have hz6 := HB6.out.size
                    have HRW6 := Lib.hid (HRW.out.below (hb6.mono (by omega)))
                    clear ho6 hb6 HO2 HBr HRW c0
                    go_wp2_with fail
                    go_loopw [5, 15, 103] (fun o _ i wr => ∃ (j : Nat) (A : Option Addr) (m c : Nat), j ≤ ni ∧ i = .int .i64 (j : Int) ∧ o = .slice A m c ∧ OWr (g + 1) wr A m c ((rt.drop j).flatMap encT ++ R0) E ∧ Below (g + 1) w6 wr) (fun _ _ i _ => ni - (intOf i).toNat)
                    case atStart => exact ⟨0, A6, m6, c6, by omega, rfl, rfl, HO6.out, Below.refl _ _⟩
                    case round =>
                      clear HO6
                      obtain ⟨j, A, m, c, hj, rfl, rfl, ho, hb⟩ := hrel
                      have HO := Lib.hid ho
                      have HBi := Lib.hid (HB6.out.trans hb)
                      have HRWi := Lib.hid (HRW6.out.below (hb.mono (by omega)))
                      have hzi := hb.size
                      clear ho
                      have HBj := Lib.hid hb
                      clear hb
                      by_cases hlj : j < ni
                      · have dj : (j : Int) < (ni : Int) := by omega
                        obtain ⟨b, off, hAi, hbB2, c0, c1, c2⟩ := stop_at HRWi.out hlj
                        rw [hAi]
                        obtain ⟨R1, hR1⟩ : ∃ R1, (rt.drop (j + 1)).flatMap encT ++ R0 = R1 := ⟨_, rfl⟩
                        have HO2 := Lib.hid (HO.out.to (show _ = beB 1 ((sat rt j).nm.size : Int) ++ (nmL (sat rt j).nm ++ (beB 4 (sat rt j).dl ++ (beB 1 (sat rt j).fl ++ R1))) by rw [drop_flat (sat_eq (by have := HML.out; omega)) R0, hR1]; unfold encT; simp))
                        have HR1 := Lib.hid hR1
                        clear hR1 HO
                        generalize sat rt j = st at *
                        obtain ⟨nm, dl, fl⟩ := st
                        simp only at c0 c1 c2 HO2
                        have hba := (Below.refl wr.heap.size wr).alloc (Nat.le_refl _) (.cells #[.string nm, .int .i64 dl, .int .i64 fl] 66)
                        have HBA := Lib.hid (HBi.out.trans (hba.mono (by omega)))
                        have HBA6 := Lib.hid (HBj.out.trans (hba.mono (by omega)))
                        have HOA := Lib.hid (HO2.out.later hba)
                        have hng := HO2.out.not_new (k := wr.heap.size) (Nat.le_refl _)
                        have HCA := Lib.hid (heap_alloc_new wr (.cells #[.string nm, .int .i64 dl, .int .i64 fl] 66))
                        have hzA : (wr.alloc (.cells #[.string nm, .int .i64 dl, .int .i64 fl] 66)).heap.size = wr.heap.size + 1 := by simp
                        clear hba HO2 HBi
                        go_wp2_with fail
                        generalize wr.alloc (.cells #[.string nm, .int .i64 dl, .int .i64 fl] 66) = wa at *
                        clear c0 c1 c2
                        obtain ⟨ga, hga⟩ : ∃ ga, wr.heap.size = ga := ⟨_, rfl⟩
                        rw [hga] at HCA hzA hzi hng ⊢
                        have HGA := Lib.hid hng
                        have j0 : wa.cell? ⟨ga, 0, none⟩ = some (.string nm) := by rw [blk_cell HCA.out]; rfl
                        have hga2 : ga < wa.heap.size := by omega
                        have hga3 : g + 1 ≤ ga := by omega
                        have hga4 : g + 1 ≤ wa.heap.size := by omega
                        clear hzA hga hng
                        have hbd : Below wa.heap.size wa wa.drew := (Below.refl _ _).drew
                        have HBB := Lib.hid (HBA.out.trans (hbd.mono hga4))
                        have HOB := Lib.hid (HOA.out.later hbd)
                        have HCB := Lib.hid ((hbd.block ga hga2).trans HCA.out)
                        have hz15 : g + 1 ≤ wa.drew.heap.size := hga4
                        have hz16 : ga < wa.drew.heap.size := hga2
                        clear hbd
                        go_region_held3 (fun w' => w'.cell? ⟨ga, 0, none⟩ = some (.string nm)) (go_keep) (first | (go_at_call 51; refine (HP1.out A m c (nm.size : Int) wa.drew (nmL nm ++ (beB 4 dl ++ (beB 1 fl ++ R1))) HOB.out.eo hz15).mono ?_; rintro e w7 ⟨A7, m7, c7, rfl, ho7, hb7, hf7, hp7⟩; have HO7 := Lib.hid ho7; have HB7 := Lib.hid (HBB.out.trans hb7); have HF7 := Lib.hid (hf7 ga hz16 HGA.out); have hs7 := hb7.size; have hg7 : g + 1 ≤ w7.heap.size := Nat.le_trans hz15 hs7; have hg7a : ga < w7.heap.size := Nat.lt_of_lt_of_le hz16 hs7; have HC7 := Lib.hid (HF7.out.1.trans HCB.out); have ka0 : w7.cell? ⟨ga, 0, none⟩ = some (.string nm) := (by rw [blk_cell HC7.out]; rfl); have HP7 := Lib.hid hp7; have HFX := Lib.hid hb7; clear ho7 hb7 hf7 hp7) | ((fail_if_success (go_simp; go_at_call 51)); refine step_appS (by rfl) (.tmp 111) (.tmp 113) (by rfl) A7 m7 c7 (by rfl) nm (by rfl) (g + 1) (beB 4 dl ++ (beB 1 fl ++ R1)) E HO7.out HP7.out HLEN.out hg7 ?_; intro A8 c8 w8 ho8 hb8 hf8; have HO8 := Lib.hid ho8; have HB8 := Lib.hid (HB7.out.trans hb8); have HF8 := Lib.hid (hf8 ga hg7a HF7.out.2); have hs8 := hb8.size; have hg8 : g + 1 ≤ w8.heap.size := Nat.le_trans hg7 hs8; have hg8a : ga < w8.heap.size := Nat.lt_of_lt_of_le hg7a hs8; have HC8 := Lib.hid (HF8.out.1.trans HC7.out); have kb0 : w8.cell? ⟨ga, 0, none⟩ = some (.string nm) := (by rw [blk_cell HC8.out]; rfl); have HFY := Lib.hid hb8; clear ho8 hb8 hf8))
                        all_goals (have HB8i := Lib.hid (((HBA6.out.trans ((Below.refl (g + 1) wa).drew)).trans HFX.out).trans HFY.out))
                        all_goals (clear j0 ka0 kb0 HOA HOB HCA HCB HGA HBB HB7 HO7 HF7 HC7 HBA HBA6 hs7 hg7 hg7a hga2 hga4 hz15 hz16 HFX HFY)
                        all_goals go_wp2_with fail
                        all_goals (have HOD := Lib.hid (HO8.out.later ((Below.refl w8.heap.size w8).drew)))
                        all_goals (have j1 : w8.cell? ⟨ga, 1, none⟩ = some (.int .i64 dl) := by rw [blk_cell HC8.out]; rfl)
                        all_goals (have j2 : w8.cell? ⟨ga, 2, none⟩ = some (.int .i64 fl) := by rw [blk_cell HC8.out]; rfl)
                        all_goals go_region_held3 (fun w' => w'.cell? ⟨ga, 1, none⟩ = some (.int .i64 dl) ∧ w'.cell? ⟨ga, 2, none⟩ = some (.int .i64 fl)) (go_keep) (first | (go_at_call 51; refine (HP1.out A9 m9 c9 fl w9 R1 HO9.out.eo hg9).mono ?_; rintro e wx ⟨Ax, mx, cx, rfl, hox, hbx, hfx, _⟩; have HOX := Lib.hid hox; have HFZ := Lib.hid (hfx ga hg9a HF9.out.2); have HCX := Lib.hid (HFZ.out.1.trans HC9.out); have kd1 : wx.cell? ⟨ga, 1, none⟩ = some (.int .i64 dl) := (by rw [blk_cell HCX.out]; rfl); have kd2 : wx.cell? ⟨ga, 2, none⟩ = some (.int .i64 fl) := (by rw [blk_cell HCX.out]; rfl); have HFY := Lib.hid hbx; clear hox hbx hfx) | (go_at_call 51; refine (HP4.out A8 (m7 + nm.size) c8 dl w8.drew (beB 1 fl ++ R1) HOD.out.eo hg8).mono ?_; rintro e w9 ⟨A9, m9, c9, rfl, ho9, hb9, hf9, _⟩; have HO9 := Lib.hid ho9; have HF9 := Lib.hid (hf9 ga hg8a HF8.out.2); have hs9 := hb9.size; have hg9 : g + 1 ≤ w9.heap.size := Nat.le_trans hg8 hs9; have hg9a : ga < w9.heap.size := Nat.lt_of_lt_of_le hg8a hs9; have HC9 := Lib.hid (HF9.out.1.trans HC8.out); have kc1 : w9.cell? ⟨ga, 1, none⟩ = some (.int .i64 dl) := (by rw [blk_cell HC9.out]; rfl); have kc2 : w9.cell? ⟨ga, 2, none⟩ = some (.int .i64 fl) := (by rw [blk_cell HC9.out]; rfl); have HFX := Lib.hid hb9; clear ho9 hb9 hf9))
                        all_goals go_wp2_with fail
                        all_goals exact ⟨⟨j + 1, Ax, mx, cx, by omega, by go_num, rfl, by rw [HR1.out]; exact HOX.out, ((HB8i.out.trans ((Below.refl (g + 1) w8).drew)).trans HFX.out).trans HFY.out⟩, by simp [intOf]; omega⟩
                      · obtain rfl : j = ni := by omega
                        have HO8 := Lib.hid (HO.out.to (show _ = R0 by rw [drop_end (by have := HML.out; omega)]))
                        clear HO HRWi
                        go_wp2_with fail
                        exact ⟨⟨k + 1, A, m, c, by omega, by go_num, rfl, by rw [HR0.out]; exact HO8.out, HBi.out⟩, by simp [intOf]; omega⟩
                  · obtain rfl : k = d.n3 := by omega
                    have HO1 := Lib.hid (HO.out.to (show _ = p.snds.flatMap encSd ++ [] by rw [drop_end (by have := HL3.out; omega), HT3.out]))
                    have k3 := HFR.out _ HBr.out 3 _ HEL.out.2.2.2.1
                    clear HO hn3
                    go_wp2_with fail
                    clear k3
                    have hn4 : d.n4 ≤ 64 := by have := HFMM.out.n4; rw [HL4.out] at this; exact this
                    go_loopw [5, 17, 19, 127] (fun o _ _ i wr => ∃ (k : Nat) (A : Option Addr) (m c : Nat), k ≤ d.n4 ∧ i = .int .i64 (k : Int) ∧ o = .slice A m c ∧ OWr (g + 1) wr A m c ((p.snds.drop k).flatMap encSd ++ []) E ∧ Below (g + 1) w1 wr) (fun _ _ _ i _ => d.n4 - (intOf i).toNat)
                    case atStart => exact ⟨0, A, m, c, by omega, rfl, rfl, HO1.out, HBr.out⟩
                    case round =>
                      clear HO1 HBr hzr
                      obtain ⟨k, A, m, c, hk, rfl, rfl, ho, hb⟩ := hrel
                      have HO := Lib.hid ho
                      have HBr := Lib.hid hb
                      have hzr := hb.size
                      clear ho hb
                      by_cases hlt : k < d.n4
                      · have dk : (k : Int) < (d.n4 : Int) := by omega
                        obtain ⟨b, off, Ai, ni, ci, hA4, hbB, c0, c1, c2, hnc, hrow⟩ := (HPR.out.snds.below (HBr.out.mono (by omega))).at_ hlt
                        rw [hA4]
                        have hml : (dat p.snds k).rts.length = ni := hrow.len
                        obtain ⟨R0, hR0⟩ : ∃ R0, (p.snds.drop (k + 1)).flatMap encSd ++ [] = R0 := ⟨_, rfl⟩
                        have HO2 := Lib.hid (HO.out.to (show _ = beB 1 (dat p.snds k).msg ++ (beB 1 (ni : Int) ++ ((dat p.snds k).rts.flatMap (beB 1) ++ (beB 1 ((dat p.snds k).blk + 1) ++ R0))) by rw [drop_flat (dat_eq (by have := HL4.out; omega)) [], hR0]; unfold encSd; rw [hml]; simp))
                        have HR0 := Lib.hid hR0
                        have HRW := Lib.hid hrow
                        have HML := Lib.hid hml
                        have HRT := Lib.hid (HFMM.out.snds _ (dat_mem (l := p.snds) (k := k) (by have := HL4.out; omega)))
                        have hni : ni ≤ 8 := by have := HRT.out.2.1; omega
                        have hbk1 : -1 ≤ (dat p.snds k).blk := HRT.out.2.2.2.2.2.1
                        have hbk2 : (dat p.snds k).blk ≤ 15 := HRT.out.2.2.2.2.2.2
                        clear hR0 HO hrow hml HRT
                        generalize dat p.snds k = sd at *
                        obtain ⟨mg, rl, bk⟩ := sd
                        simp only at c0 c1 c2 HO2 HRW HML hbk1 hbk2
                        have hba := (Below.refl wr.heap.size wr).alloc (Nat.le_refl _) (.cells #[.int .i64 mg, .slice Ai ni ci, .int .i64 bk] 43)
                        have HBA := Lib.hid (HBr.out.trans (hba.mono (by omega)))
                        have HOA := Lib.hid (HO2.out.later hba)
                        have HRA := Lib.hid (HRW.out.below (hba.mono (by omega)))
                        have hng := HO2.out.not_new (k := wr.heap.size) (Nat.le_refl _)
                        have HCA := Lib.hid (heap_alloc_new wr (.cells #[.int .i64 mg, .slice Ai ni ci, .int .i64 bk] 43))
                        have hzA : (wr.alloc (.cells #[.int .i64 mg, .slice Ai ni ci, .int .i64 bk] 43)).heap.size = wr.heap.size + 1 := by simp
                        clear hba HO2 HBr HRW
                        go_wp2_with fail
                        generalize wr.alloc (.cells #[.int .i64 mg, .slice Ai ni ci, .int .i64 bk] 43) = wa at *
                        clear c0 c1 c2
                        obtain ⟨ga, hga⟩ : ∃ ga, wr.heap.size = ga := ⟨_, rfl⟩
                        rw [hga] at HCA hzA hzr hng ⊢
                        have HGA := Lib.hid hng
                        have j0 : wa.cell? ⟨ga, 0, none⟩ = some (.int .i64 mg) := by rw [blk_cell HCA.out]; rfl
                        have j1 : wa.cell? ⟨ga, 1, none⟩ = some (.slice Ai ni ci) := by rw [blk_cell HCA.out]; rfl
                        have hga2 : ga < wa.heap.size := by omega
                        have hga3 : g + 1 ≤ ga := by omega
                        have hga4 : g + 1 ≤ wa.heap.size := by omega
                        clear hzA hga hng
                        have hbd : Below wa.heap.size wa wa.drew := (Below.refl _ _).drew
                        have HBB := Lib.hid (HBA.out.trans (hbd.mono hga4))
                        have HOB := Lib.hid (HOA.out.later hbd)
                        have HCB := Lib.hid ((hbd.block ga hga2).trans HCA.out)
                        have hz15 : g + 1 ≤ wa.drew.heap.size := hga4
                        have hz16 : ga < wa.drew.heap.size := hga2
                        clear hbd
                        have hBg : B ≤ g + 1 := by omega
                        go_region_held3 (fun w' => w'.cell? ⟨ga, 0, none⟩ = some (.int .i64 mg) ∧ w'.cell? ⟨ga, 1, none⟩ = some (.slice Ai ni ci)) (go_keep) (first | (go_at_call 51; refine (HP1.out A7 m7 c7 (ni : Int) w7 (rl.flatMap (beB 1) ++ (beB 1 (bk + 1) ++ R0)) HO7.out.eo hg7).mono ?_; rintro e w8 ⟨A8, m8, c8, rfl, ho8, hb8, hf8, _⟩; have HO8 := Lib.hid ho8; have HB8 := Lib.hid (HB7.out.trans hb8); have HF8 := Lib.hid (hf8 ga hg7a HF7.out.2); have hs8 := hb8.size; have hg8 : g + 1 ≤ w8.heap.size := Nat.le_trans hg7 hs8; have hg8a : ga < w8.heap.size := Nat.lt_of_lt_of_le hg7a hs8; have HC8 := Lib.hid (HF8.out.1.trans HC7.out); have HR8 := Lib.hid (HR7.out.below (hb8.mono hBg)); have kb0 : w8.cell? ⟨ga, 0, none⟩ = some (.int .i64 mg) := (by rw [blk_cell HC8.out]; rfl); have kb1 : w8.cell? ⟨ga, 1, none⟩ = some (.slice Ai ni ci) := (by rw [blk_cell HC8.out]; rfl); clear ho8 hb8 hf8) | (go_at_call 51; refine (HP1.out A m c mg wa.drew (beB 1 (ni : Int) ++ (rl.flatMap (beB 1) ++ (beB 1 (bk + 1) ++ R0))) HOB.out.eo hz15).mono ?_; rintro e w7 ⟨A7, m7, c7, rfl, ho7, hb7, hf7, _⟩; have HO7 := Lib.hid ho7; have HB7 := Lib.hid (HBB.out.trans hb7); have HF7 := Lib.hid (hf7 ga hz16 HGA.out); have hs7 := hb7.size; have hg7 : g + 1 ≤ w7.heap.size := Nat.le_trans hz15 hs7; have hg7a : ga < w7.heap.size := Nat.lt_of_lt_of_le hz16 hs7; have HC7 := Lib.hid (HF7.out.1.trans HCB.out); have HR7 := Lib.hid (HRA.out.below (((Below.refl B wa).drew).trans (hb7.mono hBg))); have ka0 : w7.cell? ⟨ga, 0, none⟩ = some (.int .i64 mg) := (by rw [blk_cell HC7.out]; rfl); have ka1 : w7.cell? ⟨ga, 1, none⟩ = some (.slice Ai ni ci) := (by rw [blk_cell HC7.out]; rfl); clear ho7 hb7 hf7))
                        all_goals (clear j0 j1 ka0 ka1 kb0 HOA HOB HCA HCB HGA HBB HB7 HO7 HF7 HC7 HBA hs7 hg7 hg7a hga2 hga4 hz15 hz16 HR7 HRA)
                        all_goals go_wp2_with fail
                        all_goals clear kb1
                        all_goals go_loopw [5, 19, 142] (fun o _ i wr => ∃ (j : Nat) (A : Option Addr) (m c : Nat), j ≤ ni ∧ i = .int .i64 (j : Int) ∧ o = .slice A m c ∧ OWr (g + 1) wr A m c ((rl.drop j).flatMap (beB 1) ++ (beB 1 (bk + 1) ++ R0)) E ∧ Below (g + 1) w8 wr ∧ wr.heap[ga]? = some (.cells #[.int .i64 mg, .slice Ai ni ci, .int .i64 bk] 43 (0, 0)) ∧ (Value.slice A m c).ownBlock ≠ some ga) (fun _ _ i _ => ni - (intOf i).toNat)
                        case atStart => exact ⟨0, A8, m8, c8, by omega, rfl, rfl, HO8.out, Below.refl _ _, HC8.out, HF8.out.2⟩
                        case round =>
                          clear HO8
                          obtain ⟨j, A, m, c, hj, rfl, rfl, ho, hb, hcg, hog⟩ := hrel
                          have HO := Lib.hid ho
                          have HBi := Lib.hid (HB8.out.trans hb)
                          have HBj := Lib.hid hb
                          have HRi := Lib.hid (HR8.out.below (hb.mono hBg))
                          have HCG := Lib.hid hcg
                          have HOG := Lib.hid hog
                          have hzi := hb.size
                          have hgi : g + 1 ≤ wr.heap.size := Nat.le_trans hg8 hzi
                          have hgia : ga < wr.heap.size := Nat.lt_of_lt_of_le hg8a hzi
                          clear ho hb hcg hog
                          by_cases hlj : j < ni
                          · have dj : (j : Int) < (ni : Int) := by omega
                            obtain ⟨ad, hAi, hbb, hcell, hi1, hi2⟩ := HRi.out.at_ hlj
                            rw [hAi]
                            have hRj := HO.out.to (show _ = beB 1 (it rl j) ++ ((rl.drop (j + 1)).flatMap (beB 1) ++ (beB 1 (bk + 1) ++ R0)) from drop_flat (show rl[j]? = some (it rl j) from itI_eq (by have := HML.out; omega)) _)
                            have HOj := Lib.hid hRj
                            clear hRj HO
                            go_wp2_with fail
                            refine (HP1.out A m c (it rl j) _ _ HOj.out.eo hgi).mono ?_
                            rintro e w9 ⟨A9, m9, c9, rfl, ho9, hb9, hf9, _⟩
                            have HO9 := Lib.hid ho9
                            have HB9 := Lib.hid (HBj.out.trans hb9)
                            have HF9 := Lib.hid (hf9 ga hgia HOG.out)
                            clear ho9 hb9 hf9
                            go_wp2_with fail
                            exact ⟨⟨j + 1, A9, m9, c9, by omega, by go_num, rfl, HO9.out, HB9.out, by rw [← hAi]; exact HF9.out.1.trans HCG.out, HF9.out.2⟩, by simp [intOf]; omega⟩
                          · obtain rfl : j = ni := by omega
                            have HOe := Lib.hid (HO.out.to (show _ = beB 1 (bk + 1) ++ R0 from drop_end (by have := HML.out; omega) _))
                            have k2 : wr.cell? ⟨ga, 2, none⟩ = some (.int .i64 bk) := by rw [blk_cell HCG.out]; rfl
                            clear HO
                            go_wp2_with fail
                            refine (HP1.out A m c (bk + 1) _ _ HOe.out.eo hgi).mono ?_
                            rintro e w9 ⟨A9, m9, c9, rfl, ho9, hb9, _, _⟩
                            have HO9 := Lib.hid ho9
                            have HB9 := Lib.hid (HBi.out.trans hb9)
                            clear ho9 hb9
                            go_wp2_with fail
                            exact ⟨⟨k + 1, A9, m9, c9, by omega, by go_num, rfl, by rw [HR0.out]; exact HO9.out, HB9.out⟩, by simp [intOf]; omega⟩
                      · obtain rfl : k = d.n4 := by omega
                        have HO8 := Lib.hid (HO.out.to (show _ = [] by rw [drop_end (by have := HL4.out; omega)]))
                        have HBF := Lib.hid (HB1.out.trans (HBr.out.mono (Nat.le_succ _)))
                        clear HO HBr
                        obtain ⟨l, hl1, hl2⟩ := HO8.out
                        rw [List.append_nil] at hl2
                        subst hl2
                        have HOL := Lib.hid (own_base hl1 (Nat.le_succ g))
                        have hll : l.length = m := by have := hl1.1; rw [length_bv] at this; omega
                        have HLL := Lib.hid hll
                        clear hl1 hll HO8
                        go_wp2_with fail
                        go_ret2
                        refine ⟨by rw [HG.out]; exact HBF.out, ?_⟩
                        first
                          | exact .inr ⟨rfl, A, m, c, rfl, HLL.out, by rw [HG.out]; exact HOL.out⟩
                          | exact ⟨A, m, c, rfl, HLL.out, by rw [HG.out]; exact HOL.out⟩
end Go.Proofs.YtkmcjjoicpgjfaaDoor
/-
  Contracts of code.title and shallotref18.Name: the name of an op. No conditions but that the number is a byte.
-/
namespace Go.Proofs.YtkmcjjoicpgjfaaDoor
open Go Go.RowKit Go.Sh

/-- the bytes of an op's name -/
def nmA : Nat → List UInt8
  | 0 => [104, 97, 108, 116]
  | 1 => [112, 117, 115, 104]
  | 2 => [97, 100, 100]
  | 3 => [115, 117, 98]
  | 4 => [109, 117, 108]
  | 5 => [108, 111, 97, 100]
  | 6 => [115, 116, 111, 114, 101]
  | 7 => [106, 117, 109, 112]
  | 8 => [122, 101, 114, 111]
  | 9 => [102, 114, 101, 115, 104]
  | 10 => [115, 101, 110, 100]
  | 11 => [99, 111, 118, 101, 114]
  | 12 => [119, 97, 105, 116]
  | 13 => [97, 102, 116, 101, 114]
  | 14 => [104, 101, 97, 114, 100]
  | 15 => [98, 108, 111, 99, 107]
  | 16 => [114, 101, 116]
  | _ => [63]
def nmV (o : Nat) : ByteArray := ⟨(nmA o).toArray⟩
theorem nmV_big {o : Nat} (h : ¬ o ≤ 16) : nmV o = ⟨#[63]⟩ := by
  obtain ⟨n, rfl⟩ : ∃ n, o = n + 17 := ⟨o - 17, by omega⟩
  rfl
theorem nmA_len (o : Nat) : (nmA o).length ≤ 5 := by
  by_cases h : o ≤ 16
  · rcases u8_cases h with rfl | rfl | rfl | rfl | rfl | rfl | rfl | rfl | rfl | rfl | rfl | rfl | rfl | rfl | rfl | rfl | rfl <;> decide
  · obtain ⟨n, rfl⟩ : ∃ n, o = n + 17 := ⟨o - 17, by omega⟩
    show [63].length ≤ 5
    decide
set_option maxRecDepth 100000 in
theorem title_any (o : Nat) (w : World) : Calls Tryd.prog 26 #[.int .u8 (o : Int)] w (fun e w' => e = .returned (.string (nmV o)) ∧ w = w') := by
  by_cases h : o ≤ 16
  · rcases u8_cases h with rfl | rfl | rfl | rfl | rfl | rfl | rfl | rfl | rfl | rfl | rfl | rfl | rfl | rfl | rfl | rfl | rfl
    all_goals
      clear h
      go_enter Tryd.func26, Tryd.ntmps26
      go_wp2
      go_ret
      exact ⟨rfl, rfl⟩
  · rw [nmV_big h]
    have f0 : ((o : Int) == 0) = false := by rw [beq_eq_false_iff_ne]; omega
    have f1 : ((o : Int) == 1) = false := by rw [beq_eq_false_iff_ne]; omega
    have f2 : ((o : Int) == 2) = false := by rw [beq_eq_false_iff_ne]; omega
    have f3 : ((o : Int) == 3) = false := by rw [beq_eq_false_iff_ne]; omega
    have f4 : ((o : Int) == 4) = false := by rw [beq_eq_false_iff_ne]; omega
    have f5 : ((o : Int) == 5) = false := by rw [beq_eq_false_iff_ne]; omega
    have f6 : ((o : Int) == 6) = false := by rw [beq_eq_false_iff_ne]; omega
    have f7 : ((o : Int) == 7) = false := by rw [beq_eq_false_iff_ne]; omega
    have f8 : ((o : Int) == 8) = false := by rw [beq_eq_false_iff_ne]; omega
    have f9 : ((o : Int) == 9) = false := by rw [beq_eq_false_iff_ne]; omega
    have f10 : ((o : Int) == 10) = false := by rw [beq_eq_false_iff_ne]; omega
    have f11 : ((o : Int) == 11) = false := by rw [beq_eq_false_iff_ne]; omega
    have f12 : ((o : Int) == 12) = false := by rw [beq_eq_false_iff_ne]; omega
    have f13 : ((o : Int) == 13) = false := by rw [beq_eq_false_iff_ne]; omega
    have f14 : ((o : Int) == 14) = false := by rw [beq_eq_false_iff_ne]; omega
    have f15 : ((o : Int) == 15) = false := by rw [beq_eq_false_iff_ne]; omega
    have f16 : ((o : Int) == 16) = false := by rw [beq_eq_false_iff_ne]; omega
    clear h
    go_enter Tryd.func26, Tryd.ntmps26
    go_wp2
    go_ret
    exact ⟨rfl, rfl⟩
/-- the cells of the table of names -/
def nmC : Array Value := #[.string ⟨#[104, 97, 108, 116]⟩, .string ⟨#[112, 117, 115, 104]⟩, .string ⟨#[97, 100, 100]⟩, .string ⟨#[115, 117, 98]⟩, .string ⟨#[109, 117, 108]⟩, .string ⟨#[108, 111, 97, 100]⟩, .string ⟨#[115, 116, 111, 114, 101]⟩, .string ⟨#[106, 117, 109, 112]⟩, .string ⟨#[122, 101, 114, 111]⟩, .string ⟨#[102, 114, 101, 115, 104]⟩, .string ⟨#[115, 101, 110, 100]⟩, .string ⟨#[99, 111, 118, 101, 114]⟩, .string ⟨#[119, 97, 105, 116]⟩, .string ⟨#[97, 102, 116, 101, 114]⟩, .string ⟨#[104, 101, 97, 114, 100]⟩, .string ⟨#[98, 108, 111, 99, 107]⟩, .string ⟨#[114, 101, 116]⟩]
set_option maxRecDepth 100000 in
theorem Name_any (o : Nat) (w : World) : Calls Tryd.prog 29 #[.int .u8 (o : Int)] w (fun e w' => e = .returned (.string (nmV o)) ∧ Below w.heap.size w w') := by
  have hz : nmC = #[.string ⟨#[104, 97, 108, 116]⟩, .string ⟨#[112, 117, 115, 104]⟩, .string ⟨#[97, 100, 100]⟩, .string ⟨#[115, 117, 98]⟩, .string ⟨#[109, 117, 108]⟩, .string ⟨#[108, 111, 97, 100]⟩, .string ⟨#[115, 116, 111, 114, 101]⟩, .string ⟨#[106, 117, 109, 112]⟩, .string ⟨#[122, 101, 114, 111]⟩, .string ⟨#[102, 114, 101, 115, 104]⟩, .string ⟨#[115, 101, 110, 100]⟩, .string ⟨#[99, 111, 118, 101, 114]⟩, .string ⟨#[119, 97, 105, 116]⟩, .string ⟨#[97, 102, 116, 101, 114]⟩, .string ⟨#[104, 101, 97, 114, 100]⟩, .string ⟨#[98, 108, 111, 99, 107]⟩, .string ⟨#[114, 101, 116]⟩] := rfl
  have HB := Lib.hid ((Below.refl w.heap.size w).alloc (Nat.le_refl _) (.cells nmC 105))
  have hc := heap_alloc_new w (.cells nmC 105)
  by_cases h : o ≤ 16
  · have hc0 : (w.alloc (.cells nmC 105)).cell? ⟨w.heap.size, o, none⟩ = some (.string (nmV o)) := by
      rw [blk_cell hc]
      rcases u8_cases h with rfl | rfl | rfl | rfl | rfl | rfl | rfl | rfl | rfl | rfl | rfl | rfl | rfl | rfl | rfl | rfl | rfl <;> rfl
    have d1 : ((16 : Int) < (o : Int)) = False := eq_false (by omega)
    have d2 : (o : Int) < 17 := by omega
    clear hc
    rw [hz] at hc0 HB
    clear hz
    generalize nmV o = r at *
    go_enter Tryd.func29, Tryd.ntmps29
    go_wp2_with fail
    go_ret
    exact ⟨rfl, HB.out⟩
  · rw [nmV_big h]
    have d1 : (16 : Int) < (o : Int) := by omega
    clear hc
    rw [hz] at HB
    clear hz h
    go_enter Tryd.func29, Tryd.ntmps29
    go_wp2_with fail
    go_ret
    exact ⟨rfl, HB.out⟩
end Go.Proofs.YtkmcjjoicpgjfaaDoor
/-
  Contract of shallotref18.Digits: a number's decimal digits. No conditions but that the number fits.
-/
namespace Go.Proofs.YtkmcjjoicpgjfaaDoor
open Go Go.RowKit Go.Sh

/-- the digit of a that stands last -/
def dgl (a : Nat) : UInt8 := UInt8.ofNat (48 + a % 10)
theorem dec_step {a : Nat} (h : ¬ a < 10) : Lib.decDigits a = Lib.decDigits (a / 10) ++ [dgl a] := by
  rw [Lib.decDigits, dif_neg h]; rfl
theorem dec_last {a : Nat} (h : a < 10) : Lib.decDigits a = [dgl a] := by
  rw [Lib.decDigits, dif_pos h]; unfold dgl; rw [Nat.mod_eq_of_lt h]
theorem dgl_nat (a : Nat) : ((dgl a).toNat : Int) = 48 + (a : Int) % 10 := by
  unfold dgl
  rw [UInt8.toNat_ofNat']
  omega
theorem dec_len {N : Nat} (h : N < 18446744073709551616) : (Lib.decDigits N).length ≤ 20 := by rw [Lib.decDigits_length]; exact Lib.nDigits_le20 N h
theorem str_cat (a b : List UInt8) : (⟨a.toArray⟩ ++ ⟨b.toArray⟩ : ByteArray) = ⟨(a ++ b).toArray⟩ := by
  apply ByteArray.ext
  rw [ByteArray.data_append]
  simp
set_option maxRecDepth 100000 in
set_option maxHeartbeats 2000000 in
theorem Digits_any (n : Int) (h0 : -9223372036854775808 ≤ n) (h1 : n ≤ 9223372036854775807) (w : World) :
    Calls Tryd.prog 31 #[.int .i64 n] w (fun e w' => e = .returned (.string ⟨(Lib.itoa n).toArray⟩) ∧ Below w.heap.size w w') := by
  obtain ⟨N, hN⟩ : ∃ N, n.natAbs = N := ⟨_, rfl⟩
  have hN64 : N ≤ 9223372036854775808 := by omega
  have HL := Lib.hid (dec_len (N := N) (by omega))
  by_cases hneg : n < 0
  · have hn : n = -(N : Int) := by omega
    have HI := Lib.hid (show Lib.itoa n = 45 :: Lib.decDigits N by unfold Lib.itoa; rw [if_pos hneg, hN])
    rw [HI.out]
    subst hn
    have dneg : 0 < N := by omega
    clear hN h0 h1 HI hneg
    go_enter Tryd.func31, Tryd.ntmps31
    go_wp2_with fail
    go_loopw [0, 3, 5] (fun cur b _ wr => ∃ (a : Nat) (ds : List UInt8) (A : Option Addr) (m c : Nat), cur = .int .i64 (-(a : Int)) ∧ a ≤ 9223372036854775808 ∧ b = .slice A m c ∧ RB wr wr.heap.size A m ds ∧ Below w.heap.size w wr ∧ Lib.decDigits N = Lib.decDigits a ++ ds) (fun cur _ _ _ => (intOf cur).natAbs)
    case atStart => exact ⟨N, [], none, 0, 0, rfl, hN64, rfl, RB.none_, Below.refl _ _, by simp⟩
    case round =>
      obtain ⟨a, ds, A, m, c, rfl, ha, rfl, hr, hb, hd⟩ := hrel
      have HR := Lib.hid hr
      have HB := Lib.hid hb
      have HD := Lib.hid hd
      have hs := hb.size
      have hm : m ≤ 20 := by
        have h1 := HL.out
        rw [hd, List.length_append] at h1
        have := hr.len
        omega
      have hdg := dgl_nat a
      have hA0 : 0 < ((dgl a).toNat : Int) := by omega
      obtain ⟨b, hbd⟩ : ∃ b, a / 10 = b := ⟨_, rfl⟩
      clear hr hb hd
      by_cases hr0 : a % 10 = 0
      · have t1 : Int.tmod (-(a : Int)) 10 = 0 := by rw [Int.neg_tmod, Int.tmod_eq_emod_of_nonneg (by omega)]; omega
        have t2 : Int.tdiv (-(a : Int)) 10 = -(b : Int) := by rw [Int.neg_tdiv, Int.tdiv_eq_ediv_of_nonneg (by omega)]; omega
        have HV := Lib.hid (show bv [dgl a] = [.int .u8 48] by show [Value.int .u8 ((dgl a).toNat : Int)] = _; rw [show ((dgl a).toNat : Int) = 48 by omega])
        go_wp2_with (at_builtin; refine wl_app TB rfl (.tmp 17) (.tmp 18) rfl _ rfl A m c rfl wr.heap.size 1 (bv [dgl a]) ?hown_n0 wr.heap.size (bv ds) ?hrd_n0 (bv_one _) ?hb1_n0 ?hb2_n0 ?hb3_n0 ?hgo_n0)
        case hown_n0 => rw [HV.out]; exact World.ownsRow_lit wr #[.int .u8 48] 1 (Nat.le_refl _) (by decide) rfl
        case hrd_n0 => exact HR.out.alloc (Nat.le_refl _) _
        case hb1_n0 => omega
        case hb2_n0 => omega
        case hb3_n0 => simp
        case hgo_n0 =>
          intro A2 c2 w2 ho hg _
          rw [← bv_append] at ho
          have HR2 := Lib.hid (RB.of_own ho)
          have HB2 := Lib.hid ((HB.out.alloc hs (.cells #[.int .u8 48] 5)).grown hg (by simp; omega) (by simp [Value.ownBlock]; omega))
          clear ho hg HR HV
          rw [show [dgl a] ++ ds = dgl a :: ds from rfl] at HR2
          by_cases ht : a < 10
          · obtain rfl : b = 0 := by omega
            have HE := Lib.hid (show Lib.decDigits N = dgl a :: ds by rw [HD.out, dec_last ht]; rfl)
            rw [← HE.out] at HR2
            have HT2 := Lib.hid t2
            clear t1 hdg hA0 HD HE
            have hll := HL.out
            go_wp2_with (refine wl_str Tryd.underlying39 Tryd.underlying5 Tryd.underlying9 rfl (.tmp 25) rfl A2 (1 + m) c2 rfl w2.heap.size (Lib.decDigits N) HR2.out ?_)
            go_ret
            exact ⟨by rw [str_cat]; rfl, HB2.out⟩
          · have HE := Lib.hid (show Lib.decDigits N = Lib.decDigits b ++ (dgl a :: ds) by rw [HD.out, dec_step ht, hbd, List.append_assoc]; rfl)
            have hb0 : b ≠ 0 := by omega
            have hz0 : (-(b : Int) == 0) = false := by rw [beq_eq_false_iff_ne]; omega
            go_wp2_with fail
            exact ⟨⟨b, dgl a :: ds, A2, 1 + m, c2, rfl, by omega, rfl, HR2.out, HB2.out, HE.out⟩, by simp [intOf]; omega⟩
      · obtain ⟨r, hr1⟩ : ∃ r, a % 10 = r := ⟨_, rfl⟩
        rw [hr1] at hr0
        have t1 : Int.tmod (-(a : Int)) 10 = -(r : Int) := by rw [Int.neg_tmod, Int.tmod_eq_emod_of_nonneg (by omega)]; omega
        have t2 : Int.tdiv (-(a : Int)) 10 = -(b : Int) := by rw [Int.neg_tdiv, Int.tdiv_eq_ediv_of_nonneg (by omega)]; omega
        have t3 : (-(r : Int) < 0) = True := by simp only [eq_iff_iff, iff_true]; omega
        have HV := Lib.hid (show bv [dgl a] = [.int .u8 (48 + (r : Int))] by show [Value.int .u8 ((dgl a).toNat : Int)] = _; rw [show ((dgl a).toNat : Int) = (48 + (r : Int)) by omega])
        go_wp2_with (at_builtin; refine wl_app TB rfl (.tmp 17) (.tmp 18) rfl _ rfl A m c rfl wr.heap.size 1 (bv [dgl a]) ?hown_n1 wr.heap.size (bv ds) ?hrd_n1 (bv_one _) ?hb1_n1 ?hb2_n1 ?hb3_n1 ?hgo_n1)
        case hown_n1 => rw [HV.out]; exact World.ownsRow_lit wr #[.int .u8 (48 + (r : Int))] 1 (Nat.le_refl _) (by decide) rfl
        case hrd_n1 => exact HR.out.alloc (Nat.le_refl _) _
        case hb1_n1 => omega
        case hb2_n1 => omega
        case hb3_n1 => simp
        case hgo_n1 =>
          intro A2 c2 w2 ho hg _
          rw [← bv_append] at ho
          have HR2 := Lib.hid (RB.of_own ho)
          have HB2 := Lib.hid ((HB.out.alloc hs (.cells #[.int .u8 (48 + (r : Int))] 5)).grown hg (by simp; omega) (by simp [Value.ownBlock]; omega))
          clear ho hg HR HV
          rw [show [dgl a] ++ ds = dgl a :: ds from rfl] at HR2
          by_cases ht : a < 10
          · obtain rfl : b = 0 := by omega
            have HE := Lib.hid (show Lib.decDigits N = dgl a :: ds by rw [HD.out, dec_last ht]; rfl)
            rw [← HE.out] at HR2
            have HT2 := Lib.hid t2
            clear t1 t3 hdg hA0 HD HE
            have hll := HL.out
            go_wp2_with (refine wl_str Tryd.underlying39 Tryd.underlying5 Tryd.underlying9 rfl (.tmp 25) rfl A2 (1 + m) c2 rfl w2.heap.size (Lib.decDigits N) HR2.out ?_)
            go_ret
            exact ⟨by rw [str_cat]; rfl, HB2.out⟩
          · have HE := Lib.hid (show Lib.decDigits N = Lib.decDigits b ++ (dgl a :: ds) by rw [HD.out, dec_step ht, hbd, List.append_assoc]; rfl)
            have hb0 : b ≠ 0 := by omega
            have hz0 : (-(b : Int) == 0) = false := by rw [beq_eq_false_iff_ne]; omega
            go_wp2_with fail
            exact ⟨⟨b, dgl a :: ds, A2, 1 + m, c2, rfl, by omega, rfl, HR2.out, HB2.out, HE.out⟩, by simp [intOf]; omega⟩
  · have hn : n = (N : Int) := by omega
    have HI := Lib.hid (show Lib.itoa n = Lib.decDigits N by unfold Lib.itoa; rw [if_neg hneg]; congr 1; omega)
    rw [HI.out]
    subst hn
    have dneg : ((N : Int) < 0) = False := by simp only [eq_iff_iff, iff_false]; omega
    clear hN h0 h1 HI hneg
    go_enter Tryd.func31, Tryd.ntmps31
    go_wp2_with fail
    go_loopw [0, 3, 5] (fun cur b _ wr => ∃ (a : Nat) (ds : List UInt8) (A : Option Addr) (m c : Nat), cur = .int .i64 ((a : Int)) ∧ a ≤ 9223372036854775808 ∧ b = .slice A m c ∧ RB wr wr.heap.size A m ds ∧ Below w.heap.size w wr ∧ Lib.decDigits N = Lib.decDigits a ++ ds) (fun cur _ _ _ => (intOf cur).natAbs)
    case atStart => exact ⟨N, [], none, 0, 0, rfl, hN64, rfl, RB.none_, Below.refl _ _, by simp⟩
    case round =>
      obtain ⟨a, ds, A, m, c, rfl, ha, rfl, hr, hb, hd⟩ := hrel
      have HR := Lib.hid hr
      have HB := Lib.hid hb
      have HD := Lib.hid hd
      have hs := hb.size
      have hm : m ≤ 20 := by
        have h1 := HL.out
        rw [hd, List.length_append] at h1
        have := hr.len
        omega
      have hdg := dgl_nat a
      have hA0 : 0 < ((dgl a).toNat : Int) := by omega
      obtain ⟨b, hbd⟩ : ∃ b, a / 10 = b := ⟨_, rfl⟩
      clear hr hb hd
      obtain ⟨r, hr1⟩ : ∃ r, a % 10 = r := ⟨_, rfl⟩
      have t1 : Int.tmod (a : Int) 10 = (r : Int) := by rw [Int.tmod_eq_emod_of_nonneg (by omega)]; omega
      have t2 : Int.tdiv (a : Int) 10 = (b : Int) := by rw [Int.tdiv_eq_ediv_of_nonneg (by omega)]; omega
      have t3 : ((r : Int) < 0) = False := by simp only [eq_iff_iff, iff_false]; omega
      have HV := Lib.hid (show bv [dgl a] = [.int .u8 (48 + (r : Int))] by show [Value.int .u8 ((dgl a).toNat : Int)] = _; rw [show ((dgl a).toNat : Int) = (48 + (r : Int)) by omega])
      go_wp2_with (at_builtin; refine wl_app TB rfl (.tmp 17) (.tmp 18) rfl _ rfl A m c rfl wr.heap.size 1 (bv [dgl a]) ?hown_p wr.heap.size (bv ds) ?hrd_p (bv_one _) ?hb1_p ?hb2_p ?hb3_p ?hgo_p)
      case hown_p => rw [HV.out]; exact World.ownsRow_lit wr #[.int .u8 (48 + (r : Int))] 1 (Nat.le_refl _) (by decide) rfl
      case hrd_p => exact HR.out.alloc (Nat.le_refl _) _
      case hb1_p => omega
      case hb2_p => omega
      case hb3_p => simp
      case hgo_p =>
        intro A2 c2 w2 ho hg _
        rw [← bv_append] at ho
        have HR2 := Lib.hid (RB.of_own ho)
        have HB2 := Lib.hid ((HB.out.alloc hs (.cells #[.int .u8 (48 + (r : Int))] 5)).grown hg (by simp; omega) (by simp [Value.ownBlock]; omega))
        clear ho hg HR HV
        rw [show [dgl a] ++ ds = dgl a :: ds from rfl] at HR2
        by_cases ht : a < 10
        · obtain rfl : b = 0 := by omega
          have HE := Lib.hid (show Lib.decDigits N = dgl a :: ds by rw [HD.out, dec_last ht]; rfl)
          rw [← HE.out] at HR2
          have HT2 := Lib.hid t2
          clear t1 t3 hdg hA0 HD HE
          have hll := HL.out
          go_wp2_with (refine wl_str Tryd.underlying39 Tryd.underlying5 Tryd.underlying9 rfl (.tmp 28) rfl A2 (1 + m) c2 rfl w2.heap.size (Lib.decDigits N) HR2.out ?_)
          go_ret
          exact ⟨by rfl, HB2.out⟩
        · have HE := Lib.hid (show Lib.decDigits N = Lib.decDigits b ++ (dgl a :: ds) by rw [HD.out, dec_step ht, hbd, List.append_assoc]; rfl)
          have hb0 : b ≠ 0 := by omega
          have hz0 : ((b : Int) == 0) = false := by rw [beq_eq_false_iff_ne]; omega
          go_wp2_with fail
          exact ⟨⟨b, dgl a :: ds, A2, 1 + m, c2, rfl, by omega, rfl, HR2.out, HB2.out, HE.out⟩, by simp [intOf]; omega⟩
end Go.Proofs.YtkmcjjoicpgjfaaDoor
/-
  Contracts of shallotref18.uses and shallotref18.Line: an instruction's line. No conditions but that numbers fit.
-/
namespace Go.Proofs.YtkmcjjoicpgjfaaDoor
open Go Go.RowKit Go.Sh

/-- how many numbers an op has -/
def rusN (o : Nat) : Nat := if o = 0 ∨ o = 2 ∨ o = 3 ∨ o = 4 ∨ o = 12 ∨ o = 14 ∨ o = 16 then 0 else if o = 15 then 2 else 1
set_option maxRecDepth 100000 in
theorem refuses_any (o : Nat) (ho : o ≤ 16) (w : World) : Calls Tryd.prog 30 #[.int .u8 (o : Int)] w (fun e w' => e = .returned (.int .i64 (rusN o : Int)) ∧ w = w') := by
  rcases u8_cases ho with rfl | rfl | rfl | rfl | rfl | rfl | rfl | rfl | rfl | rfl | rfl | rfl | rfl | rfl | rfl | rfl | rfl
  all_goals
    clear ho
    go_enter Tryd.func30, Tryd.ntmps30
    go_wp2
    go_ret
    exact ⟨rfl, rfl⟩
/-- the bytes of an instruction's line -/
noncomputable def lnS (i : Ins) : List UInt8 := nmA i.op.toNat ++ (if usN i.op.toNat = 0 then [] else 32 :: Lib.itoa i.a) ++ (if usN i.op.toNat = 3 then 32 :: Lib.itoa i.b else [])
noncomputable def lnV (i : Ins) : Value := .string ⟨(lnS i).toArray⟩
theorem rus_us {o : Nat} (h : o ≤ 16) : (rusN o = 0 ↔ usN o = 0) ∧ (rusN o = 2 ↔ usN o = 3) ∧ rusN o ≤ 2 ∧ usN o ≤ 3 := by
  rcases u8_cases h with rfl | rfl | rfl | rfl | rfl | rfl | rfl | rfl | rfl | rfl | rfl | rfl | rfl | rfl | rfl | rfl | rfl <;> decide
theorem us_big {o : Nat} (h : ¬ o ≤ 16) : usN o = 0 := by
  unfold usN
  rw [if_neg (by omega), if_neg (by omega), if_neg (by omega)]
theorem ln_none {i : Ins} (h : usN i.op.toNat = 0) : (⟨(lnS i).toArray⟩ : ByteArray) = nmV i.op.toNat := by
  unfold lnS nmV
  rw [if_pos h, if_neg (by omega), List.append_nil, List.append_nil]
theorem ln_one {i : Ins} (h : usN i.op.toNat ≠ 0) (h3 : usN i.op.toNat ≠ 3) : (⟨(lnS i).toArray⟩ : ByteArray) = nmV i.op.toNat ++ ⟨#[32]⟩ ++ ⟨(Lib.itoa i.a).toArray⟩ := by
  unfold lnS nmV
  rw [if_neg h, if_neg h3, List.append_nil, show (⟨#[32]⟩ : ByteArray) = ⟨[32].toArray⟩ from rfl, str_cat, str_cat, List.append_assoc]
  rfl
theorem ln_two {i : Ins} (h3 : usN i.op.toNat = 3) : (⟨(lnS i).toArray⟩ : ByteArray) = nmV i.op.toNat ++ ⟨#[32]⟩ ++ ⟨(Lib.itoa i.a).toArray⟩ ++ ⟨#[32]⟩ ++ ⟨(Lib.itoa i.b).toArray⟩ := by
  unfold lnS nmV
  rw [if_neg (by omega), if_pos h3, show (⟨#[32]⟩ : ByteArray) = ⟨[32].toArray⟩ from rfl, str_cat, str_cat, str_cat, str_cat]
  simp
theorem nmV_size (o : Nat) : (nmV o).size ≤ 5 := nmA_len o
set_option maxRecDepth 100000 in
set_option maxHeartbeats 2000000 in
theorem Line_any (i : Ins) (hi : i.OK) (w : World) :
    Calls Tryd.prog 9 #[.agg #[.int .u8 (i.op.toNat : Int), .int .i64 i.a, .int .i64 i.b]] w (fun e w' => e = .returned (.string ⟨(lnS i).toArray⟩) ∧ Below w.heap.size w w') := by
  obtain ⟨⟨a1, a2⟩, b1, b2⟩ := hi
  have HN0 := Lib.hid (fun h => ln_none (i := i) h)
  have HN1 := Lib.hid (fun h h3 => ln_one (i := i) h h3)
  have HN2 := Lib.hid (fun h3 => ln_two (i := i) h3)
  generalize (⟨(lnS i).toArray⟩ : ByteArray) = L at *
  obtain ⟨op, a, b⟩ := i
  simp only at a1 a2 b1 b2 HN0 HN1 HN2 ⊢
  have HDA := Lib.hid (fun W => Digits_any a a1 a2 W)
  have HDB := Lib.hid (fun W => Digits_any b b1 b2 W)
  have la : (⟨(Lib.itoa a).toArray⟩ : ByteArray).size ≤ 21 := Lib.itoa_length_le a a1 a2
  have lb : (⟨(Lib.itoa b).toArray⟩ : ByteArray).size ≤ 21 := Lib.itoa_length_le b b1 b2
  generalize (⟨(Lib.itoa a).toArray⟩ : ByteArray) = sa at *
  generalize (⟨(Lib.itoa b).toArray⟩ : ByteArray) = sb at *
  have HRU := Lib.hid (fun (h : op.toNat ≤ 16) => rus_us h)
  have HUB := Lib.hid (fun (h : ¬ op.toNat ≤ 16) => us_big h)
  have hln := nmV_size op.toNat
  have HNM := Lib.hid (fun W => Name_any op.toNat W)
  have HRF := Lib.hid (fun (h : op.toNat ≤ 16) W => refuses_any op.toNat h W)
  generalize nmV op.toNat = nm at *
  generalize op.toNat = o at *
  have hbx := (Below.refl w.heap.size w).alloc (Nat.le_refl _) (.cells #[.int .u8 (o : Int), .int .i64 a, .int .i64 b] 33)
  have HB1 := Lib.hid hbx
  have HC1 := Lib.hid (heap_alloc_new w (.cells #[.int .u8 (o : Int), .int .i64 a, .int .i64 b] 33))
  have hz1 : (w.alloc (.cells #[.int .u8 (o : Int), .int .i64 a, .int .i64 b] 33)).heap.size = w.heap.size + 1 := by simp
  clear a1 a2 b1 b2 hbx
  go_enter Tryd.func9, Tryd.ntmps9
  go_wp2_with fail
  generalize w.alloc (.cells #[.int .u8 (o : Int), .int .i64 a, .int .i64 b] 33) = w1 at *
  refine (HNM.out w1).mono ?_
  rintro e w2 ⟨rfl, hb2⟩
  have hs2 := hb2.size
  have HB2 := Lib.hid (HB1.out.trans (hb2.mono (by omega)))
  have HC2 := Lib.hid ((hb2.block w.heap.size (by omega)).trans HC1.out)
  clear hb2
  have j0 : w2.cell? ⟨w.heap.size, 0, none⟩ = some (.int .u8 (o : Int)) := by rw [blk_cell HC2.out]; rfl
  have j1 : w2.cell? ⟨w.heap.size, 1, none⟩ = some (.int .i64 a) := by rw [blk_cell HC2.out]; rfl
  by_cases ho : o ≤ 16
  · have d1 : ¬ 16 < o := by omega
    obtain ⟨r0, r2, rl, ul⟩ := HRU.out ho
    have HRW := Lib.hid (fun W => HRF.out ho W)
    clear HRF HNM HRU HUB HB1 HC1
    generalize usN o = u at *
    generalize rusN o = r at *
    clear ho
    go_wp2_with fail
    refine (HRW.out w2).mono ?_
    rintro e w3 ⟨rfl, rfl⟩
    by_cases hr0 : r = 0
    · have e1 := HN0.out (r0.1 hr0)
      have g1 : ¬ 0 < r := by omega
      have g2 : ¬ 1 < r := by omega
      have E := Lib.hid e1
      clear e1 r0 r2 rl ul hr0
      go_wp2_with fail
      refine (HRW.out _).mono ?_
      rintro e w4 ⟨rfl, rfl⟩
      go_wp2_with fail
      go_ret
      exact ⟨by rw [E.out]; rfl, HB2.out⟩
    · have g1 : 0 < r := by omega
      by_cases hr2 : r = 2
      · have E := Lib.hid (HN2.out (r2.1 hr2))
        have g2 : 1 < r := by omega
        clear r0 r2 rl ul hr0 hr2
        go_wp2_with fail
        refine (HDA.out _).mono ?_
        rintro e w4 ⟨rfl, hb4⟩
        have hs4 := hb4.size
        have HB4 := Lib.hid (HB2.out.trans (hb4.mono (by omega)))
        have HC4 := Lib.hid ((hb4.block w.heap.size (by omega)).trans HC2.out)
        clear hb4 j0 j1
        have j0 : w4.cell? ⟨w.heap.size, 0, none⟩ = some (.int .u8 (o : Int)) := by rw [blk_cell HC4.out]; rfl
        have j2 : w4.cell? ⟨w.heap.size, 2, none⟩ = some (.int .i64 b) := by rw [blk_cell HC4.out]; rfl
        go_wp2_with fail
        refine (HRW.out _).mono ?_
        rintro e w5 ⟨rfl, rfl⟩
        go_wp2_with fail
        refine (HDB.out _).mono ?_
        rintro e w6 ⟨rfl, hb6⟩
        have HB6 := Lib.hid (HB4.out.trans (hb6.mono (by omega)))
        clear hb6
        go_wp2_with fail
        go_ret
        exact ⟨by rw [E.out]; rfl, HB6.out⟩
      · have E := Lib.hid (HN1.out (fun h => hr0 (r0.2 h)) (fun h => hr2 (r2.2 h)))
        have g2 : ¬ 1 < r := by omega
        clear r0 r2 rl ul hr0 hr2
        go_wp2_with fail
        refine (HDA.out _).mono ?_
        rintro e w4 ⟨rfl, hb4⟩
        have hs4 := hb4.size
        have HB4 := Lib.hid (HB2.out.trans (hb4.mono (by omega)))
        have HC4 := Lib.hid ((hb4.block w.heap.size (by omega)).trans HC2.out)
        clear hb4 j0 j1
        have j0 : w4.cell? ⟨w.heap.size, 0, none⟩ = some (.int .u8 (o : Int)) := by rw [blk_cell HC4.out]; rfl
        go_wp2_with fail
        refine (HRW.out _).mono ?_
        rintro e w5 ⟨rfl, rfl⟩
        go_wp2_with fail
        go_ret
        exact ⟨by rw [E.out]; rfl, HB4.out⟩
  · have d1 : 16 < o := by omega
    have E := Lib.hid (HN0.out (HUB.out ho))
    clear HRF HNM HRU HUB HB1 HC1 ho
    go_wp2_with fail
    go_ret
    exact ⟨by rw [E.out]; rfl, HB2.out⟩
end Go.Proofs.YtkmcjjoicpgjfaaDoor
/-
  strconv.Itoa by the shelf's contract, laid at this program. (Only in the seat of the Code laws.)
-/
namespace Go.Proofs.YtkmcjjoicpgjfaaDoor
open Go Go.Shelf
def laysM171_ren : Go.Shelf.Ren := ⟨fun | 171 => 28 | 243 => 53 | 246 => 75 | 283 => 83 | 284 => 84 | 285 => 85 | 286 => 86 | 129 => 90 | 317 => 89 | 318 => 91 | 319 => 92 | 320 => 93 | 337 => 95 | 338 => 96 | n => n, fun | 3 => 3 | 9 => 9 | 2 => 2 | 4 => 4 | 171 => 134 | 0 => 0 | 53 => 113 | 37 => 39 | 5 => 5 | 173 => 137 | 212 => 141 | 51 => 142 | 20 => 20 | 213 => 143 | 46 => 139 | 232 => 147 | 233 => 152 | n => n, fun | 17 => 0 | 18 => 1 | 19 => 2 | n => n⟩
theorem laysM171 : Go.Proofs.LaysM.n171 Tryd.prog laysM171_ren := {
  mixed := by kernel_rfl
  f129 := Tryd.func90.trans (congrArg some (by kernel_rfl))
  f171 := Tryd.func28.trans (congrArg some (by kernel_rfl))
  f243 := Tryd.func53.trans (congrArg some (by kernel_rfl))
  f246 := Tryd.func75.trans (congrArg some (by kernel_rfl))
  f283 := Tryd.func83.trans (congrArg some (by kernel_rfl))
  f284 := Tryd.func84.trans (congrArg some (by kernel_rfl))
  f285 := Tryd.func85.trans (congrArg some (by kernel_rfl))
  f286 := Tryd.func86.trans (congrArg some (by kernel_rfl))
  f317 := Tryd.func89.trans (congrArg some (by kernel_rfl))
  f318 := Tryd.func91.trans (congrArg some (by kernel_rfl))
  f319 := Tryd.func92.trans (congrArg some (by kernel_rfl))
  f320 := Tryd.func93.trans (congrArg some (by kernel_rfl))
  f337 := Tryd.func95.trans (congrArg some (by kernel_rfl))
  f338 := Tryd.func96.trans (congrArg some (by kernel_rfl))
  t0 := Tryd.underlying0
  a0 := Tryd.isAgg0
  z0 := Tryd.sizeOf0
  v0 := Tryd.zeroValue0
  t2 := Tryd.underlying2
  a2 := Tryd.isAgg2
  z2 := Tryd.sizeOf2
  v2 := Tryd.zeroValue2
  t3 := Tryd.underlying3
  a3 := Tryd.isAgg3
  z3 := Tryd.sizeOf3
  v3 := Tryd.zeroValue3
  t4 := Tryd.underlying4
  a4 := Tryd.isAgg4
  z4 := Tryd.sizeOf4
  v4 := Tryd.zeroValue4
  t5 := Tryd.underlying5
  a5 := Tryd.isAgg5
  z5 := Tryd.sizeOf5
  v5 := Tryd.zeroValue5
  t9 := Tryd.underlying9
  a9 := Tryd.isAgg9
  z9 := Tryd.sizeOf9
  v9 := Tryd.zeroValue9
  t20 := Tryd.underlying20
  a20 := Tryd.isAgg20
  z20 := Tryd.sizeOf20
  v20 := Tryd.zeroValue20
  t37 := Tryd.underlying39
  a37 := Tryd.isAgg39
  z37 := Tryd.sizeOf39
  v37 := Tryd.zeroValue39
  t46 := Tryd.underlying139
  a46 := Tryd.isAgg139
  z46 := Tryd.sizeOf139
  v46 := Tryd.zeroValue139
  t51 := Tryd.underlying142
  a51 := Tryd.isAgg142
  z51 := Tryd.sizeOf142
  v51 := Tryd.zeroValue142
  t53 := Tryd.underlying113
  a53 := Tryd.isAgg113
  z53 := Tryd.sizeOf113
  v53 := Tryd.zeroValue113
  t171 := Tryd.underlying134
  a171 := Tryd.isAgg134
  z171 := Tryd.sizeOf134
  v171 := Tryd.zeroValue134
  t173 := Tryd.underlying137
  a173 := Tryd.isAgg137
  z173 := Tryd.sizeOf137
  v173 := Tryd.zeroValue137
  t212 := Tryd.underlying141
  a212 := Tryd.isAgg141
  z212 := Tryd.sizeOf141
  v212 := Tryd.zeroValue141
  t213 := Tryd.underlying143
  a213 := Tryd.isAgg143
  z213 := Tryd.sizeOf143
  t232 := Tryd.underlying147
  a232 := Tryd.isAgg147
  z232 := Tryd.sizeOf147
  v232 := Tryd.zeroValue147
  t233 := Tryd.underlying152
  a233 := Tryd.isAgg152
  z233 := Tryd.sizeOf152
  v233 := Tryd.zeroValue152
  g17 := by kernel_rfl
  g18 := by kernel_rfl
  g19 := by kernel_rfl
  i0 := by kernel_rfl
  i2 := by kernel_rfl
  i3 := by kernel_rfl
  i4 := by kernel_rfl
  i5 := by kernel_rfl
  i9 := by kernel_rfl
  i20 := by kernel_rfl
  i37 := by kernel_rfl
  i46 := by kernel_rfl
  i51 := by kernel_rfl
  i53 := by kernel_rfl
  i171 := by kernel_rfl
  i173 := by kernel_rfl
  i212 := by kernel_rfl
  i232 := by kernel_rfl
  i233 := by kernel_rfl
  m17 := by kernel_rfl
  m18 := by kernel_rfl
  m19 := by kernel_rfl }
open Go.Sort in
theorem Itoa_any (n : Int) (h0 : -9223372036854775808 ≤ n) (h1 : n ≤ 9223372036854775807) (w : World) (htab : Lib.TabIs Tryd.prog w "internal/strconv.uint64pow10" .u64 Lib.pow10Tab) :
    Calls Tryd.prog 28 #[.int .i64 n] w fun e w' => e = .returned (.string ⟨(Lib.itoa n).toArray⟩) ∧ ∃ k os, w' = grow (w.drewN k) os := Any.strconv_Itoa laysM171 n h0 h1 w htab
end Go.Proofs.YtkmcjjoicpgjfaaDoor
/-
  Contract of code.Lines: a line for each instruction. Conditions: the sizes that slices can have, numbers that fit, and the table that strconv.Itoa reads.
-/
namespace Go.Proofs.YtkmcjjoicpgjfaaDoor
open Go Go.RowKit Go.Sh

set_option maxRecDepth 100000 in
theorem TSs : STy Tryd.prog 24 9 (.string .empty) 1 16 := ⟨Tryd.underlying24, by kernel_rfl, rfl, by decide⟩
/-- the table of powers of ten reads as it should, whatever is done from B on -/
def TabOK (B : Nat) (w : World) : Prop := Lib.TabBelow Tryd.prog B w "internal/strconv.uint64pow10" .u64 Lib.pow10Tab
theorem TabOK.on {B B' : Nat} {w w' : World} (h : TabOK B w) (hb : Below B' w w') (hB : B ≤ B') : TabOK B w' := Lib.TabBelow.on h (hb.mono hB)
theorem ItoaL_any (n : Int) (h0 : -9223372036854775808 ≤ n) (h1 : n ≤ 9223372036854775807) (w : World) {B : Nat} (ht : TabOK B w) :
    Calls Tryd.prog 28 #[.int .i64 n] w fun e w' => e = .returned (.string ⟨(Lib.itoa n).toArray⟩) ∧ Below w.heap.size w w' := by
  refine (Itoa_any n h0 h1 w ht.here).mono ?_
  rintro e w' ⟨rfl, k, os, rfl⟩
  exact ⟨rfl, Lib.below_grow _ w (Nat.le_refl _) k os⟩
theorem ln_one' {i : Ins} (h : usN i.op.toNat ≠ 0) (h3 : usN i.op.toNat ≠ 3) : (⟨(lnS i).toArray⟩ : ByteArray) = nmV i.op.toNat ++ (⟨#[32]⟩ ++ ⟨(Lib.itoa i.a).toArray⟩) := by
  unfold lnS nmV
  rw [if_neg h, if_neg h3, List.append_nil, show (⟨#[32]⟩ : ByteArray) = ⟨[32].toArray⟩ from rfl, str_cat, str_cat]
  rfl
theorem ln_two' {i : Ins} (h3 : usN i.op.toNat = 3) : (⟨(lnS i).toArray⟩ : ByteArray) = nmV i.op.toNat ++ (⟨#[32]⟩ ++ ⟨(Lib.itoa i.a).toArray⟩) ++ (⟨#[32]⟩ ++ ⟨(Lib.itoa i.b).toArray⟩) := by
  unfold lnS nmV
  rw [if_neg (by omega), if_pos h3, show (⟨#[32]⟩ : ByteArray) = ⟨[32].toArray⟩ from rfl, str_cat, str_cat, str_cat, str_cat]
  simp
set_option maxRecDepth 100000 in
set_option maxHeartbeats 4000000 in
theorem Lines_any (d : Pad) (p : Prg) (w : World) (B : Nat) (hc : RR w B 3 d.A1 d.n1 (p.code.map Ins.cells)) (hB : B ≤ w.heap.size) (hok : ∀ i ∈ p.code, i.OK) (hn : d.n1 * 16 ≤ 140737488355328) (ht : TabOK w.heap.size w) :
    Calls Tryd.prog 8 #[.agg (pcs d p)] w (fun e w' => ∃ A c, e = .returned (.slice A d.n1 c) ∧ w'.ownsRow w.heap.size 9 1 (.slice A d.n1 c) d.n1 (p.code.map lnV) ∧ Below w.heap.size w w') := by
  have hb1 := (Below.refl w.heap.size w).alloc (Nat.le_refl _) (.cells (pcs d p) 30)
  have HB1 := Lib.hid hb1
  have HT1 := Lib.hid (ht.on hb1 (Nat.le_refl _))
  have HC1 := Lib.hid (hc.below (hb1.mono hB))
  have hc0 : (w.alloc (.cells (pcs d p) 30)).cell? ⟨w.heap.size, 0, none⟩ = some (.slice d.A1 d.n1 d.c1) := by rw [blk_cell (heap_alloc_new w _)]; rfl
  have hps : (pcs d p).size = 8 := rfl
  have hz1 : (w.alloc (.cells (pcs d p) 30)).heap.size = w.heap.size + 1 := by simp
  have HOK := Lib.hid hok
  have HL1 := Lib.hid (show p.code.length = d.n1 by have := hc.len; rw [List.length_map] at this; exact this)
  clear hc hb1 hok ht
  obtain ⟨X, hX⟩ : ∃ X, pcs d p = X := ⟨_, rfl⟩
  rw [hX] at HB1 HT1 HC1 hc0 hps hz1 ⊢
  have hxe : ¬ X = #[] := by intro h; rw [h] at hps; cases hps
  clear hX
  generalize d.n1 = n at *
  generalize d.A1 = A0 at *
  generalize d.c1 = cc at *
  go_enter Tryd.func8, Tryd.ntmps8
  go_wp2_with fail
  clear hc0
  generalize w.alloc (.cells X 30) = w1 at *
  generalize hg : w.heap.size = g at *
  have HG := Lib.hid hg
  clear hg
  go_loopw [3, 5, 6, 7, 8, 12] (fun ls _ _ _ _ i wr => ∃ (k : Nat) (A : Option Addr) (c : Nat), k ≤ n ∧ i = .int .i64 (k : Int) ∧ ls = .slice A k c ∧ wr.ownsRow (g + 1) 9 1 (.slice A k c) k ((p.code.map lnV).take k) ∧ Below (g + 1) w1 wr) (fun _ _ _ _ _ i _ => n - (intOf i).toNat)
  case atStart => exact ⟨0, none, 0, by omega, rfl, rfl, World.ownsRow_nil _ _ _ _, Below.refl _ _⟩
  case round =>
    obtain ⟨k, A, c, hk, rfl, rfl, ho, hb⟩ := hrel
    have HO := Lib.hid ho
    have HBr := Lib.hid hb
    have hz := hb.size
    clear ho hb
    by_cases hlt : k < n
    · have dk : (k : Int) < (n : Int) := by omega
      obtain ⟨b, off, hA1, hbB, c0, c1, c2⟩ := ins_at (HC1.out.below (HBr.out.mono (by omega))) hlt
      rw [hA1]
      have HMEM := Lib.hid (HOK.out _ (iat_mem (l := p.code) (k := k) (by have := HL1.out; omega)))
      have HTK := Lib.hid (show (p.code.map lnV).take (k + 1) = (p.code.map lnV).take k ++ [lnV (iat p.code k)] by
        rw [List.take_add_one, List.getElem?_map, iat_eq (by have := HL1.out; omega)]; rfl)
      generalize iat p.code k = st at *
      have HTA := Lib.hid (fun W h => ItoaL_any st.a HMEM.out.a.1 HMEM.out.a.2 W (B := g) h)
      have HTB := Lib.hid (fun W h => ItoaL_any st.b HMEM.out.b.1 HMEM.out.b.2 W (B := g) h)
      have la : (⟨(Lib.itoa st.a).toArray⟩ : ByteArray).size ≤ 21 := Lib.itoa_length_le st.a HMEM.out.a.1 HMEM.out.a.2
      have lb : (⟨(Lib.itoa st.b).toArray⟩ : ByteArray).size ≤ 21 := Lib.itoa_length_le st.b HMEM.out.b.1 HMEM.out.b.2
      have HN0 := Lib.hid (fun h => ln_none (i := st) h)
      have HN1 := Lib.hid (fun h h3 => ln_one' (i := st) h h3)
      have HN2 := Lib.hid (fun h3 => ln_two' (i := st) h3)
      have HLV := Lib.hid (show lnV st = .string ⟨(lnS st).toArray⟩ from rfl)
      clear HMEM
      generalize (⟨(Lib.itoa st.a).toArray⟩ : ByteArray) = sa at *
      generalize (⟨(Lib.itoa st.b).toArray⟩ : ByteArray) = sb at *
      generalize (⟨(lnS st).toArray⟩ : ByteArray) = LN at *
      generalize lnV st = lv at *
      obtain ⟨op, a, bb⟩ := st
      simp only at c0 c1 c2 HTA HTB HN0 HN1 HN2
      have hln := nmV_size op.toNat
      have HTI := Lib.hid (fun W => title_any op.toNat W)
      have HUS := Lib.hid (fun W => uses_any op.toNat W)
      generalize nmV op.toNat = nm at *
      generalize usN op.toNat = u at *
      generalize usB op.toNat = ub at *
      generalize op.toNat = o at *
      have hba := (Below.refl wr.heap.size wr).alloc (Nat.le_refl _) (.cells #[.int .u8 (o : Int), .int .i64 a, .int .i64 bb] 33)
      have HBA := Lib.hid (HBr.out.trans (hba.mono (by omega)))
      have HOA := Lib.hid (own_later HO.out hba)
      have HCA := Lib.hid (heap_alloc_new wr (.cells #[.int .u8 (o : Int), .int .i64 a, .int .i64 bb] 33))
      have hzA : (wr.alloc (.cells #[.int .u8 (o : Int), .int .i64 a, .int .i64 bb] 33)).heap.size = wr.heap.size + 1 := by simp
      clear hba HO HBr
      go_wp2_with fail
      generalize wr.alloc (.cells #[.int .u8 (o : Int), .int .i64 a, .int .i64 bb] 33) = wa at *
      clear c0 c1 c2
      obtain ⟨ga, hga⟩ : ∃ ga, wr.heap.size = ga := ⟨_, rfl⟩
      rw [hga] at HCA hzA hz ⊢
      have HTA1 := Lib.hid (HT1.out.on HBA.out (Nat.le_succ _))
      refine (HTI.out _).mono ?_
      rintro e wb ⟨rfl, rfl⟩
      have j0 : wa.cell? ⟨ga, 0, none⟩ = some (.int .u8 (o : Int)) := by rw [blk_cell HCA.out]; rfl
      have j1 : wa.cell? ⟨ga, 1, none⟩ = some (.int .i64 a) := by rw [blk_cell HCA.out]; rfl
      go_wp2_with fail
      refine (HUS.out _).mono ?_
      rintro e wb ⟨rfl, rfl⟩
      clear HTI HUS
      rcases (show u = 0 ∨ u = 3 ∨ (u ≠ 0 ∧ u ≠ 3) by omega) with hu | hu | hu
      · have E := Lib.hid (HN0.out hu)
        subst hu
        rw [← E.out]
        have hge_u0 : g + 1 ≤ wa.heap.size := by omega
        clear hzA
        go_wp2_with (at_builtin; (refine wl_app TSs rfl (.tmp 41) (.tmp 43) rfl _ rfl (some ⟨wa.heap.size, 0, none⟩) 1 1 rfl (g + 1) k _ (HOA.out.alloc _) (wa.heap.size + 1) _ (Reads.lit wa _ [.string LN] 1 1 rfl _ rfl) ?hone_u0 ?hb1_u0 ?hb2_u0 ?hb3_u0 ?hgo_u0))
        case hone_u0 => simp [Value.oneCell']
        case hb1_u0 => omega
        case hb2_u0 => omega
        case hb3_u0 => simp; omega
        case hgo_u0 =>
          intro A3 c3 w3 hown3 hg3 _
          have HB3 := Lib.hid ((HBA.out.alloc (by omega) _).grown hg3 (by simp; omega) (own_drop HOA.out))
          have HO3 := Lib.hid (show w3.ownsRow (g + 1) 9 1 (.slice A3 (k + 1) c3) (k + 1) ((p.code.map lnV).take (k + 1)) by rw [HTK.out, HLV.out]; exact hown3)
          clear hown3 hg3
          go_wp2_with fail
          exact ⟨⟨k + 1, A3, c3, by omega, by go_num, rfl, HO3.out, HB3.out⟩, by simp [intOf]; omega⟩
      · have E := Lib.hid (HN2.out hu)
        have u0 : ((u : Int) != 0) = true := by rw [bne_iff_ne]; omega
        have u3 : ((u : Int) == 3) = true := by rw [beq_iff_eq]; omega
        clear hu
        go_wp2_with fail
        refine (HTA.out _ HTA1.out).mono ?_
        rintro e w5 ⟨rfl, hb5⟩
        have hs5 := hb5.size
        have HB5 := Lib.hid (HBA.out.trans (hb5.mono (by omega)))
        have HO5 := Lib.hid (own_later HOA.out hb5)
        have HC5 := Lib.hid ((hb5.block ga (by omega)).trans HCA.out)
        have HTB5 := Lib.hid (HT1.out.on HB5.out (Nat.le_succ _))
        clear hb5
        have k05 : w5.cell? ⟨ga, 0, none⟩ = some (.int .u8 (o : Int)) := by rw [blk_cell HC5.out]; rfl
        have k25 : w5.cell? ⟨ga, 2, none⟩ = some (.int .i64 bb) := by rw [blk_cell HC5.out]; rfl
        go_wp2_with fail
        refine (HTB.out _ HTB5.out).mono ?_
        rintro e w6 ⟨rfl, hb6⟩
        have hs6 := hb6.size
        have HB6 := Lib.hid (HB5.out.trans (hb6.mono (by omega)))
        have HO6 := Lib.hid (own_later HO5.out hb6)
        have HC6 := Lib.hid ((hb6.block ga (by omega)).trans HC5.out)
        have HTB6 := Lib.hid (HT1.out.on HB6.out (Nat.le_succ _))
        clear hb6
        have k06 : w6.cell? ⟨ga, 0, none⟩ = some (.int .u8 (o : Int)) := by rw [blk_cell HC6.out]; rfl
        have k26 : w6.cell? ⟨ga, 2, none⟩ = some (.int .i64 bb) := by rw [blk_cell HC6.out]; rfl
        rw [E.out] at HLV
        have hge_u3 : g + 1 ≤ w6.heap.size := by omega
        skip
        go_wp2_with (at_builtin; (refine wl_app TSs rfl (.tmp 41) (.tmp 43) rfl _ rfl (some ⟨w6.heap.size, 0, none⟩) 1 1 rfl (g + 1) k _ (HO6.out.alloc _) (w6.heap.size + 1) _ (Reads.lit w6 _ [.string _] 1 1 rfl _ rfl) ?hone_u3 ?hb1_u3 ?hb2_u3 ?hb3_u3 ?hgo_u3))
        case hone_u3 => simp [Value.oneCell']
        case hb1_u3 => omega
        case hb2_u3 => omega
        case hb3_u3 => simp; omega
        case hgo_u3 =>
          intro A3 c3 w3 hown3 hg3 _
          have HB3 := Lib.hid ((HB6.out.alloc (by omega) _).grown hg3 (by simp; omega) (own_drop HO6.out))
          have HO3 := Lib.hid (show w3.ownsRow (g + 1) 9 1 (.slice A3 (k + 1) c3) (k + 1) ((p.code.map lnV).take (k + 1)) by rw [HTK.out, HLV.out]; exact hown3)
          clear hown3 hg3
          go_wp2_with fail
          exact ⟨⟨k + 1, A3, c3, by omega, by go_num, rfl, HO3.out, HB3.out⟩, by simp [intOf]; omega⟩
      · have E := Lib.hid (HN1.out hu.1 hu.2)
        have u0 : ((u : Int) != 0) = true := by rw [bne_iff_ne]; omega
        have u3 : ((u : Int) == 3) = false := by rw [beq_eq_false_iff_ne]; omega
        clear hu
        go_wp2_with fail
        refine (HTA.out _ HTA1.out).mono ?_
        rintro e w5 ⟨rfl, hb5⟩
        have hs5 := hb5.size
        have HB5 := Lib.hid (HBA.out.trans (hb5.mono (by omega)))
        have HO5 := Lib.hid (own_later HOA.out hb5)
        have HC5 := Lib.hid ((hb5.block ga (by omega)).trans HCA.out)
        have HTB5 := Lib.hid (HT1.out.on HB5.out (Nat.le_succ _))
        clear hb5
        have k05 : w5.cell? ⟨ga, 0, none⟩ = some (.int .u8 (o : Int)) := by rw [blk_cell HC5.out]; rfl
        have k25 : w5.cell? ⟨ga, 2, none⟩ = some (.int .i64 bb) := by rw [blk_cell HC5.out]; rfl
        rw [E.out] at HLV
        have hge_u1 : g + 1 ≤ w5.heap.size := by omega
        skip
        go_wp2_with (at_builtin; (refine wl_app TSs rfl (.tmp 41) (.tmp 43) rfl _ rfl (some ⟨w5.heap.size, 0, none⟩) 1 1 rfl (g + 1) k _ (HO5.out.alloc _) (w5.heap.size + 1) _ (Reads.lit w5 _ [.string _] 1 1 rfl _ rfl) ?hone_u1 ?hb1_u1 ?hb2_u1 ?hb3_u1 ?hgo_u1))
        case hone_u1 => simp [Value.oneCell']
        case hb1_u1 => omega
        case hb2_u1 => omega
        case hb3_u1 => simp; omega
        case hgo_u1 =>
          intro A3 c3 w3 hown3 hg3 _
          have HB3 := Lib.hid ((HB5.out.alloc (by omega) _).grown hg3 (by simp; omega) (own_drop HO5.out))
          have HO3 := Lib.hid (show w3.ownsRow (g + 1) 9 1 (.slice A3 (k + 1) c3) (k + 1) ((p.code.map lnV).take (k + 1)) by rw [HTK.out, HLV.out]; exact hown3)
          clear hown3 hg3
          go_wp2_with fail
          exact ⟨⟨k + 1, A3, c3, by omega, by go_num, rfl, HO3.out, HB3.out⟩, by simp [intOf]; omega⟩
    · obtain rfl : k = n := by omega
      have HO2 := Lib.hid (show wr.ownsRow g 9 1 (.slice A k c) k (p.code.map lnV) by
        have h := own_base HO.out (Nat.le_succ g)
        rw [List.take_of_length_le (by rw [List.length_map]; have := HL1.out; omega)] at h
        exact h)
      have HBF := Lib.hid (HB1.out.trans (HBr.out.mono (Nat.le_succ _)))
      clear HO HBr
      go_wp2_with fail
      go_ret
      exact ⟨A, c, rfl, by rw [HG.out]; exact HO2.out, by rw [HG.out]; exact HBF.out⟩
end Go.Proofs.YtkmcjjoicpgjfaaDoor
/-
  Contract of shallotlaw18.awake: true. Conditions: the table that strconv.Itoa reads.
-/
namespace Go.Proofs.YtkmcjjoicpgjfaaDoor
open Go Go.RowKit Go.Sh

theorem TabOK.more {B B' : Nat} {w : World} (h : TabOK B w) (hB : B ≤ B') : TabOK B' w := fun w' hb => h w' (hb.mono hB)
theorem own_at18 {w : World} {base e size n c : Nat} {A : Option Addr} {xs : List Value} (h : w.ownsRow base e size (.slice A n c) n xs) (hn : 0 < n) : ∃ g, A = some ⟨g, 0, none⟩ ∧ base ≤ g ∧ g < w.heap.size := by
  rcases h.2 with ⟨_, h0⟩ | ⟨g, cap, cur, hv, hb, hh, _⟩
  · omega
  · injection hv with hv
    exact ⟨g, hv, hb, (Array.getElem?_eq_some_iff.1 hh).1⟩
/-- the fixed program of one push -/
def p18 : Prg := ⟨[⟨1, -1, 0⟩], [], [], [], 0, 1, 0, 0⟩
theorem p18_ck : ckP p18 = 0 := by unfold ckP; decide
def b18 : List UInt8 := [115, 104, 108, 49, 0, 1, 0, 0, 0, 0, 0, 0, 0, 0, 0, 1, 0, 0, 0, 0, 0, 0, 1, 255, 255, 255, 255, 0, 0]
theorem p18_enc : encP p18 = b18 := by decide +kernel
theorem p18_line : p18.code.map lnV = [.string ⟨#[112, 117, 115, 104, 32, 45, 49]⟩] := by
  show [lnV ⟨1, -1, 0⟩] = _
  unfold lnV lnS
  have h1 : Lib.itoa (-1) = [45, 49] := by
    unfold Lib.itoa
    rw [if_pos (by decide), show Int.natAbs (-1) = 1 from rfl, Lib.decDigits_one (by decide)]
    rfl
  simp only
  rw [h1]
  rfl
/-- where it lies -/
def d18 (g : Nat) : Pad := ⟨some ⟨g, 0, none⟩, 1, 1, none, 0, 0, none, 0, 0, none, 0, 0⟩
theorem p18_at {W : World} {g B : Nat} {ty : TypeId} {fr : Nat × Nat} (h : W.heap[g]? = some (.cells #[.int .u8 1, .int .i64 (-1), .int .i64 0] ty fr)) (hB : g < B) : PR W B (d18 g) p18 := by
  have hz : RR W B 3 none 0 ([] : List (List Value)) := ⟨rfl, (fun _ h => by cases h), .inl rfl⟩
  have hc : ∀ k v, (#[.int .u8 1, .int .i64 (-1), .int .i64 0] : Array Value)[k]? = some v → W.cell? ⟨g, k, none⟩ = some v := fun k v hv => by rw [blk_cell h]; exact hv
  refine ⟨⟨rfl, fun cs hcs => ?_, .inr ⟨g, 0, rfl, hB, fun i cs hi j v hv => ?_⟩⟩, ⟨rfl, [], ⟨rfl, .inl rfl⟩, fun i hi => absurd hi (Nat.not_lt_zero _)⟩, ⟨rfl, [], ⟨rfl, .inl rfl⟩, fun i hi => absurd hi (Nat.not_lt_zero _)⟩, ⟨rfl, [], hz, fun i hi => absurd hi (Nat.not_lt_zero _)⟩, Nat.le_refl _, Nat.le_refl _, Nat.le_refl _, Nat.le_refl _, show 1 ≤ 140737488355328 by decide, Nat.zero_le _, Nat.zero_le _, Nat.zero_le _⟩
  · obtain ⟨x, _, rfl⟩ := List.mem_map.1 hcs
    rfl
  · refine hc _ _ ?_
    match i, j with
    | 0, 0 | 0, 1 | 0, 2 => obtain rfl := Option.some.inj hi; exact hv
    | 0, j + 3 => obtain rfl := Option.some.inj hi; simp [Ins.cells] at hv
    | i + 1, _ => simp [p18] at hi
set_option maxHeartbeats 4000000 in
set_option maxRecDepth 100000 in
theorem awake18_any (w : World) (ht : TabOK w.heap.size w) : Calls Tryd.prog 7 #[] w (fun e w' => e = .returned (.bool true) ∧ Below w.heap.size w w') := by
  have HE := Lib.hid (fun W g (h : W.heap[g]? = some (.cells #[.int .u8 1, .int .i64 (-1), .int .i64 0] 33 (0, 0))) (hg : g < W.heap.size) => Encode_any (d18 g) p18 W W.heap.size (p18_at h hg) (Nat.le_refl _))
  have HLN := Lib.hid (fun W g (h : W.heap[g]? = some (.cells #[.int .u8 1, .int .i64 (-1), .int .i64 0] 33 (0, 0))) (hg : g < W.heap.size) (ht : TabOK W.heap.size W) => Lines_any (d18 g) p18 W W.heap.size (p18_at h hg).code (Nat.le_refl _) (fun i hi => by
    obtain rfl : i = ⟨1, -1, 0⟩ := by simpa [p18] using hi
    exact ⟨⟨by decide, by decide⟩, by decide, by decide⟩) (show 1 * 16 ≤ 140737488355328 by decide) ht)
  rw [p18_ck, p18_enc] at HE
  rw [p18_line] at HLN
  obtain ⟨hz2, hc2, hd2, hb2⟩ := two_new w (.cells #[.int .u8 1, .int .i64 (-1), .int .i64 0] 33) (.cells #[.slice (some ⟨w.heap.size, 0, none⟩) 1 1, .slice none 0 0, .slice none 0 0, .slice none 0 0, .int .i64 0, .int .i64 1, .int .i64 0, .int .i64 0] 30)
  go_enter Tryd.func7, Tryd.ntmps7
  go_wp2_with fail
  generalize (w.alloc (.cells #[.int .u8 1, .int .i64 (-1), .int .i64 0] 33)).alloc (.cells #[.slice (some ⟨w.heap.size, 0, none⟩) 1 1, .slice none 0 0, .slice none 0 0, .slice none 0 0, .int .i64 0, .int .i64 1, .int .i64 0, .int .i64 0] 30) = w2 at *
  have HB2 := Lib.hid hb2
  have HC2 := Lib.hid hc2
  have HD2 := Lib.hid hd2
  have HT0 := Lib.hid ht
  clear hb2 hc2 hd2 ht
  refine (HE.out w2 w.heap.size HC2.out (by omega)).mono ?_
  rintro e w3 ⟨hb3, hpost⟩
  rcases hpost with ⟨hne, _⟩ | ⟨_, A, n, c, rfl, hn, ho⟩
  · exact absurd rfl hne
  have HB3 := Lib.hid (HB2.out.trans (hb3.mono (by omega)))
  have HC3 := Lib.hid ((hb3.block w.heap.size (by omega)).trans HC2.out)
  have HD3 := Lib.hid ((hb3.block (w.heap.size + 1) (by omega)).trans HD2.out)
  have HO3 := Lib.hid ho
  have hs3 := hb3.size
  obtain rfl : 29 = n := hn
  clear hb3 ho HE
  have m0 : w3.cell? ⟨w.heap.size + 1, 0, none⟩ = some (.slice (some ⟨w.heap.size, 0, none⟩) 1 1) := by rw [blk_cell HD3.out]; rfl
  have m1 : w3.cell? ⟨w.heap.size + 1, 1, none⟩ = some (.slice none 0 0) := by rw [blk_cell HD3.out]; rfl
  have m2 : w3.cell? ⟨w.heap.size + 1, 2, none⟩ = some (.slice none 0 0) := by rw [blk_cell HD3.out]; rfl
  have m3 : w3.cell? ⟨w.heap.size + 1, 3, none⟩ = some (.slice none 0 0) := by rw [blk_cell HD3.out]; rfl
  have m4 : w3.cell? ⟨w.heap.size + 1, 4, none⟩ = some (.int .i64 0) := by rw [blk_cell HD3.out]; rfl
  have m5 : w3.cell? ⟨w.heap.size + 1, 5, none⟩ = some (.int .i64 1) := by rw [blk_cell HD3.out]; rfl
  have m6 : w3.cell? ⟨w.heap.size + 1, 6, none⟩ = some (.int .i64 0) := by rw [blk_cell HD3.out]; rfl
  have m7 : w3.cell? ⟨w.heap.size + 1, 7, none⟩ = some (.int .i64 0) := by rw [blk_cell HD3.out]; rfl
  go_wp2_with fail
  refine (HLN.out w3 w.heap.size HC3.out (by omega) ((HT0.out.on HB3.out (Nat.le_refl _)).more (by omega))).mono ?_
  rintro e w4 ⟨A4, c4, rfl, ho4, hb4⟩
  have HB4 := Lib.hid (HB3.out.trans (hb4.mono (by omega)))
  obtain ⟨g3, rfl, _, _⟩ := own_at18 HO3.out (by decide)
  obtain ⟨g4, rfl, _, _⟩ := own_at18 ho4 (show 0 < 1 by decide)
  have HO4 := Lib.hid (own_later HO3.out hb4)
  have x0 := HO4.out.cellAt 0 (by decide)
  have x5 := HO4.out.cellAt 5 (by decide)
  have x22 := HO4.out.cellAt 22 (by decide)
  have x26 := HO4.out.cellAt 26 (by decide)
  have y0 := ho4.cellAt 0 (show 0 < 1 * 1 by decide)
  clear m0 m1 m2 m3 m4 m5 m6 m7 hb4 ho4 HO3 HO4 HLN
  rw [show (d18 w.heap.size).n1 = 1 from rfl]
  simp only [b18, bv, List.map_cons, List.getElem?_cons_succ, List.getElem?_cons_zero] at x0 x5 x22 x26 y0
  go_wp2_with fail
  go_ret
  exact ⟨rfl, HB4.out⟩
end Go.Proofs.YtkmcjjoicpgjfaaDoor
/-
  The walk of shallotlaw18.CodeBuilders: it returns true; nothing that was there has turned. Conditions: the sizes that the acts' slices can have together, and the table that strconv.Itoa reads.
-/
namespace Go.Proofs.YtkmcjjoicpgjfaaDoor
open Go Go.RowKit Go.Sh

def act0 : Ac := ⟨0, 0, 0, [], [], [], ⟨0, [], 0⟩⟩
def apd0 : Apd := ⟨none, 0, 0, none, 0, 0, none, 0, 0, none, 0, 0⟩
def aat (l : List Ac) (k : Nat) : Ac := l.getD k act0
def eat (l : List Apd) (k : Nat) : Apd := l.getD k apd0
/-- the program behind the calls -/
def runP (qs : List Ac) : Prg := qs.foldl (fun p a => namP (putP p a) a) prg0
def codeSum (qs : List Ac) : Nat := (qs.map fun a => a.code.length).sum
theorem aat_get {qs : List Ac} {k : Nat} (h : k < qs.length) : qs[k]? = some (aat qs k) := by
  rw [aat, List.getD_eq_getElem?_getD, List.getElem?_eq_getElem h]; rfl
theorem runP_step {qs : List Ac} {k : Nat} (h : k < qs.length) : runP (qs.take (k + 1)) = namP (putP (runP (qs.take k)) (aat qs k)) (aat qs k) := by
  rw [List.take_add_one, aat_get h, runP, List.foldl_append]; rfl
theorem codeSum_step {qs : List Ac} {k : Nat} (h : k < qs.length) : codeSum (qs.take (k + 1)) = codeSum (qs.take k) + (aat qs k).code.length := by
  rw [List.take_add_one, aat_get h, codeSum, List.map_append, List.sum_append]; simp [codeSum]
theorem codeSum_le (qs : List Ac) (k : Nat) : codeSum (qs.take k) ≤ codeSum qs := by
  rw [show codeSum qs = codeSum (qs.take k) + codeSum (qs.drop k) by rw [codeSum, codeSum, codeSum, ← List.sum_append, ← List.map_append, List.take_append_drop]]
  omega
/-- what memory holds of the acts -/
structure RAc (w : World) (B : Nat) (A : Option Addr) (n : Nat) (qs : List Ac) (es : List Apd) : Prop where
  la : qs.length = n
  le : es.length = n
  row : RR w B 9 A n ((List.range n).map fun k => (acs (eat es k) (aat qs k)).toList)
  at_ : ∀ k, k < n → AR w B (eat es k) (aat qs k)
theorem RAc.below {w w' : World} {B n : Nat} {A : Option Addr} {qs : List Ac} {es : List Apd} (h : RAc w B A n qs es) (hb : Below B w w') : RAc w' B A n qs es :=
  ⟨h.la, h.le, h.row.below hb, fun k hk => (h.at_ k hk).below hb⟩
theorem AR.lens {w : World} {B : Nat} {e : Apd} {a : Ac} (h : AR w B e a) : a.text.length ≤ 1048576 ∧ a.stops.length ≤ 1048576 ∧ a.spec.rts.length ≤ 1048576 := by
  have h1 := h.text.len
  have h2 := h.stops.len
  rw [List.length_map] at h2
  have h3 := h.rts.len
  exact ⟨by have := h.b2; omega, by have := h.b3; omega, by have := h.b4; omega⟩
theorem Sm.nil : Sm prg0 0 0 := ⟨Nat.le_refl _, Nat.le_refl _, Nat.le_refl _, Nat.le_refl _, fun x hx => by simp [prg0] at hx, fun x hx => by simp [prg0] at hx, fun x hx => by simp [prg0] at hx⟩
theorem Sm.run {w : World} {B n : Nat} {A : Option Addr} {qs : List Ac} {es : List Apd} (h : RAc w B A n qs es) : ∀ k, k ≤ n → Sm (runP (qs.take k)) k (codeSum (qs.take k))
  | 0, _ => Sm.nil
  | k + 1, hk => by
    have hl := h.la
    have ih := Sm.run h k (by omega)
    obtain ⟨h1, h2, h3⟩ := (h.at_ k (by omega)).lens
    rw [runP_step (by omega), codeSum_step (by omega)]
    exact ih.step _ h1 h2 h3
theorem LS.later {w w' : World} {b g base : Nat} {F : Nat → Prop} {p : Prg} (h : LS w b g base F p) (hb : Below w.heap.size w w') : LS w' b g base F p := by
  obtain ⟨⟨Sb, Sw, d, t, d', h1, h2, h3, h4, h5, h6⟩, h7, h8, h9, h10⟩ := h
  have hs := hb.size
  exact ⟨⟨Sb, Sw, d, t, d', h1.below hb h1.lt, h2.later hb, (hb.block g (by omega)).trans h3, h4.later hb, h5, fun k hk => by
    obtain ⟨f1, f2⟩ := h6 k hk
    exact ⟨by omega, f2⟩⟩, h7, h8, h9, by omega⟩
/-- a block more that stays as it is -/
theorem LS.with {w : World} {b g base q : Nat} {F : Nat → Prop} {p : Prg} (h : LS w b g base F p) (hq : w.heap.size = q) (w' : World) (hb : Below w.heap.size w w') (hw : w'.heap.size = q + 1) : LS w' b g base (fun k => k = q) p := by
  obtain ⟨⟨Sb, Sw, d, t, d', h1, h2, h3, h4, h5, h6⟩, h7, h8, h9, h10⟩ := h
  exact ⟨⟨Sb, Sw, d, t, d', h1.below hb h1.lt, h2.later hb, (hb.block g (by omega)).trans h3, h4.later hb, h5, fun k hk => by
    subst hk
    exact ⟨by omega, by omega, by omega, fun h => by have := (h2.lo k h).2; omega, fun h => by have := (h4.lo k h).2; omega⟩⟩, h7, h8, h9, by omega⟩
theorem LS.none {w : World} {b g base : Nat} {F : Nat → Prop} {p : Prg} (h : LS w b g base F p) : LS w b g base (fun _ => False) p := by
  obtain ⟨⟨Sb, Sw, d, t, d', h1, h2, h3, h4, h5, h6⟩, h7, h8, h9, h10⟩ := h
  exact ⟨⟨Sb, Sw, d, t, d', h1, h2, h3, h4, h5, fun _ hk => hk.elim⟩, h7, h8, h9, h10⟩
set_option maxRecDepth 100000 in
theorem infoBd (d : Pad) (p : Prg) : (Tryd.prog.info? 37).map (·.size) = some (pcs d p).size := by
  show (Tryd.prog.info? 37).map (·.size) = some 8
  kernel_rfl
theorem pcs_one (d : Pad) (p : Prg) : ∀ v ∈ (pcs d p).toList, v.oneCell' = true := by
  intro v hv
  simp only [pcs, List.mem_cons, List.not_mem_nil, or_false] at hv
  rcases hv with rfl | rfl | rfl | rfl | rfl | rfl | rfl | rfl <;> rfl
/-- a whole builder stored into its block -/
theorem wl_storeBd (x y : Operand) {w : World} {b : Nat} {d d' : Pad} {p p' : Prg} (H : BlkB w b d p) {ops : Array Oper} {rest : List Oper} {op : Oper} {a : Act} {Q : Exit → Act → World → Prop} (hw : Region.wanted op (yielded ops a.tmps) = true) (ho : op.op = .store 37 x y)
    (hx : a.eval x = .pointer (some ⟨b, 0, none⟩)) (hy : a.eval y = .agg (pcs d' p')) (hk : wpList Tryd.prog ops Q rest (a.put op.dst undef) (w.setRow b (pcs d' p'))) : wpList Tryd.prog ops Q (op :: rest) a w :=
  wl_store_blk hw _ x y ho b 0 (pcs d' p') hx hy _ _ H (Nat.le_refl 8) (infoBd d' p') (pcs_one d' p') hk
theorem Sm.get {w : World} {B n : Nat} {A : Option Addr} {qs : List Ac} {es : List Apd} (h : RAc w B A n qs es) (hs : codeSum qs ≤ 1048576) (hn : n ≤ 1048576) {k : Nat} (hk : k ≤ n) : Sm (runP (qs.take k)) 1048576 1048576 := by
  have h1 := Sm.run h k hk
  have h2 := codeSum_le qs k
  exact ⟨by have := h1.code; omega, by have := h1.msgs; omega, by have := h1.rts; omega, by have := h1.snds; omega, h1.mi, h1.ri, h1.si⟩
theorem Sm.mid {p : Prg} (h : Sm p 1048576 1048576) (a : Ac) (ht : a.text.length ≤ 1048576) (hn : (namP (putP p a) a).code.length ≤ 1048576) : (putP p a).code.length ≤ 1048576 ∧ (putP p a).rts.length ≤ 1048576 ∧ (∀ x ∈ (putP p a).rts, x.length ≤ 1048576) ∧ (putP p a).snds.length ≤ 1048576 ∧ ∀ x ∈ (putP p a).snds, x.rts.length ≤ 1048576 := by
  have hc : (namP (putP p a) a).code = (putP p a).code := by
    unfold namP
    split
    · rw [rtsP]; split <;> rfl
    · split
      · rw [sndP]; split <;> rfl
      · rfl
  have hr : (putP p a).rts = p.rts ∧ (putP p a).snds = p.snds := by
    unfold putP
    split
    · exact ⟨rfl, rfl⟩
    · split
      · split <;> exact ⟨rfl, rfl⟩
      · split
        · rw [msgP]; split <;> exact ⟨rfl, rfl⟩
        · exact ⟨rfl, rfl⟩
  have hx := ht
  rw [hc] at hn
  rw [hr.1, hr.2]
  exact ⟨hn, h.rts, h.ri, h.snds, h.si⟩
set_option maxHeartbeats 8000000 in
set_option maxRecDepth 100000 in
theorem CodeBuilders_walk (A : Option Addr) (n c : Nat) (qs : List Ac) (es : List Apd) (w : World) (hA : RAc w w.heap.size A n qs es) (hn : n ≤ 1048576) (hcs : codeSum qs ≤ 1048576) (ht : TabOK w.heap.size w) :
    Calls Tryd.prog 4 #[.slice A n c] w (fun e w' => e = .returned (.bool true) ∧ Below w.heap.size w w') := by
  have HA := Lib.hid hA
  have HCS := Lib.hid hcs
  have HT := Lib.hid ht
  have hb1 := (Below.refl w.heap.size w).alloc (Nat.le_refl _) (.cells #[.slice none 0 0, .slice none 0 0, .slice none 0 0, .slice none 0 0, .int .i64 0, .int .i64 0, .int .i64 0, .int .i64 0] 37)
  have hz1 : (w.alloc (.cells #[.slice none 0 0, .slice none 0 0, .slice none 0 0, .slice none 0 0, .int .i64 0, .int .i64 0, .int .i64 0, .int .i64 0] 37)).heap.size = w.heap.size + 1 := by simp
  have HK1 := Lib.hid (show BlkB (w.alloc (.cells #[.slice none 0 0, .slice none 0 0, .slice none 0 0, .slice none 0 0, .int .i64 0, .int .i64 0, .int .i64 0, .int .i64 0] 37)) w.heap.size pad0 prg0 from heap_alloc_new w _)
  have HB1 := Lib.hid hb1
  have HAW := Lib.hid (fun W h => awake18_any W h)
  obtain ⟨g0, hg0⟩ : ∃ g0, w.heap.size = g0 := ⟨_, rfl⟩
  have HG0 := Lib.hid hg0
  rw [hg0] at HA HT HB1 HK1 hz1 ⊢
  clear hA hcs ht hb1
  go_enter Tryd.func4, Tryd.ntmps4
  go_upto_region 2 with fail
  generalize w.alloc (.cells #[.slice none 0 0, .slice none 0 0, .slice none 0 0, .slice none 0 0, .int .i64 0, .int .i64 0, .int .i64 0, .int .i64 0] 37) = w1 at *
  have hl2 := Reads.lit w1 33 [.int .u8 0, .int .i64 0, .int .i64 0] 1 3 rfl (g0 + 1) hz1
  have hb2 := (Below.refl (g0 + 1) w1).alloc (by omega) (.cells #[.int .u8 0, .int .i64 0, .int .i64 0] 33)
  have hz2 : (w1.alloc (.cells #[.int .u8 0, .int .i64 0, .int .i64 0] 33)).heap.size = g0 + 2 := by simp; omega
  have HE1 := Lib.hid (Emit_any g0 (g0 + 1) (fun _ => False) pad0 pad0 prg0 (some ⟨g0 + 1, 0, none⟩) 1 1 (g0 + 1 + 1) [⟨0, 0, 0⟩] (w1.alloc (.cells #[.int .u8 0, .int .i64 0, .int .i64 0] 33)) (HK1.out.below hb2 (by omega)) (PO.nil _ _) hl2 (by omega) (by omega) (by decide))
  have HB2 := Lib.hid (HB1.out.trans (hb2.mono (by omega)))
  clear hl2 hb2 HK1 HB1
  go_wp2_with fail
  generalize w1.alloc (.cells #[.int .u8 0, .int .i64 0, .int .i64 0] 33) = w2 at *
  refine HE1.out.mono ?_
  rintro x w3 ⟨rfl, S3, d3, t3, r1, r2, r3, r4⟩
  have h31 : d3.n1 = 1 := r2.lc.symm
  have hz3 := r4.size
  have HB3 := Lib.hid (show Below g0 w w3 from HB2.out.grown r4 (by omega) (fun j hj => by injection hj with hj; omega))
  have HE2 := Lib.hid (Emit_any g0 (g0 + 1) S3 d3 t3 _ none 0 0 0 [] w3 r1 r2 Reads.none_ (by omega) (by omega) (by rw [h31]; decide))
  rw [h31] at HE2
  clear r1 r2 r3 r4 HE1 h31 HB2
  go_wp2_with fail
  refine HE2.out.mono ?_
  rintro x w4 ⟨rfl, S4, d4, t4, r1, r2, r3, r4⟩
  have h41 : d4.n1 = 1 := r2.lc.symm
  have hz4 := r4.size
  have hb4 : Below g0 w w4 := HB3.out.grown r4 (by omega) (fun j hj => by injection hj with hj; omega)
  have k0 : w4.cell? ⟨g0, 0, none⟩ = some (.slice d4.A1 1 d4.c1) := by rw [← h41]; exact r1.cell 0
  have HT4 := Lib.hid ((HT.out.on hb4 (Nat.le_refl _)).more (show g0 ≤ w4.heap.size by omega))
  have HB4 := Lib.hid hb4
  have HK4 := Lib.hid r1
  clear r1 r2 r3 r4 h41 hb4 HE2 HB3
  go_wp2_with fail
  refine (HAW.out w4 HT4.out).mono ?_
  rintro x w5 ⟨rfl, hb5⟩
  have HK5 := Lib.hid (HK4.out.below hb5 (by omega))
  have HB5 := Lib.hid (HB4.out.trans (hb5.mono (by omega)))
  have hz5 := hb5.size
  have HP0 := Lib.hid (show (.agg #[.slice none 0 0, .slice none 0 0, .slice none 0 0, .slice none 0 0, .int .i64 0, .int .i64 0, .int .i64 0, .int .i64 0] : Value) = .agg (pcs pad0 prg0) from rfl)
  clear k0 hb5 HK4 HB4 HT4
  obtain ⟨g, hg⟩ : ∃ g, w5.heap.size = g := ⟨_, rfl⟩
  have hb6 : Below g0 w ((w5.setRow g0 (pcs pad0 prg0)).alloc (.cells #[.slice none 0 0, .slice none 0 0, .slice none 0 0, .slice none 0 0, .int .i64 0, .int .i64 0, .int .i64 0, .int .i64 0] 30)) := (below_setRow HB5.out (Nat.le_refl g0) _).alloc (by rw [size_setRow]; omega) _
  have hs6 : ((w5.setRow g0 (pcs pad0 prg0)).alloc (.cells #[.slice none 0 0, .slice none 0 0, .slice none 0 0, .slice none 0 0, .int .i64 0, .int .i64 0, .int .i64 0, .int .i64 0] 30)).heap.size = g + 1 := by simp [hg]
  have hal6 := (Below.refl g (w5.setRow g0 (pcs pad0 prg0))).alloc (by rw [size_setRow]; omega) (.cells #[.slice none 0 0, .slice none 0 0, .slice none 0 0, .slice none 0 0, .int .i64 0, .int .i64 0, .int .i64 0, .int .i64 0] 30)
  have hw6 : BlkW ((w5.setRow g0 (pcs pad0 prg0)).alloc (.cells #[.slice none 0 0, .slice none 0 0, .slice none 0 0, .slice none 0 0, .int .i64 0, .int .i64 0, .int .i64 0, .int .i64 0] 30)) g pad0 prg0 := by
    have := heap_alloc_new (w5.setRow g0 (pcs pad0 prg0)) (.cells #[.slice none 0 0, .slice none 0 0, .slice none 0 0, .slice none 0 0, .int .i64 0, .int .i64 0, .int .i64 0, .int .i64 0] 30)
    rw [size_setRow, hg] at this
    exact this
  have hbk6 : BlkB ((w5.setRow g0 (pcs pad0 prg0)).alloc (.cells #[.slice none 0 0, .slice none 0 0, .slice none 0 0, .slice none 0 0, .int .i64 0, .int .i64 0, .int .i64 0, .int .i64 0] 30)) g0 pad0 prg0 := (hal6.block g0 (by omega)).trans (setRow_heap w5 g0 _ _ _ _ HK5.out)
  have HLS := Lib.hid (show LS ((w5.setRow g0 (pcs pad0 prg0)).alloc (.cells #[.slice none 0 0, .slice none 0 0, .slice none 0 0, .slice none 0 0, .int .i64 0, .int .i64 0, .int .i64 0, .int .i64 0] 30)) g0 g (g + 1) (fun _ => False) (runP (qs.take 0)) from ⟨⟨fun _ => False, fun _ => False, pad0, pad0, pad0, hbk6, PO.nil _ _, hw6, PO.nil _ _, fun _ h => h.elim, fun _ h => h.elim⟩, by omega, by omega, by omega, by omega⟩)
  have HB6 := Lib.hid hb6
  clear hb6 hal6 hw6 hbk6
  go_wp2_with (refine wl_storeBd (d' := pad0) (p' := prg0) _ _ HK5.out (by rfl) rfl rfl rfl ?_)
  generalize (w5.setRow g0 (pcs pad0 prg0)).alloc (.cells #[.slice none 0 0, .slice none 0 0, .slice none 0 0, .slice none 0 0, .int .i64 0, .int .i64 0, .int .i64 0, .int .i64 0] 30) = w6 at *
  clear HP0 HK5 HB5
  go_loopw [29, 6] (fun i _ wr => ∃ j : Nat, j ≤ n ∧ i = .int .i64 (j : Int) ∧ LS wr g0 g (g + 1) (fun _ => False) (runP (qs.take j)) ∧ Below g0 w wr) (fun i _ _ => n - (intOf i).toNat)
  case atStart => exact ⟨0, by omega, rfl, HLS.out, HB6.out⟩
  case round =>
    obtain ⟨j, hj, rfl, hls, hbr⟩ := hrel
    have HLR := Lib.hid hls
    have HBR := Lib.hid hbr
    by_cases hlt : j < n
    · obtain ⟨b, off, cs, rfl, hbb, hcs, _, hr⟩ := (HA.out.row.below hbr).at_ hlt
      have hlj : j < qs.length := by rw [HA.out.la]; exact hlt
      obtain rfl : cs = (acs (eat es j) (aat qs j)).toList := by
        rw [List.getElem?_map, List.getElem?_range hlt] at hcs
        exact (Option.some.inj hcs).symm
      have har := (HA.out.at_ j hlt).below hbr
      have HST := Lib.hid (runP_step hlj)
      have HSM := Lib.hid (Sm.get HA.out HCS.out hn (k := j) (by omega))
      have hsm3 := Sm.get HA.out HCS.out hn (k := j + 1) (by omega)
      rw [runP_step hlj] at hsm3
      have HSM3 := Lib.hid hsm3
      have HAR := Lib.hid har
      obtain ⟨e, he⟩ : ∃ e, eat es j = e := ⟨_, rfl⟩
      obtain ⟨a, ha⟩ : ∃ a, aat qs j = a := ⟨_, rfl⟩
      obtain ⟨P, hP⟩ : ∃ P, runP (qs.take j) = P := ⟨_, rfl⟩
      rw [he, ha] at HAR hr
      rw [hP] at HSM HLR
      rw [ha] at HST HSM3
      rw [hP] at HST HSM3
      have e0 : wr.cell? ⟨b, off + j * 9, none⟩ = some (.int .i64 a.kind) := hr 0 _ rfl
      have e1 : wr.cell? ⟨b, off + j * 9 + 1, none⟩ = some (.int .i64 a.at_) := hr 1 _ rfl
      have e2 : wr.cell? ⟨b, off + j * 9 + 2, none⟩ = some (.int .i64 a.to_) := hr 2 _ rfl
      have e3 : wr.cell? ⟨b, off + j * 9 + 3, none⟩ = some (.slice e.A1 e.n1 e.c1) := hr 3 _ rfl
      have e4 : wr.cell? ⟨b, off + j * 9 + 4, none⟩ = some (.slice e.A2 e.n2 e.c2) := hr 4 _ rfl
      have e5 : wr.cell? ⟨b, off + j * 9 + 5, none⟩ = some (.slice e.A3 e.n3 e.c3) := hr 5 _ rfl
      have e6 : wr.cell? ⟨b, off + j * 9 + 6, none⟩ = some (.int .i64 a.spec.msg) := hr 6 _ rfl
      have e7 : wr.cell? ⟨b, off + j * 9 + 7, none⟩ = some (.slice e.A4 e.n4 e.c4) := hr 7 _ rfl
      have e8 : wr.cell? ⟨b, off + j * 9 + 8, none⟩ = some (.int .i64 a.spec.blk) := hr 8 _ rfl
      have hji : (j : Int) < (n : Int) := by omega
      clear hr har hcs hls hbr hsm3 he ha hP hlj hbb
      obtain ⟨q, hq⟩ : ∃ q, wr.heap.size = q := ⟨_, rfl⟩
      have hba := (Below.refl wr.heap.size wr).alloc (Nat.le_refl _) (.cells (acs e a) 45)
      have hsa : (wr.alloc (.cells (acs e a) 45)).heap.size = q + 1 := by simp [hq]
      have hgq : g0 ≤ q := by have h1 := HBR.out.size; have h2 := HG0.out; omega
      have HLQ := Lib.hid (HLR.out.with hq _ hba hsa)
      have HNQ := Lib.hid (heap_alloc_new wr (.cells (acs e a) 45))
      have HARQ := Lib.hid (HAR.out.below (hba.mono (by omega)))
      have HBQ := Lib.hid (HBR.out.trans (hba.mono (by omega)))
      have hPU := puts_any g0 g (g + 1) g0 g0 (fun k => k = q) P e a _ HLQ.out HARQ.out (Nat.le_refl _) (Nat.le_refl _) (by omega) HSM.out.code HSM.out.msgs HSM.out.mi
      have hNA := fun W hl hr => names_any g0 g (g + 1) g0 g0 (fun k => k = q) (putP P a) e a W hl hr (Nat.le_refl _) (Nat.le_refl _) (by omega) (HSM.out.mid a HARQ.out.lens.1 HSM3.out.code).1 (HSM.out.mid a HARQ.out.lens.1 HSM3.out.code).2.1 (HSM.out.mid a HARQ.out.lens.1 HSM3.out.code).2.2.1 (HSM.out.mid a HARQ.out.lens.1 HSM3.out.code).2.2.2.1 (HSM.out.mid a HARQ.out.lens.1 HSM3.out.code).2.2.2.2
      rw [hq] at HNQ
      unfold acs at hPU hNA HNQ HLQ HARQ HBQ hsa
      have HPU := Lib.hid hPU
      have HNA := Lib.hid hNA
      clear hPU hNA hba HLR HAR HLQ
      go_wp2_with fail
      refine HPU.out.mono ?_
      rintro x w7 ⟨rfl, hl7, hst7⟩
      have hq7 := (hst7.2 q rfl).trans HNQ.out
      have f0 : w7.cell? ⟨q, 0, none⟩ = some (.int .i64 a.kind) := blk_cell hq7
      have f1 : w7.cell? ⟨q, 1, none⟩ = some (.int .i64 a.at_) := blk_cell hq7
      have f2 : w7.cell? ⟨q, 2, none⟩ = some (.int .i64 a.to_) := blk_cell hq7
      have f3 : w7.cell? ⟨q, 3, none⟩ = some (.slice e.A1 e.n1 e.c1) := blk_cell hq7
      have f4 : w7.cell? ⟨q, 4, none⟩ = some (.slice e.A2 e.n2 e.c2) := blk_cell hq7
      have f5 : w7.cell? ⟨q, 5, none⟩ = some (.slice e.A3 e.n3 e.c3) := blk_cell hq7
      have f6 : w7.cell? ⟨q, 6, none⟩ = some (.int .i64 a.spec.msg) := blk_cell hq7
      have f7 : w7.cell? ⟨q, 7, none⟩ = some (.slice e.A4 e.n4 e.c4) := blk_cell hq7
      have f8 : w7.cell? ⟨q, 8, none⟩ = some (.int .i64 a.spec.blk) := blk_cell hq7
      have HN7 := Lib.hid (HNA.out w7 hl7 (HARQ.out.below hst7.1))
      have HB7 := Lib.hid (HBQ.out.trans hst7.1)
      clear hl7 hst7 hq7 HPU HNA e0 e1 e2 e3 e4 e5 e6 e7 e8 HNQ HBQ hsa
      go_wp2_with fail
      refine HN7.out.mono ?_
      rintro x w8 ⟨rfl, hl8, hst8⟩
      clear f0 f1 f2 f3 f4 f5 f6 f7 f8
      have HB8 := Lib.hid (HB7.out.trans hst8.1)
      rw [← HST.out] at hl8
      rw [← HST.out] at HSM3
      have HL8 := Lib.hid hl8
      obtain ⟨P3, hP3⟩ : ∃ P3, runP (qs.take (j + 1)) = P3 := ⟨_, rfl⟩
      rw [hP3] at hl8 HSM3 HL8
      have HP3 := Lib.hid hP3
      obtain ⟨⟨Sb, Sw, d, t, d', hb8, hp8, hg8, ho8, _, _⟩, _, _, _, _⟩ := hl8
      have hc1 : P3.code.length = d.n1 := hp8.lc
      have hc2 : P3.msgs.length = d.n2 := hp8.lm
      have hc3 : P3.rts.length = d.n3 := hp8.lr
      have hc4 : P3.snds.length = d.n4 := hp8.ls
      have hd1 : P3.code.length = d'.n1 := ho8.lc
      have hd2 : P3.msgs.length = d'.n2 := ho8.lm
      have hd3 : P3.rts.length = d'.n3 := ho8.lr
      have hd4 : P3.snds.length = d'.n4 := ho8.ls
      have m1 := HSM3.out.code
      have m2 := HSM3.out.msgs
      have m3 := HSM3.out.rts
      have m4 := HSM3.out.snds
      have hse := Same_eq d d' P3 w8 w8.heap.size w8.heap.size (hp8.pr (by omega) (by omega) (by omega) (by omega)) (ho8.pr (by omega) (by omega) (by omega) (by omega)) (Nat.le_refl _) (Nat.le_refl _) (fun l hl => by have := HSM3.out.mi l hl; omega) (fun l hl => by have := HSM3.out.ri l hl; omega) (fun l hl => by have := HSM3.out.si l hl; omega)
      unfold pcs at hse
      have HSE := Lib.hid hse
      have f0 : w8.cell? ⟨g0, 0, none⟩ = some (.slice d.A1 d.n1 d.c1) := hb8.cell 0
      have f1 : w8.cell? ⟨g0, 1, none⟩ = some (.slice d.A2 d.n2 d.c2) := hb8.cell 1
      have f2 : w8.cell? ⟨g0, 2, none⟩ = some (.slice d.A3 d.n3 d.c3) := hb8.cell 2
      have f3 : w8.cell? ⟨g0, 3, none⟩ = some (.slice d.A4 d.n4 d.c4) := hb8.cell 3
      have f4 : w8.cell? ⟨g0, 4, none⟩ = some (.int .i64 P3.vars) := hb8.cell 4
      have f5 : w8.cell? ⟨g0, 5, none⟩ = some (.int .i64 P3.stack) := hb8.cell 5
      have f6 : w8.cell? ⟨g0, 6, none⟩ = some (.int .i64 P3.blocks) := hb8.cell 6
      have f7 : w8.cell? ⟨g0, 7, none⟩ = some (.int .i64 P3.fuel) := hb8.cell 7
      have y0 : w8.cell? ⟨g, 0, none⟩ = some (.slice d'.A1 d'.n1 d'.c1) := blk_cell hg8
      have y1 : w8.cell? ⟨g, 1, none⟩ = some (.slice d'.A2 d'.n2 d'.c2) := blk_cell hg8
      have y2 : w8.cell? ⟨g, 2, none⟩ = some (.slice d'.A3 d'.n3 d'.c3) := blk_cell hg8
      have y3 : w8.cell? ⟨g, 3, none⟩ = some (.slice d'.A4 d'.n4 d'.c4) := blk_cell hg8
      have y4 : w8.cell? ⟨g, 4, none⟩ = some (.int .i64 P3.vars) := blk_cell hg8
      have y5 : w8.cell? ⟨g, 5, none⟩ = some (.int .i64 P3.stack) := blk_cell hg8
      have y6 : w8.cell? ⟨g, 6, none⟩ = some (.int .i64 P3.blocks) := blk_cell hg8
      have y7 : w8.cell? ⟨g, 7, none⟩ = some (.int .i64 P3.fuel) := blk_cell hg8
      have hgl : g < w8.heap.size := (Array.getElem?_eq_some_iff.1 hg8).1
      have hbl : g0 < w8.heap.size := hb8.lt
      have hnn : ((d.n1 : Int) != (d'.n1 : Int)) = false := by rw [← hc1, ← hd1]; simp
      clear hb8 hp8 hg8 ho8 hse hst8 HN7 hP3 hc1 hc2 hc3 hc4 hd1 hd2 hd3 hd4 m1 m2 m3 m4
      go_wp2_with fail
      refine HSE.out.mono ?_
      rintro x w9 ⟨rfl, hb9⟩
      have x0 : w9.cell? ⟨g0, 0, none⟩ = some (.slice d.A1 d.n1 d.c1) := (hb9.cell (p := ⟨g0, 0, none⟩) hbl).trans f0
      have z0 : w9.cell? ⟨g, 0, none⟩ = some (.slice d'.A1 d'.n1 d'.c1) := (hb9.cell (p := ⟨g, 0, none⟩) hgl).trans y0
      have HB9 := Lib.hid (HB8.out.trans (hb9.mono (by have h1 := HB8.out.size; have h2 := HG0.out; omega)))
      have HL9 := Lib.hid ((HL8.out.later hb9).none)
      clear f0 f1 f2 f3 f4 f5 f6 f7 y0 y1 y2 y3 y4 y5 y6 y7 hb9
      go_wp2_with fail
      exact ⟨⟨j + 1, by omega, by go_num, by rw [HP3.out]; exact HL9.out, HB9.out⟩, by simp [intOf]; omega⟩
    · obtain rfl : j = n := by omega
      clear hls hbr
      go_wp2_with fail
      go_ret
      exact ⟨rfl, HBR.out⟩
end Go.Proofs.YtkmcjjoicpgjfaaDoor
/-
  Sizes of slices that came in: so many elements, each so many bytes. No statement of the seat is proved here.
-/
namespace Go.Sh
open Go Go.ChangeShapes Go.WideShapes Go.ChangeAt Go.RowKit

/-- n elements of k bytes each are within what a program can reach -/
theorem sizedBy {H : Type} {P : Program} {ts : List TypeId} {ds : List (DataW H)} (hsz : ((DataW.weightsEach P ts ds).all fun x => decide (x ≤ reachBytes)) = true) {j : Nat} {t e : TypeId} {d : DataW H} {n k : Nat}
    (h1 : ts[j]? = some t) (h2 : ds[j]? = some d) (ht : P.underlying t = some (.slice e)) (hb : k ≤ P.bytesOf e) (hd : HasLen d n) : n * k ≤ 140737488351232 := by
  rcases hd with ⟨_, rfl⟩ | ⟨es, sp, rfl, hl⟩
  · omega
  · have := sized_slice hsz h1 h2 ht
    have h3 : n * k ≤ (es.length + sp.length) * P.bytesOf e := Nat.mul_le_mul (by omega) hb
    simp only [reachBytes] at this
    omega
end Go.Sh
/-
  Nodes and stops among the arguments. No statement of the seat is proved here.
-/
namespace Go.Proofs.YtkmcjjoicpgjfaaDoor
open Go Go.RowKit Go.Sh Go.ChangeShapes Go.WideShapes Go.ChangeAt

set_option maxRecDepth 100000 in
/-- nodes that came in -/
theorem openNodes {H : Type} {enc : TypeId × Value → H} {W : World} {b0 : Nat} {r : Reach} {v : Value} {d : DataW H} {p : List MemPlace}
    (hok : Value.okWide Tryd.prog W r b0 150 v) (h : DataW.Trod enc Tryd.prog W 0 (fun _ => true) true 150 v d p) : ∃ (A : Option Addr) (n c : Nat) (hs : List Hp), v = .slice A n c ∧ (∀ h ∈ hs, h.OK) ∧ RR W W.heap.size 66 A n (hs.map Hp.node) ∧ n ≤ c ∧ HasLen d n := by
  obtain ⟨A, n, c, rfl⟩ := okWide_slice Tryd.underlying150 hok
  obtain ⟨fuel, hf⟩ := h
  rcases Go.Deep.open_slice Tryd.underlying150 hf with ⟨hcs, hx⟩ | ⟨a, n', c', m, q, D, Pl, hcs, _, hl, _, hm, hx, hi⟩
  · simp [Value.cells] at hcs
    obtain ⟨rfl, rfl, rfl⟩ := hcs
    injection hx with hd _
    exact ⟨none, 0, 0, [], rfl, (fun _ h => by cases h), ⟨rfl, (fun _ h => by cases h), .inl rfl⟩, Nat.le_refl _, .inl ⟨hd, rfl⟩⟩
  · simp [Value.cells] at hcs
    obtain ⟨rfl, rfl, rfl⟩ := hcs
    injection hx with hd _
    simp only [if_true] at hm
    subst hm
    have key : ∀ i, i < n → ∃ h : Hp, h.OK ∧ ∀ j v, h.node[j]? = some v → W.cell? (a.add (i * 66 + j)) = some v := by
      intro i hin
      obtain ⟨cs', hc, ht'⟩ := hi i (by omega)
      obtain ⟨nm, id, ks, rfl, hid, hkl, ho, _⟩ := trod_node ht'
      obtain ⟨h, hh⟩ : ∃ h : Hp, h = ⟨nm, id, ks, 0, 0⟩ := ⟨_, rfl⟩
      have hok : h.OK := by rw [hh]; exact ⟨hid, hkl, ho, by show (-9223372036854775808 : Int) ≤ 0 ∧ (0 : Int) ≤ 9223372036854775807; decide, by show (-9223372036854775808 : Int) ≤ 0 ∧ (0 : Int) ≤ 9223372036854775807; decide⟩
      have hnd : h.node = .string nm :: .int .u64 id :: ks := by rw [hh]; rfl
      rw [← hnd] at hc
      refine ⟨h, hok, fun j v hv => ?_⟩
      obtain ⟨_, hcl, hat⟩ := World.cells?_some hc
      have hj : j < 66 := by have := (List.getElem?_eq_some_iff.1 hv).1; rw [Hp.node_len hok] at this; exact this
      rw [cellsNode] at hat
      have := hat j hj
      rw [Go.Deep.add_add, hv] at this
      exact this
    have : Inhabited Hp := ⟨⟨⟨#[]⟩, 0, [], 0, 0⟩⟩
    obtain ⟨f, hfn⟩ := Go.Deep.choose_lt key
    refine ⟨some a, n, m, (List.range n).map f, rfl, fun h hh => ?_, ⟨by simp, fun cs hcs => ?_, ?_⟩, hl, .inr ⟨_, _, hd, by simp⟩⟩
    · obtain ⟨i, hin, rfl⟩ := List.mem_map.1 hh
      exact (hfn i (List.mem_range.1 hin)).1
    · obtain ⟨h, hh, rfl⟩ := List.mem_map.1 hcs
      obtain ⟨i, hin, rfl⟩ := List.mem_map.1 hh
      exact Hp.node_len (hfn i (List.mem_range.1 hin)).1
    · rcases Nat.eq_zero_or_pos n with h0 | h0
      · left
        rw [h0]
        rfl
      · right
        have hx0 := (hfn 0 h0).2 0 _ rfl
        obtain ⟨b, off, spot⟩ := a
        have hspot : spot = none := by simpa [Addr.add] using World.cell?_spot hx0
        subst hspot
        have hlt : b < W.heap.size := by
          have := World.block_lt_of_cell? W _ hx0
          rw [block_of_add] at this
          exact this
        refine ⟨b, off, rfl, hlt, fun i cs hc j v hv => ?_⟩
        have hin : i < n := by have := (List.getElem?_eq_some_iff.1 hc).1; simpa using this
        have e : cs = (f i).node := by simpa [hin] using hc.symm
        rw [e] at hv
        have := (hfn i hin).2 j v hv
        rw [add_mk] at this
        rw [Nat.add_assoc]
        exact this

set_option maxRecDepth 100000 in
theorem cellsStop : Tryd.prog.cellsOf 66 = 3 := by kernel_rfl
set_option maxRecDepth 100000 in
theorem trod_stop {H : Type} {enc : TypeId × Value → H} {W : World} {base : Nat} {spare : Nat → Bool} {held : Bool} {fuel : Nat} {x : DataW H × List MemPlace} {cs : List Value} (h : DataW.trod enc Tryd.prog W base spare held fuel 66 cs = some x) : ∃ s : Sp, s.OK ∧ cs = s.cells := by
  obtain ⟨xs, q, _, _, hl, hxl, hf⟩ := DataW.trod_struct Tryd.underlying66 h
  rw [cellsStop] at hl
  match cs, hl with
  | [a, b, c], _ =>
    have h0 : DataW.trod enc Tryd.prog W base spare held q 9 (List.take (Tryd.prog.cellsOf 9) (List.drop 0 [a, b, c])) = xs[0]? := hf 0 _ rfl
    have h1 : DataW.trod enc Tryd.prog W base spare held q 3 (List.take (Tryd.prog.cellsOf 3) (List.drop 1 [a, b, c])) = xs[1]? := hf 1 _ rfl
    have h2 : DataW.trod enc Tryd.prog W base spare held q 3 (List.take (Tryd.prog.cellsOf 3) (List.drop 2 [a, b, c])) = xs[2]? := hf 2 _ rfl
    have hxs : xs.length = 3 := hxl
    simp only [cellsS, cellsI, List.drop_zero, List.drop_succ_cons, List.take_succ_cons, List.take_zero] at h0 h1 h2
    rw [List.getElem?_eq_getElem (by omega)] at h0 h1 h2
    obtain ⟨nm, e0, _, _⟩ := DataW.trod_string Tryd.underlying9 h0
    obtain ⟨dl, e1, _, w1⟩ := DataW.trod_int Tryd.underlying3 h1
    obtain ⟨fl, e2, _, w2⟩ := DataW.trod_int Tryd.underlying3 h2
    obtain rfl : a = .string nm := by simpa using e0
    obtain rfl : b = .int .i64 dl := by simpa using e1
    obtain rfl : c = .int .i64 fl := by simpa using e2
    exact ⟨⟨nm, dl, fl⟩, ⟨bounds_i64 w1, bounds_i64 w2⟩, rfl⟩
set_option maxRecDepth 100000 in
/-- stops that came in -/
theorem openStops {H : Type} {enc : TypeId × Value → H} {W : World} {b0 : Nat} {r : Reach} {v : Value} {d : DataW H} {p : List MemPlace}
    (hok : Value.okWide Tryd.prog W r b0 40 v) (h : DataW.Trod enc Tryd.prog W 0 (fun _ => true) true 40 v d p) : ∃ (A : Option Addr) (n c : Nat) (hs : List Sp), v = .slice A n c ∧ (∀ h ∈ hs, h.OK) ∧ RR W W.heap.size 3 A n (hs.map Sp.cells) ∧ n ≤ c ∧ HasLen d n := by
  obtain ⟨A, n, c, rfl⟩ := okWide_slice Tryd.underlying40 hok
  obtain ⟨fuel, hf⟩ := h
  rcases Go.Deep.open_slice Tryd.underlying40 hf with ⟨hcs, hx⟩ | ⟨a, n', c', m, q, D, Pl, hcs, _, hl, _, hm, hx, hi⟩
  · simp [Value.cells] at hcs
    obtain ⟨rfl, rfl, rfl⟩ := hcs
    injection hx with hd _
    exact ⟨none, 0, 0, [], rfl, (fun _ h => by cases h), ⟨rfl, (fun _ h => by cases h), .inl rfl⟩, Nat.le_refl _, .inl ⟨hd, rfl⟩⟩
  · simp [Value.cells] at hcs
    obtain ⟨rfl, rfl, rfl⟩ := hcs
    injection hx with hd _
    simp only [if_true] at hm
    subst hm
    have key : ∀ i, i < n → ∃ h : Sp, h.OK ∧ ∀ j v, h.cells[j]? = some v → W.cell? (a.add (i * 3 + j)) = some v := by
      intro i hin
      obtain ⟨cs', hc, ht'⟩ := hi i (by omega)
      obtain ⟨h, hok, rfl⟩ := trod_stop ht'
      refine ⟨h, hok, fun j v hv => ?_⟩
      obtain ⟨_, hcl, hat⟩ := World.cells?_some hc
      have hj : j < 3 := by have := (List.getElem?_eq_some_iff.1 hv).1; exact this
      rw [cellsStop] at hat
      have := hat j hj
      rw [Go.Deep.add_add, hv] at this
      exact this
    have : Inhabited Sp := ⟨⟨⟨#[]⟩, 0, 0⟩⟩
    obtain ⟨f, hfn⟩ := Go.Deep.choose_lt key
    refine ⟨some a, n, m, (List.range n).map f, rfl, fun h hh => ?_, ⟨by simp, fun cs hcs => ?_, ?_⟩, hl, .inr ⟨_, _, hd, by simp⟩⟩
    · obtain ⟨i, hin, rfl⟩ := List.mem_map.1 hh
      exact (hfn i (List.mem_range.1 hin)).1
    · obtain ⟨h, hh, rfl⟩ := List.mem_map.1 hcs
      obtain ⟨i, hin, rfl⟩ := List.mem_map.1 hh
      exact rfl
    · rcases Nat.eq_zero_or_pos n with h0 | h0
      · left
        rw [h0]
        rfl
      · right
        have hx0 := (hfn 0 h0).2 0 _ rfl
        obtain ⟨b, off, spot⟩ := a
        have hspot : spot = none := by simpa [Addr.add] using World.cell?_spot hx0
        subst hspot
        have hlt : b < W.heap.size := by
          have := World.block_lt_of_cell? W _ hx0
          rw [block_of_add] at this
          exact this
        refine ⟨b, off, rfl, hlt, fun i cs hc j v hv => ?_⟩
        have hin : i < n := by have := (List.getElem?_eq_some_iff.1 hc).1; simpa using this
        have e : cs = (f i).cells := by simpa [hin] using hc.symm
        rw [e] at hv
        have := (hfn i hin).2 j v hv
        rw [add_mk] at this
        rw [Nat.add_assoc]
        exact this

end Go.Proofs.YtkmcjjoicpgjfaaDoor
/-
  A slice that came in, of whatever elements: its rows, and what the reader says of each. No statement of the seat is proved here.
-/
namespace Go.Proofs.YtkmcjjoicpgjfaaDoor
open Go Go.RowKit Go.Sh Go.ChangeShapes Go.WideShapes Go.ChangeAt

section
variable {H : Type} {enc : TypeId × Value → H} {W : World}
/-- what the data of a slice of n elements of type e says: each element's cells were read -/
def Rowed (enc : TypeId × Value → H) (W : World) (e : TypeId) (d : DataW H) (n : Nat) (css : List (List Value)) : Prop :=
  (d = .nil ∧ n = 0) ∨ ∃ es sp : List (DataW H), d = .slice es sp ∧ es.length = n ∧ ∀ (i : Nat) (cs : List Value), css[i]? = some cs → ∃ (q : Nat) (y : DataW H × List MemPlace), DataW.trod enc Tryd.prog W 0 (fun _ => true) true q e cs = some y ∧ es[i]? = some y.1
theorem Rowed.has {e : TypeId} {d : DataW H} {n : Nat} {css : List (List Value)} (h : Rowed enc W e d n css) : HasLen d n := by
  rcases h with h | ⟨es, sp, h1, h2, _⟩
  · exact .inl h
  · exact .inr ⟨es, sp, h1, h2⟩
set_option maxRecDepth 100000 in
theorem open_rows {t e : TypeId} {size fuel : Nat} {v : Value} {y : DataW H × List MemPlace} (ht : Tryd.prog.underlying t = some (.slice e)) (hs : Tryd.prog.cellsOf e = size) (h0 : 0 < size)
    (hf : DataW.trod enc Tryd.prog W 0 (fun _ => true) true fuel t [v] = some y) :
    ∃ A n c css, v = .slice A n c ∧ RR W W.heap.size size A n css ∧ n ≤ c ∧ Rowed enc W e y.1 n css := by
  rcases Go.Deep.open_slice ht hf with ⟨hcs, hx⟩ | ⟨a, n, c, m, q, D, Pl, hcs, _, hl, _, hm, hx, hi⟩
  · obtain rfl : v = .slice none 0 0 := by simpa using hcs
    subst hx
    exact ⟨none, 0, 0, [], rfl, ⟨rfl, (fun _ h => by cases h), .inl rfl⟩, Nat.le_refl _, .inl ⟨rfl, rfl⟩⟩
  · obtain rfl : v = .slice (some a) n c := by simpa using hcs
    subst hx
    simp only [if_true] at hm
    subst hm
    have key : ∀ i, i < n → ∃ cs : List Value, cs.length = size ∧ (∀ j v, cs[j]? = some v → W.cell? (a.add (i * size + j)) = some v) ∧ DataW.trod enc Tryd.prog W 0 (fun _ => true) true q e cs = some (D i, Pl i) := by
      intro i hin
      obtain ⟨cs', hc, ht'⟩ := hi i (by omega)
      rw [hs] at hc
      obtain ⟨_, hcl, hat⟩ := World.cells?_some hc
      refine ⟨cs', hcl, fun j v hv => ?_, ht'⟩
      have hj : j < size := by have := (List.getElem?_eq_some_iff.1 hv).1; omega
      have := hat j hj
      rw [Go.Deep.add_add, hv] at this
      exact this
    obtain ⟨f, hfn⟩ := Go.Deep.choose_lt key
    refine ⟨some a, n, m, (List.range n).map f, rfl, ⟨by simp, fun cs hcs => ?_, ?_⟩, hl, .inr ⟨_, _, rfl, by simp, fun i cs hc => ?_⟩⟩
    · obtain ⟨i, hin, rfl⟩ := List.mem_map.1 hcs
      exact (hfn i (List.mem_range.1 hin)).1
    · rcases Nat.eq_zero_or_pos n with hn | hn
      · left
        rw [hn]
        rfl
      · right
        obtain ⟨hl0, hx0, _⟩ := hfn 0 hn
        have hx0 := hx0 0 _ (List.getElem?_eq_getElem (by omega))
        obtain ⟨b, off, spot⟩ := a
        have hspot : spot = none := by simpa [Addr.add] using World.cell?_spot hx0
        subst hspot
        have hlt : b < W.heap.size := by
          have := World.block_lt_of_cell? W _ hx0
          rw [block_of_add] at this
          exact this
        refine ⟨b, off, rfl, hlt, fun i cs hc j v hv => ?_⟩
        have hin : i < n := by have := (List.getElem?_eq_some_iff.1 hc).1; simpa using this
        have e : cs = f i := by simpa [hin] using hc.symm
        rw [e] at hv
        have := (hfn i hin).2.1 j v hv
        rw [add_mk] at this
        rw [Nat.add_assoc]
        exact this
    · have hin : i < n := by have := (List.getElem?_eq_some_iff.1 hc).1; simpa using this
      have e : cs = f i := by simpa [hin] using hc.symm
      exact ⟨q, (D i, Pl i), by rw [e]; exact (hfn i hin).2.2, by simp [hin]⟩
end
end Go.Proofs.YtkmcjjoicpgjfaaDoor
/-
  The elements of a program that came in: instructions, lists of bytes, routes, sends. No statement of the seat is proved here.
-/
namespace Go.Proofs.YtkmcjjoicpgjfaaDoor
open Go Go.RowKit Go.Sh Go.ChangeShapes Go.WideShapes Go.ChangeAt

theorem rows_map {α : Type} (f : α → List Value) : ∀ css : List (List Value), (∀ cs ∈ css, ∃ x, cs = f x) → ∃ xs : List α, css = xs.map f
  | [], _ => ⟨[], rfl⟩
  | c :: css, h => by
    obtain ⟨x, hx⟩ := h c (by simp)
    obtain ⟨xs, hxs⟩ := rows_map f css fun cs hcs => h cs (by simp [hcs])
    exact ⟨x :: xs, by rw [List.map_cons, ← hx, ← hxs]⟩
section
variable {H : Type} {enc : TypeId × Value → H} {W : World} {base : Nat} {spare : Nat → Bool} {held : Bool} {fuel : Nat} {x : DataW H × List MemPlace}
set_option maxRecDepth 100000 in
theorem cellsIns : Tryd.prog.cellsOf 33 = 3 := by kernel_rfl
set_option maxRecDepth 100000 in
theorem cellsSpec : Tryd.prog.cellsOf 43 = 3 := by kernel_rfl
set_option maxRecDepth 100000 in
theorem cellsLs : Tryd.prog.cellsOf 41 = 1 := by kernel_rfl
set_option maxRecDepth 100000 in
theorem trod_ins {cs : List Value} (h : DataW.trod enc Tryd.prog W base spare held fuel 33 cs = some x) : ∃ i : Ins, cs = i.cells := by
  obtain ⟨xs, q, _, _, hl, hxl, hf⟩ := DataW.trod_struct Tryd.underlying33 h
  rw [cellsIns] at hl
  match cs, hl with
  | [a, b, c], _ =>
    have h0 : DataW.trod enc Tryd.prog W base spare held q 5 (List.take (Tryd.prog.cellsOf 5) (List.drop 0 [a, b, c])) = xs[0]? := hf 0 _ rfl
    have h1 : DataW.trod enc Tryd.prog W base spare held q 3 (List.take (Tryd.prog.cellsOf 3) (List.drop 1 [a, b, c])) = xs[1]? := hf 1 _ rfl
    have h2 : DataW.trod enc Tryd.prog W base spare held q 3 (List.take (Tryd.prog.cellsOf 3) (List.drop 2 [a, b, c])) = xs[2]? := hf 2 _ rfl
    have hxs : xs.length = 3 := hxl
    simp only [cells1b, cellsI, List.drop_zero, List.drop_succ_cons, List.take_succ_cons, List.take_zero] at h0 h1 h2
    rw [List.getElem?_eq_getElem (by omega)] at h0 h1 h2
    obtain ⟨op, e0, o1, o2⟩ := trod_u8 h0
    obtain ⟨dl, e1, _, w1⟩ := DataW.trod_int Tryd.underlying3 h1
    obtain ⟨fl, e2, _, w2⟩ := DataW.trod_int Tryd.underlying3 h2
    obtain rfl : b = .int .i64 dl := by simpa using e1
    obtain rfl : c = .int .i64 fl := by simpa using e2
    refine ⟨⟨UInt8.ofNat op.toNat, dl, fl⟩, ?_⟩
    rw [e0, Ins.cells]
    have : (((UInt8.ofNat op.toNat).toNat : Nat) : Int) = op := by
      rw [UInt8.toNat_ofNat']
      omega
    rw [this]
/-- numbers in a cell -/
theorem openIc {fuel : Nat} {v : Value} {y : DataW H × List MemPlace} (hf : DataW.trod enc Tryd.prog W 0 (fun _ => true) true fuel 41 [v] = some y) :
    ∃ A n c l, v = .slice A n c ∧ RI W W.heap.size A n l ∧ n ≤ c ∧ HasLen y.1 n := by
  obtain ⟨A, n, c, css, rfl, hr, hc, hd⟩ := open_rows (size := 1) Tryd.underlying41 cellsI (by decide) hf
  have hel : ∀ cs ∈ css, ∃ z : Int, cs = [.int .i64 z] ∧ -9223372036854775808 ≤ z ∧ z ≤ 9223372036854775807 := fun cs hcs => by
    obtain ⟨i, hi, rfl⟩ := List.mem_iff_getElem.1 hcs
    rcases hd with ⟨_, h0⟩ | ⟨es, sp, _, _, hel⟩
    · have := hr.len
      omega
    · obtain ⟨q, y2, ht, _⟩ := hel i _ (List.getElem?_eq_getElem hi)
      obtain ⟨z, e, _, w⟩ := DataW.trod_int Tryd.underlying3 ht
      exact ⟨z, e, bounds_i64 w⟩
  obtain ⟨zs, hzs⟩ := rows_map (fun z : Int => [Value.int .i64 z]) css fun cs hcs => by obtain ⟨z, e, _⟩ := hel cs hcs; exact ⟨z, e⟩
  have hflat : css.flatten = iv zs := by
    rw [hzs]
    clear hzs
    induction zs with
    | nil => rfl
    | cons z zs ih => simp [iv] at ih ⊢; exact ih
  have hrd := RR.reads hr (by decide)
  rw [hflat] at hrd
  refine ⟨A, n, c, zs, rfl, ⟨hrd, fun z hz => ?_⟩, hc, hd.has⟩
  obtain ⟨z', e, hb⟩ := hel [.int .i64 z] (by rw [hzs]; exact List.mem_map.2 ⟨z, hz, rfl⟩)
  injection e with e _
  injection e with _ e
  rw [e]
  exact hb
/-- stops in a cell -/
theorem openSc {fuel : Nat} {v : Value} {y : DataW H × List MemPlace} (hf : DataW.trod enc Tryd.prog W 0 (fun _ => true) true fuel 40 [v] = some y) :
    ∃ (A : Option Addr) (n c : Nat) (ss : List Sp), v = .slice A n c ∧ RR W W.heap.size 3 A n (ss.map Sp.cells) ∧ n ≤ c ∧ HasLen y.1 n := by
  obtain ⟨A, n, c, css, rfl, hr, hc, hd⟩ := open_rows (size := 3) Tryd.underlying40 cellsStop (by decide) hf
  have hel : ∀ cs ∈ css, ∃ s : Sp, cs = s.cells := fun cs hcs => by
    obtain ⟨i, hi, rfl⟩ := List.mem_iff_getElem.1 hcs
    rcases hd with ⟨_, h0⟩ | ⟨es, sp, _, _, hel⟩
    · have := hr.len
      omega
    · obtain ⟨q, y2, ht, _⟩ := hel i _ (List.getElem?_eq_getElem hi)
      obtain ⟨s, _, e⟩ := trod_stop ht
      exact ⟨s, e⟩
  obtain ⟨ss, rfl⟩ := rows_map Sp.cells css hel
  exact ⟨A, n, c, ss, rfl, hr, hc, hd.has⟩
/-- the data of rows of rows: how long each is -/
def HasRows (d : DataW H) (ls : List Nat) : Prop := (d = .nil ∧ ls = []) ∨ ∃ es sp : List (DataW H), d = .slice es sp ∧ es.length = ls.length ∧ ∀ i, i < ls.length → ∃ di, es[i]? = some di ∧ HasLen di (ls.getD i 0)
set_option maxRecDepth 100000 in
theorem openRts {fuel : Nat} {v : Value} {y : DataW H × List MemPlace} (hf : DataW.trod enc Tryd.prog W 0 (fun _ => true) true fuel 27 [v] = some y) :
    ∃ (A : Option Addr) (n c : Nat) (rs : List (List Sp)), v = .slice A n c ∧ RRt W W.heap.size A n rs ∧ n ≤ c ∧ HasRows y.1 (rs.map List.length) := by
  obtain ⟨A, n, c, css, rfl, hr, hc, hd⟩ := open_rows (size := 1) Tryd.underlying27 (by kernel_rfl) (by decide) hf
  rcases hd with ⟨hd, rfl⟩ | ⟨es, sp, hd, hel, hi⟩
  · have : css = [] := List.eq_nil_of_length_eq_zero hr.len
    subst this
    exact ⟨A, 0, c, [], rfl, ⟨rfl, [], RR.reads hr (by decide), fun i hi => absurd hi (Nat.not_lt_zero _)⟩, hc, .inl ⟨hd, rfl⟩⟩
  · have hcl := hr.len
    have key : ∀ i, i < n → ∃ x : (Option Addr × Nat × Nat) × List Sp, css[i]? = some [.slice x.1.1 x.1.2.1 x.1.2.2] ∧ x.1.2.1 ≤ x.1.2.2 ∧ RR W W.heap.size 3 x.1.1 x.1.2.1 (x.2.map Sp.cells) ∧ ∃ di, es[i]? = some di ∧ HasLen di x.2.length := by
      intro i hin
      have hci := List.getElem?_eq_getElem (l := css) (i := i) (by omega)
      obtain ⟨q, y2, ht, he⟩ := hi i _ hci
      have hl1 := hr.2.1 _ (List.mem_of_getElem? hci)
      match hcs : css[i]'(by omega), hl1 with
      | [u], _ =>
        rw [hcs] at ht
        obtain ⟨Ai, ni, ci, ss, rfl, h1, h2, h3⟩ := openSc ht
        have hsl : ss.length = ni := by have := h1.len; rw [List.length_map] at this; exact this
        exact ⟨⟨⟨Ai, ni, ci⟩, ss⟩, by rw [hci, hcs], h2, h1, _, he, by rw [hsl]; exact h3⟩
    have : Inhabited ((Option Addr × Nat × Nat) × List Sp) := ⟨⟨⟨none, 0, 0⟩, []⟩⟩
    obtain ⟨f, hfn⟩ := Go.Deep.choose_lt key
    have hrat : ∀ i, i < n → rat ((List.range n).map fun i => (f i).2) i = (f i).2 := fun i hin => by simp [rat, hin]
    have hflat : ∀ (l : List (List Value)), (∀ cs ∈ l, cs.length = 1) → ∀ i u, l[i]? = some [u] → l.flatten[i]? = some u := fun l hl i u hu => by
      have := flat_at hl i [u] hu 0 u rfl
      simpa using this
    refine ⟨A, n, c, (List.range n).map fun i => (f i).2, rfl, ⟨by simp, css.flatten, RR.reads hr (by decide), fun i hin => ?_⟩, hc, .inr ⟨es, sp, hd, by simp [hel], fun i hin => ?_⟩⟩
    · obtain ⟨h1, h2, h3, _⟩ := hfn i hin
      rw [hrat i hin]
      exact ⟨_, _, _, hflat css hr.2.1 i _ h1, h2, h3⟩
    · have hin' : i < n := by simpa using hin
      obtain ⟨_, _, _, di, h4, h5⟩ := hfn i hin'
      refine ⟨di, h4, ?_⟩
      simpa [hin'] using h5
/-- the data of a send: how long its routes are -/
def HasSnd (d : DataW H) (n : Nat) : Prop := ∃ d0 d1 d2, d = .agg [d0, d1, d2] ∧ HasLen d1 n
set_option maxRecDepth 100000 in
theorem trod_spec {fuel : Nat} {cs : List Value} {y : DataW H × List MemPlace} (h : DataW.trod enc Tryd.prog W 0 (fun _ => true) true fuel 43 cs = some y) :
    ∃ (m : Int) (A : Option Addr) (n c : Nat) (l : List Int) (b : Int), cs = [.int .i64 m, .slice A n c, .int .i64 b] ∧ RI W W.heap.size A n l ∧ n ≤ c ∧ HasSnd y.1 n := by
  obtain ⟨ys, q, _, hag, hl, hyl, hf⟩ := DataW.trod_struct Tryd.underlying43 h
  rw [cellsSpec] at hl
  have hys : ys.length = 3 := hyl
  match cs, hl, ys, hys with
  | [v0, v1, v2], _, [y0, y1, y2], _ =>
    have t0 : DataW.trod enc Tryd.prog W 0 (fun _ => true) true q 3 [v0] = some y0 := by
      have h := hf 0 _ rfl
      simpa [cellsI] using h
    have t1 : DataW.trod enc Tryd.prog W 0 (fun _ => true) true q 41 [v1] = some y1 := by
      have h := hf 1 _ rfl
      simpa [cellsLs] using h
    have t2 : DataW.trod enc Tryd.prog W 0 (fun _ => true) true q 3 [v2] = some y2 := by
      have h := hf 2 _ rfl
      simpa [cellsI] using h
    obtain ⟨m, e0, _, _⟩ := DataW.trod_int Tryd.underlying3 t0
    obtain ⟨A, n, c, l, rfl, h1, h2, h3⟩ := openIc t1
    obtain ⟨b, e2, _, _⟩ := DataW.trod_int Tryd.underlying3 t2
    obtain rfl : v0 = .int .i64 m := by simpa using e0
    obtain rfl : v2 = .int .i64 b := by simpa using e2
    exact ⟨m, A, n, c, l, b, rfl, h1, h2, y0.1, y1.1, y2.1, by rw [hag]; rfl, h3⟩
def HasSnds (d : DataW H) (ls : List Nat) : Prop := (d = .nil ∧ ls = []) ∨ ∃ es sp : List (DataW H), d = .slice es sp ∧ es.length = ls.length ∧ ∀ i, i < ls.length → ∃ di, es[i]? = some di ∧ HasSnd di (ls.getD i 0)
set_option maxRecDepth 100000 in
theorem openSnds {fuel : Nat} {v : Value} {y : DataW H × List MemPlace} (hf : DataW.trod enc Tryd.prog W 0 (fun _ => true) true fuel 28 [v] = some y) :
    ∃ (A : Option Addr) (n c : Nat) (ss : List Snd), v = .slice A n c ∧ RSn W W.heap.size A n ss ∧ n ≤ c ∧ HasSnds y.1 (ss.map fun s => s.rts.length) := by
  obtain ⟨A, n, c, css, rfl, hr, hc, hd⟩ := open_rows (size := 3) Tryd.underlying28 cellsSpec (by decide) hf
  rcases hd with ⟨hd, rfl⟩ | ⟨es, sp, hd, hel, hi⟩
  · have : css = [] := List.eq_nil_of_length_eq_zero hr.len
    subst this
    exact ⟨A, 0, c, [], rfl, ⟨rfl, [], hr, fun i hi => absurd hi (Nat.not_lt_zero _)⟩, hc, .inl ⟨hd, rfl⟩⟩
  · have hcl := hr.len
    have key : ∀ i, i < n → ∃ x : (Option Addr × Nat × Nat) × Snd, css[i]? = some [.int .i64 x.2.msg, .slice x.1.1 x.1.2.1 x.1.2.2, .int .i64 x.2.blk] ∧ x.1.2.1 ≤ x.1.2.2 ∧ RI W W.heap.size x.1.1 x.1.2.1 x.2.rts ∧ ∃ di, es[i]? = some di ∧ HasSnd di x.2.rts.length := by
      intro i hin
      have hci := List.getElem?_eq_getElem (l := css) (i := i) (by omega)
      obtain ⟨q, y2, ht, he⟩ := hi i _ hci
      obtain ⟨m, Ai, ni, ci, l, b, hcs, h1, h2, h3⟩ := trod_spec ht
      exact ⟨⟨⟨Ai, ni, ci⟩, ⟨m, l, b⟩⟩, by rw [hci, hcs], h2, h1, _, he, by rw [h1.len]; exact h3⟩
    have : Inhabited ((Option Addr × Nat × Nat) × Snd) := ⟨⟨⟨none, 0, 0⟩, ⟨0, [], 0⟩⟩⟩
    obtain ⟨f, hfn⟩ := Go.Deep.choose_lt key
    have hdat : ∀ i, i < n → dat ((List.range n).map fun i => (f i).2) i = (f i).2 := fun i hin => by simp [dat, hin]
    refine ⟨A, n, c, (List.range n).map fun i => (f i).2, rfl, ⟨by simp, css, hr, fun i hin => ?_⟩, hc, .inr ⟨es, sp, hd, by simp [hel], fun i hin => ?_⟩⟩
    · obtain ⟨h1, h2, h3, _⟩ := hfn i hin
      rw [hdat i hin]
      exact ⟨_, _, _, h1, h2, h3⟩
    · have hin' : i < n := by simpa using hin
      obtain ⟨_, _, _, di, h4, h5⟩ := hfn i hin'
      refine ⟨di, h4, ?_⟩
      simpa [hin'] using h5
set_option maxRecDepth 100000 in
/-- bytes in a cell -/
theorem openBc {H : Type} {enc : TypeId × Value → H} {P : Program} {W : World} {fuel : Nat} {t e : TypeId} {v : Value} {y : DataW H × List MemPlace} (he : P.underlying t = some (.slice e)) (hu : P.underlying e = some (.int .u8)) (hcu : P.cellsOf e = 1)
    (hf : DataW.trod enc P W 0 (fun _ => true) true fuel t [v] = some y) :
    ∃ A n c l, v = .slice A n c ∧ RB W W.heap.size A n l ∧ n ≤ c ∧ HasLen y.1 n := by
  rcases open_ints he hu hcu hf with ⟨hcs, hx⟩ | ⟨x, l, cc, zs, hcs, _, hll, hmm, hz, hx, hcell, hwz⟩
  · obtain rfl : v = .slice none 0 0 := by simpa using hcs
    subst hx
    exact ⟨none, 0, 0, [], rfl, RB.none_, Nat.le_refl _, .inl ⟨rfl, rfl⟩⟩
  · obtain rfl : v = .slice (some x) l cc := by simpa using hcs
    subst hx
    simp only [if_true] at hz
    have hlen : (toB (zs.take l)).length = l := by simp [toB]; omega
    refine ⟨some x, l, cc, toB (zs.take l), rfl, ⟨by rw [length_bv, hlen]; omega, ?_⟩, hll, .inr ⟨_, _, rfl, by simp [lits]; omega⟩⟩
    rcases Nat.eq_zero_or_pos l with h0 | h0
    · left
      apply List.eq_nil_of_length_eq_zero
      rw [length_bv, hlen, h0]
    refine .inr ⟨x, rfl, ?_, fun j hj => ?_⟩
    · have := hcell 0 (by omega)
      have hb := World.block_lt_of_cell? W _ this
      rw [block_of_add] at hb
      exact hb
    · rw [length_bv, hlen] at hj
      rw [bv_at _ _ (by rw [hlen]; exact hj), hcell j (by omega), bt_toB _ _ (by rw [List.length_take]; omega) (fun q hq => hwz q (List.mem_of_mem_take hq))]
      congr 2
      simp [hj]
set_option maxRecDepth 100000 in
/-- lists of bytes in a cell -/
theorem openMs {fuel : Nat} {v : Value} {y : DataW H × List MemPlace} (hf : DataW.trod enc Tryd.prog W 0 (fun _ => true) true fuel 26 [v] = some y) :
    ∃ (A : Option Addr) (n c : Nat) (ls : List (List UInt8)), v = .slice A n c ∧ RBB W W.heap.size A n ls ∧ n ≤ c ∧ HasRows y.1 (ls.map List.length) := by
  obtain ⟨A, n, c, css, rfl, hr, hc, hd⟩ := open_rows (size := 1) Tryd.underlying26 (by kernel_rfl) (by decide) hf
  rcases hd with ⟨hd, rfl⟩ | ⟨es, sp, hd, hel, hi⟩
  · have : css = [] := List.eq_nil_of_length_eq_zero hr.len
    subst this
    exact ⟨A, 0, c, [], rfl, ⟨rfl, [], RR.reads hr (by decide), fun i hi => absurd hi (Nat.not_lt_zero _)⟩, hc, .inl ⟨hd, rfl⟩⟩
  · have hcl := hr.len
    have key : ∀ i, i < n → ∃ x : (Option Addr × Nat × Nat) × List UInt8, css[i]? = some [.slice x.1.1 x.1.2.1 x.1.2.2] ∧ x.1.2.1 ≤ x.1.2.2 ∧ RB W W.heap.size x.1.1 x.1.2.1 x.2 ∧ ∃ di, es[i]? = some di ∧ HasLen di x.2.length := by
      intro i hin
      have hci := List.getElem?_eq_getElem (l := css) (i := i) (by omega)
      obtain ⟨q, y2, ht, he⟩ := hi i _ hci
      have hl1 := hr.2.1 _ (List.mem_of_getElem? hci)
      match hcs : css[i]'(by omega), hl1 with
      | [u], _ =>
        rw [hcs] at ht
        obtain ⟨Ai, ni, ci, l, rfl, h1, h2, h3⟩ := openBc Tryd.underlying39 Tryd.underlying5 cells1b ht
        exact ⟨⟨⟨Ai, ni, ci⟩, l⟩, by rw [hci, hcs], h2, h1, _, he, by rw [h1.len]; exact h3⟩
    have : Inhabited ((Option Addr × Nat × Nat) × List UInt8) := ⟨⟨⟨none, 0, 0⟩, []⟩⟩
    obtain ⟨f, hfn⟩ := Go.Deep.choose_lt key
    have hlat : ∀ i, i < n → lat ((List.range n).map fun i => (f i).2) i = (f i).2 := fun i hin => by simp [lat, hin]
    have hflat : ∀ (l : List (List Value)), (∀ cs ∈ l, cs.length = 1) → ∀ i u, l[i]? = some [u] → l.flatten[i]? = some u := fun l hl i u hu => by
      have := flat_at hl i [u] hu 0 u rfl
      simpa using this
    refine ⟨A, n, c, (List.range n).map fun i => (f i).2, rfl, ⟨by simp, css.flatten, RR.reads hr (by decide), fun i hin => ?_⟩, hc, .inr ⟨es, sp, hd, by simp [hel], fun i hin => ?_⟩⟩
    · obtain ⟨h1, h2, h3, _⟩ := hfn i hin
      rw [hlat i hin]
      exact ⟨_, _, _, hflat css hr.2.1 i _ h1, h2, h3⟩
    · have hin' : i < n := by simpa using hin
      obtain ⟨_, _, _, di, h4, h5⟩ := hfn i hin'
      refine ⟨di, h4, ?_⟩
      simpa [hin'] using h5
end
end Go.Proofs.YtkmcjjoicpgjfaaDoor
/-
  A program among the arguments. No statement of the seat is proved here.
-/
namespace Go.Proofs.YtkmcjjoicpgjfaaDoor
open Go Go.RowKit Go.Sh Go.ChangeShapes Go.WideShapes Go.ChangeAt

/-- the data of a program: how long its slices are -/
def HasPrg {H : Type} (d : DataW H) (p : Prg) : Prop := ∃ d0 d1 d2 d3 d4 d5 d6 d7, d = .agg [d0, d1, d2, d3, d4, d5, d6, d7] ∧ HasLen d0 p.code.length ∧ HasRows d1 (p.msgs.map List.length) ∧ HasRows d2 (p.rts.map List.length) ∧ HasSnds d3 (p.snds.map fun s => s.rts.length)
/-- a program in memory, but for what its sizes say -/
structure PR0 (w : World) (B : Nat) (d : Pad) (p : Prg) : Prop where
  code : RR w B 3 d.A1 d.n1 (p.code.map Ins.cells)
  msgs : RBB w B d.A2 d.n2 p.msgs
  rts : RRt w B d.A3 d.n3 p.rts
  snds : RSn w B d.A4 d.n4 p.snds
  k1 : d.n1 ≤ d.c1
  k2 : d.n2 ≤ d.c2
  k3 : d.n3 ≤ d.c3
  k4 : d.n4 ≤ d.c4
set_option maxRecDepth 100000 in
theorem cellsPrg : Tryd.prog.cellsOf 30 = 8 := by kernel_rfl
section
variable {H : Type} {enc : TypeId × Value → H} {W : World}
theorem openCode {fuel : Nat} {v : Value} {y : DataW H × List MemPlace} (hf : DataW.trod enc Tryd.prog W 0 (fun _ => true) true fuel 22 [v] = some y) :
    ∃ (A : Option Addr) (n c : Nat) (l : List Ins), v = .slice A n c ∧ RR W W.heap.size 3 A n (l.map Ins.cells) ∧ n ≤ c ∧ HasLen y.1 l.length := by
  obtain ⟨A, n, c, css, rfl, hr, hc, hd⟩ := open_rows (size := 3) Tryd.underlying22 cellsIns (by decide) hf
  have hel : ∀ cs ∈ css, ∃ s : Ins, cs = s.cells := fun cs hcs => by
    obtain ⟨i, hi, rfl⟩ := List.mem_iff_getElem.1 hcs
    rcases hd with ⟨_, h0⟩ | ⟨es, sp, _, _, hel⟩
    · have := hr.len
      omega
    · obtain ⟨q, y2, ht, _⟩ := hel i _ (List.getElem?_eq_getElem hi)
      exact trod_ins ht
  obtain ⟨l, rfl⟩ := rows_map Ins.cells css hel
  have hl : l.length = n := by have := hr.len; rw [List.length_map] at this; exact this
  exact ⟨A, n, c, l, rfl, hr, hc, by rw [hl]; exact hd.has⟩
set_option maxRecDepth 100000 in
theorem openPrg {b0 : Nat} {r : Reach} {v : Value} {d : DataW H} {p : List MemPlace} (hok : Value.okWide Tryd.prog W r b0 30 v) (h : DataW.Trod enc Tryd.prog W 0 (fun _ => true) true 30 v d p) :
    ∃ (d' : Pad) (p' : Prg), v = .agg (pcs d' p') ∧ PR0 W W.heap.size d' p' ∧ HasPrg d p' := by
  obtain ⟨cs, rfl, hsz, _⟩ : ∃ cs, v = .agg cs ∧ cs.size = Tryd.prog.cellsOf 30 ∧ Row.okWide Tryd.prog W r b0 30 cs := by
    simpa [Value.okWide, Tryd.underlying30] using hok
  obtain ⟨fuel, hf⟩ := h
  obtain ⟨ys, q, _, hag, hlen, hyl, hfield⟩ := DataW.trod_struct Tryd.underlying30 hf
  have hys : ys.length = 8 := hyl
  rw [cellsPrg] at hlen
  obtain ⟨l, hl⟩ : ∃ l, (Value.agg cs).cells.toList = l := ⟨_, rfl⟩
  rw [hl] at hlen hfield
  match l, hlen, ys, hys with
  | [v0, v1, v2, v3, v4, v5, v6, v7], _, [y0, y1, y2, y3, y4, y5, y6, y7], _ =>
    have t0 : DataW.trod enc Tryd.prog W 0 (fun _ => true) true q 22 [v0] = some y0 := by
      have h := hfield 0 _ rfl
      simpa [show Tryd.prog.cellsOf 22 = 1 by kernel_rfl] using h
    have t1 : DataW.trod enc Tryd.prog W 0 (fun _ => true) true q 26 [v1] = some y1 := by
      have h := hfield 1 _ rfl
      simpa [show Tryd.prog.cellsOf 26 = 1 by kernel_rfl] using h
    have t2 : DataW.trod enc Tryd.prog W 0 (fun _ => true) true q 27 [v2] = some y2 := by
      have h := hfield 2 _ rfl
      simpa [show Tryd.prog.cellsOf 27 = 1 by kernel_rfl] using h
    have t3 : DataW.trod enc Tryd.prog W 0 (fun _ => true) true q 28 [v3] = some y3 := by
      have h := hfield 3 _ rfl
      simpa [show Tryd.prog.cellsOf 28 = 1 by kernel_rfl] using h
    have t4 : DataW.trod enc Tryd.prog W 0 (fun _ => true) true q 3 [v4] = some y4 := by
      have h := hfield 4 _ rfl
      simpa [cellsI] using h
    have t5 : DataW.trod enc Tryd.prog W 0 (fun _ => true) true q 3 [v5] = some y5 := by
      have h := hfield 5 _ rfl
      simpa [cellsI] using h
    have t6 : DataW.trod enc Tryd.prog W 0 (fun _ => true) true q 3 [v6] = some y6 := by
      have h := hfield 6 _ rfl
      simpa [cellsI] using h
    have t7 : DataW.trod enc Tryd.prog W 0 (fun _ => true) true q 3 [v7] = some y7 := by
      have h := hfield 7 _ rfl
      simpa [cellsI] using h
    obtain ⟨A1, n1, c1, l1, rfl, a1, a2, a3⟩ := openCode t0
    obtain ⟨A2, n2, c2, l2, rfl, b1, b2, b3⟩ := openMs t1
    obtain ⟨A3, n3, c3, l3, rfl, g1, g2, g3⟩ := openRts t2
    obtain ⟨A4, n4, c4, l4, rfl, h1, h2, h3⟩ := openSnds t3
    obtain ⟨z4, e4, _, _⟩ := DataW.trod_int Tryd.underlying3 t4
    obtain ⟨z5, e5, _, _⟩ := DataW.trod_int Tryd.underlying3 t5
    obtain ⟨z6, e6, _, _⟩ := DataW.trod_int Tryd.underlying3 t6
    obtain ⟨z7, e7, _, _⟩ := DataW.trod_int Tryd.underlying3 t7
    simp only [List.cons.injEq, and_true] at e4 e5 e6 e7
    subst e4 e5 e6 e7
    refine ⟨⟨A1, n1, c1, A2, n2, c2, A3, n3, c3, A4, n4, c4⟩, ⟨l1, l2, l3, l4, z4, z5, z6, z7⟩, ?_, ⟨a1, b1, g1, h1, a2, b2, g2, h2⟩, y0.1, y1.1, y2.1, y3.1, y4.1, y5.1, y6.1, y7.1, ?_, a3, b3, g3, h3⟩
    · have e' : cs.toList = [.slice A1 n1 c1, .slice A2 n2 c2, .slice A3 n3 c3, .slice A4 n4 c4, .int .i64 z4, .int .i64 z5, .int .i64 z6, .int .i64 z7] := by simpa [Value.cells] using hl
      have : cs = #[.slice A1 n1 c1, .slice A2 n2 c2, .slice A3 n3 c3, .slice A4 n4 c4, .int .i64 z4, .int .i64 z5, .int .i64 z6, .int .i64 z7] := by rw [← e']
      rw [this]
      rfl
    · have := congrArg Prod.fst hag
      exact this
end
end Go.Proofs.YtkmcjjoicpgjfaaDoor
/-
  What the bound of an Upto statement gives: lengths of slices, strings and lists of lists among the arguments. No statement of the seat is proved here.
-/
namespace Go.Proofs.YtkmcjjoicpgjfaaDoor.bulks
open Go Go.Sh

theorem bound {H : Type} {l : List (DataW H)} (hk : Rows.uptoSmall H l = true) : Rows.uptoBulkAll l ≤ 1048576 := of_decide_eq_true hk
theorem pos {H : Type} (d : DataW H) : 0 < Rows.uptoBulk d := by
  cases d with
  | lit l => cases l <;> simp [Rows.uptoBulk]
  | _ => simp [Rows.uptoBulk]
theorem mem_le {H : Type} {d : DataW H} : ∀ {l : List (DataW H)}, d ∈ l → Rows.uptoBulk d ≤ Rows.uptoBulkAll l
  | x :: r, h => by
    rw [Rows.uptoBulkAll]
    rcases List.mem_cons.1 h with rfl | h
    · omega
    · have := mem_le h
      omega
theorem count_le {H : Type} : ∀ l : List (DataW H), l.length ≤ Rows.uptoBulkAll l
  | [] => Nat.le_refl _
  | x :: r => by
    have h1 := count_le r
    have h2 := pos x
    rw [Rows.uptoBulkAll, List.length_cons]
    omega
theorem slice_le {H : Type} {d : DataW H} {n : Nat} (h : HasLen d n) : n + 1 ≤ Rows.uptoBulk d := by
  rcases h with ⟨rfl, rfl⟩ | ⟨es, sp, rfl, hl⟩
  · simp [Rows.uptoBulk]
  · have := count_le es
    rw [Rows.uptoBulk]
    omega
theorem len_le {H : Type} {ds : List (DataW H)} {d : DataW H} {n : Nat} (hk : Rows.uptoBulkAll ds ≤ 1048576) (hm : d ∈ ds) (h : HasLen d n) : n ≤ 1048576 := by
  have h1 := mem_le hm
  have h2 := slice_le h
  omega
theorem str_le {H : Type} {ds : List (DataW H)} {s : ByteArray} (hk : Rows.uptoBulkAll ds ≤ 1048576) (hm : DataW.lit (.string s.data.toList) ∈ ds) : s.size ≤ 1048576 := by
  have h1 := mem_le hm
  rw [Rows.uptoBulk, Array.length_toList] at h1
  have : s.data.size = s.size := rfl
  omega
set_option maxRecDepth 100000 in
theorem lists_sum {H : Type} : ∀ (es : List (DataW H)) (ls : List (List UInt8)), es.length = ls.length → (∀ i, i < ls.length → ∃ di, es[i]? = some di ∧ HasLen di (lat ls i).length) → ls.flatten.length + ls.length ≤ Rows.uptoBulkAll es
  | [], [], _, _ => Nat.le_refl _
  | e :: es, l :: ls, hl, h => by
    have h1 := lists_sum es ls (by simpa using hl) (fun i hi => by
      obtain ⟨di, h2, h3⟩ := h (i + 1) (by simpa using hi)
      exact ⟨di, by simpa using h2, by simpa [lat] using h3⟩)
    obtain ⟨d0, h2, h3⟩ := h 0 (by simp)
    have h4 : e = d0 := by simpa using h2
    subst h4
    have h5 := slice_le h3
    have h6 : (lat (l :: ls) 0) = l := rfl
    rw [h6] at h5
    rw [Rows.uptoBulkAll, List.flatten_cons, List.length_append, List.length_cons]
    omega
theorem lists_le {H : Type} {ds : List (DataW H)} {d : DataW H} {ls : List (List UInt8)} (hk : Rows.uptoBulkAll ds ≤ 1048576) (hm : d ∈ ds) (h : HasLists d ls) : ls.flatten.length + ls.length ≤ 1048576 := by
  have h1 := mem_le hm
  rcases h with ⟨rfl, rfl⟩ | ⟨es, sp, rfl, hl, hi⟩
  · simp
  · have h2 := lists_sum es ls hl hi
    rw [Rows.uptoBulk] at h1
    omega
end Go.Proofs.YtkmcjjoicpgjfaaDoor.bulks
/-
  The acts among the arguments of CodeBuilders, opened; what the bound of its Upto statement gives of their sizes. No statement of the seat is proved here.
-/
namespace Go.Proofs.YtkmcjjoicpgjfaaDoor
open Go Go.RowKit Go.Sh Go.ChangeShapes Go.WideShapes Go.ChangeAt

/-- the data of an act: how long its slices are -/
def HasAct {H : Type} (d : DataW H) (a : Ac) : Prop := ∃ d0 d1 d2 d3 d4 d5 d6, d = .agg [d0, d1, d2, d3, d4, d5, d6] ∧ HasLen d3 a.code.length ∧ HasLen d4 a.text.length ∧ HasLen d5 a.stops.length ∧ HasSnd d6 a.spec.rts.length
def HasActs {H : Type} (d : DataW H) (qs : List Ac) : Prop := (d = .nil ∧ qs = []) ∨ ∃ es sp : List (DataW H), d = .slice es sp ∧ es.length = qs.length ∧ ∀ i, i < qs.length → ∃ di, es[i]? = some di ∧ HasAct di (aat qs i)
structure AR0 (w : World) (B : Nat) (e : Apd) (a : Ac) : Prop where
  code : RR w B 3 e.A1 e.n1 (a.code.map Ins.cells)
  text : RB w B e.A2 e.n2 a.text
  stops : RR w B 3 e.A3 e.n3 (a.stops.map Sp.cells)
  rts : RI w B e.A4 e.n4 a.spec.rts
theorem AR0.ar {w : World} {B : Nat} {e : Apd} {a : Ac} (h : AR0 w B e a) (h1 : a.code.length ≤ 1048576) (h2 : a.text.length ≤ 1048576) (h3 : a.stops.length ≤ 1048576) (h4 : a.spec.rts.length ≤ 1048576) : AR w B e a := by
  have l1 := h.code.len
  have l2 := h.text.len
  have l3 := h.stops.len
  have l4 := h.rts.len
  rw [List.length_map] at l1 l3
  exact ⟨h.code, h.text, h.stops, h.rts, by omega, by omega, by omega, by omega⟩
set_option maxRecDepth 100000 in
theorem cellsAct : Tryd.prog.cellsOf 45 = 9 := by kernel_rfl
section
variable {H : Type} {enc : TypeId × Value → H} {W : World}
set_option maxRecDepth 100000 in
theorem trod_act {fuel : Nat} {cs : List Value} {y : DataW H × List MemPlace} (hf : DataW.trod enc Tryd.prog W 0 (fun _ => true) true fuel 45 cs = some y) :
    ∃ (e : Apd) (a : Ac), cs = (acs e a).toList ∧ AR0 W W.heap.size e a ∧ HasAct y.1 a := by
  obtain ⟨ys, q, _, hag, hlen, hyl, hfield⟩ := DataW.trod_struct Tryd.underlying45 hf
  have hys : ys.length = 7 := hyl
  rw [cellsAct] at hlen
  match cs, hlen, ys, hys with
  | [v0, v1, v2, v3, v4, v5, v6, v7, v8], _, [y0, y1, y2, y3, y4, y5, y6], _ =>
    have t0 : DataW.trod enc Tryd.prog W 0 (fun _ => true) true q 3 [v0] = some y0 := by
      have h := hfield 0 _ rfl
      simpa [cellsI] using h
    have t1 : DataW.trod enc Tryd.prog W 0 (fun _ => true) true q 3 [v1] = some y1 := by
      have h := hfield 1 _ rfl
      simpa [cellsI] using h
    have t2 : DataW.trod enc Tryd.prog W 0 (fun _ => true) true q 3 [v2] = some y2 := by
      have h := hfield 2 _ rfl
      simpa [cellsI] using h
    have t3 : DataW.trod enc Tryd.prog W 0 (fun _ => true) true q 22 [v3] = some y3 := by
      have h := hfield 3 _ rfl
      simpa [show Tryd.prog.cellsOf 22 = 1 by kernel_rfl] using h
    have t4 : DataW.trod enc Tryd.prog W 0 (fun _ => true) true q 39 [v4] = some y4 := by
      have h := hfield 4 _ rfl
      simpa [show Tryd.prog.cellsOf 39 = 1 by kernel_rfl] using h
    have t5 : DataW.trod enc Tryd.prog W 0 (fun _ => true) true q 40 [v5] = some y5 := by
      have h := hfield 5 _ rfl
      simpa [show Tryd.prog.cellsOf 40 = 1 by kernel_rfl] using h
    have t6 : DataW.trod enc Tryd.prog W 0 (fun _ => true) true q 43 [v6, v7, v8] = some y6 := by
      have h := hfield 6 _ rfl
      simpa [cellsSpec] using h
    obtain ⟨z0, e0, _, _⟩ := DataW.trod_int Tryd.underlying3 t0
    obtain ⟨z1, e1, _, _⟩ := DataW.trod_int Tryd.underlying3 t1
    obtain ⟨z2, e2, _, _⟩ := DataW.trod_int Tryd.underlying3 t2
    obtain ⟨A1, n1, c1, l1, rfl, a1, a2, a3⟩ := openCode t3
    obtain ⟨A2, n2, c2, l2, rfl, b1, b2, b3⟩ := openBc Tryd.underlying39 Tryd.underlying5 cells1b t4
    obtain ⟨A3, n3, c3, l3, rfl, g1, g2, g3⟩ := openSc t5
    obtain ⟨m, A4, n4, c4, l4, b, e6, h1, h2, h3⟩ := trod_spec t6
    simp only [List.cons.injEq, and_true] at e0 e1 e2 e6
    obtain ⟨rfl, rfl, rfl⟩ := e6
    subst e0 e1 e2
    refine ⟨⟨A1, n1, c1, A2, n2, c2, A3, n3, c3, A4, n4, c4⟩, ⟨z0, z1, z2, l1, l2, l3, ⟨m, l4, b⟩⟩, rfl, ⟨a1, b1, g1, h1⟩, y0.1, y1.1, y2.1, y3.1, y4.1, y5.1, y6.1, ?_, a3, ?_, ?_, ?_⟩
    · have := congrArg Prod.fst hag
      exact this
    · show HasLen _ l2.length
      rw [b1.len]; exact b3
    · show HasLen _ l3.length
      have := g1.len
      rw [List.length_map] at this
      rw [this]; exact g3
    · show HasSnd _ l4.length
      rw [h1.len]; exact h3
set_option maxRecDepth 100000 in
theorem openActs {b0 : Nat} {r : Reach} {v : Value} {d : DataW H} {p : List MemPlace} (hok : Value.okWide Tryd.prog W r b0 35 v) (h : DataW.Trod enc Tryd.prog W 0 (fun _ => true) true 35 v d p) :
    ∃ (A : Option Addr) (n c : Nat) (qs : List Ac) (es : List Apd), v = .slice A n c ∧ qs.length = n ∧ es.length = n ∧ RR W W.heap.size 9 A n ((List.range n).map fun k => (acs (eat es k) (aat qs k)).toList) ∧ (∀ k, k < n → AR0 W W.heap.size (eat es k) (aat qs k)) ∧ HasActs d qs := by
  obtain ⟨A, n, c, rfl⟩ := okWide_slice Tryd.underlying35 hok
  obtain ⟨fuel, hf⟩ := h
  have hf' : DataW.trod enc Tryd.prog W 0 (fun _ => true) true fuel 35 [.slice A n c] = some (d, p) := hf
  obtain ⟨A', n', c', css, e, hr, hc, hd⟩ := open_rows (size := 9) Tryd.underlying35 cellsAct (by decide) hf'
  injection e with e1 e2 e3
  subst e1 e2 e3
  have hcl := hr.len
  rcases hd with ⟨hd, h0⟩ | ⟨es, sp, hd, hel, hi⟩
  · subst h0
    have : css = [] := List.eq_nil_of_length_eq_zero hcl
    subst this
    exact ⟨A, 0, c, [], [], rfl, rfl, rfl, hr, fun k hk => absurd hk (Nat.not_lt_zero _), .inl ⟨hd, rfl⟩⟩
  · have key : ∀ i, i < n → ∃ x : Apd × Ac, css[i]? = some (acs x.1 x.2).toList ∧ AR0 W W.heap.size x.1 x.2 ∧ ∃ di, es[i]? = some di ∧ HasAct di x.2 := by
      intro i hin
      have hci := List.getElem?_eq_getElem (l := css) (i := i) (by omega)
      obtain ⟨q, y2, ht, he⟩ := hi i _ hci
      obtain ⟨e, a, hcs, h1, h2⟩ := trod_act ht
      exact ⟨⟨e, a⟩, by rw [hci, hcs], h1, _, he, h2⟩
    have : Inhabited (Apd × Ac) := ⟨⟨apd0, act0⟩⟩
    obtain ⟨f, hfn⟩ := Go.Deep.choose_lt key
    have ha : ∀ i, i < n → aat ((List.range n).map fun i => (f i).2) i = (f i).2 := fun i hin => by simp [aat, hin]
    have he : ∀ i, i < n → eat ((List.range n).map fun i => (f i).1) i = (f i).1 := fun i hin => by simp [eat, hin]
    have hcss : css = (List.range n).map fun k => (acs (eat ((List.range n).map fun i => (f i).1) k) (aat ((List.range n).map fun i => (f i).2) k)).toList := by
      apply List.ext_getElem?
      intro i
      by_cases hin : i < n
      · rw [(hfn i hin).1, List.getElem?_map, List.getElem?_range hin, Option.map_some, ha i hin, he i hin]
      · rw [List.getElem?_eq_none (by omega), List.getElem?_eq_none (by simp; omega)]
    refine ⟨A, n, c, (List.range n).map fun i => (f i).2, (List.range n).map fun i => (f i).1, rfl, by simp, by simp, ?_, fun k hk => ?_, .inr ⟨es, sp, hd, by simp [hel], fun i hin => ?_⟩⟩
    · rw [← hcss]; exact hr
    · rw [ha k hk, he k hk]
      exact (hfn k hk).2.1
    · have hin' : i < n := by simpa using hin
      obtain ⟨_, _, di, h4, h5⟩ := hfn i hin'
      exact ⟨di, h4, by rw [ha i hin']; exact h5⟩
end
namespace bulks
theorem act_le {H : Type} {d : DataW H} {a : Ac} (h : HasAct d a) : a.code.length + a.text.length + a.stops.length + a.spec.rts.length ≤ Rows.uptoBulk d := by
  obtain ⟨d0, d1, d2, d3, d4, d5, d6, rfl, h3, h4, h5, e0, e1, e2, rfl, h6⟩ := h
  have h3 := slice_le h3
  have h4 := slice_le h4
  have h5 := slice_le h5
  have h6 := slice_le h6
  simp only [Rows.uptoBulk, Rows.uptoBulkAll]
  omega
set_option maxRecDepth 100000 in
theorem acts_sum {H : Type} : ∀ (es : List (DataW H)) (qs : List Ac), es.length = qs.length → (∀ i, i < qs.length → ∃ di, es[i]? = some di ∧ HasAct di (aat qs i)) → codeSum qs ≤ Rows.uptoBulkAll es
  | [], [], _, _ => Nat.le_refl _
  | e :: es, a :: qs, hl, h => by
    have h1 := acts_sum es qs (by simpa using hl) (fun i hi => by
      obtain ⟨di, h2, h3⟩ := h (i + 1) (by simpa using hi)
      exact ⟨di, by simpa using h2, by simpa [aat] using h3⟩)
    obtain ⟨d0, h2, h3⟩ := h 0 (by simp)
    have h4 : e = d0 := by simpa using h2
    subst h4
    have h5 := act_le h3
    have h6 : aat (a :: qs) 0 = a := rfl
    rw [h6] at h5
    rw [Rows.uptoBulkAll]
    have h7 : codeSum (a :: qs) = a.code.length + codeSum qs := by simp [codeSum]
    omega
theorem acts_le {H : Type} {ds : List (DataW H)} {d : DataW H} {qs : List Ac} (hk : Rows.uptoBulkAll ds ≤ 1048576) (hm : d ∈ ds) (h : HasActs d qs) : qs.length ≤ 1048576 ∧ codeSum qs ≤ 1048576 ∧ ∀ i, i < qs.length → (aat qs i).code.length + (aat qs i).text.length + (aat qs i).stops.length + (aat qs i).spec.rts.length ≤ 1048576 := by
  have h1 := mem_le hm
  rcases h with ⟨rfl, rfl⟩ | ⟨es, sp, rfl, hl, hi⟩
  · exact ⟨by simp, by simp [codeSum], fun i hi => absurd hi (Nat.not_lt_zero _)⟩
  · rw [Rows.uptoBulk] at h1
    have h2 := acts_sum es qs hl hi
    have h3 := count_le es
    refine ⟨by omega, by omega, fun i hin => ?_⟩
    obtain ⟨di, h4, h5⟩ := hi i hin
    have h6 := act_le h5
    have h7 := mem_le (List.mem_of_getElem? h4)
    omega
end bulks
end Go.Proofs.YtkmcjjoicpgjfaaDoor
namespace Go.Proofs.YtkmcjjoicpgjfaaDoor.codeBuilders
open Go Go.Sh Go.ChangeShapes Go.WideShapes Go.ChangeAt Go.RowKit
open Go.ChangeMaps (open_string shut_string)

set_option maxRecDepth 100000 in
theorem own : ownKnob Tryd.prog.godebug = none := by kernel_rfl
set_option maxRecDepth 100000 in
theorem laidOut : laidOutB Tryd.prog = true := by kernel_rfl
set_option maxRecDepth 100000 in
theorem gTab : Tryd.prog.globalNamed "internal/strconv.uint64pow10" = some 0 := by kernel_rfl
set_option maxRecDepth 100000 in
theorem gTabType : (Tryd.prog.globals[0]?).map (·.type) = some 141 := by kernel_rfl
set_option maxRecDepth 100000 in
theorem cellsTab : Tryd.prog.cellsOf 141 = 20 := by kernel_rfl
set_option maxRecDepth 100000 in
theorem cellsU64 : Tryd.prog.cellsOf 113 = 1 := by kernel_rfl
/-- what the row's list gives: the table of powers of ten -/
theorem table {W : World} (h : laidMetH Tryd.prog Rows.codeBuildersUptoRow.laid W) : TabOK W.heap.size W :=
  Lib.tabBelow_of_tabIs (Lib.tabIs_of_head (rest := []) gTab gTabType Tryd.underlying141 Tryd.underlying113 cellsU64 cellsTab (laidMet.tail (laidMet.tail h)))
set_option maxRecDepth 100000 in
/-- what the walk gives, for every argument and every world that holds the tables -/
theorem contract (H : Type) (enc : TypeId × Value → H) (W : World) (base : Nat) (args : Array Value) (ds gs : List (DataW H)) (before : List MemPlace)
    (hval0 : ∀ (j : Nat) t v, Tryd.f4.params[j]? = some t → args[j]? = some v → Value.okWide Tryd.prog W .any base t v)
    (hW : DataW.Whole enc Tryd.prog Tryd.f4.params.toList Rows.codeBuildersSpec.vars false W args.toList ds gs before)
    (hk0 : Rows.uptoSmall H (ds ++ gs) = true) (hL : laidMetH Tryd.prog Rows.codeBuildersUptoRow.laid W) :
    Calls Tryd.prog 4 args W fun e W' => ∃ v, e = .returned v ∧ Rows.codeBuildersSpec.post enc Tryd.prog Tryd.f4 false true false false W args v W' := by
  have hval : ∀ (j : Nat) t v, Tryd.f4.params[j]? = some t → args[j]? = some v → Value.okWide Tryd.prog W .any base t v := hval0
  have hW' := hW
  obtain ⟨p, q, hA0, hV, rfl, hfz, hnd⟩ := hW
  have hA : DataW.TrodAll enc Tryd.prog W 0 (fun _ => true) true Tryd.f4.params.toList args.toList ds p := hA0
  rw [Tryd.params4] at hA hval
  obtain ⟨v0, vs0, d0, ds0, p0, q0, hargs, rfl, rfl, h0, r0⟩ := trodAll_cons hA
  obtain ⟨rfl, rfl, rfl⟩ := trodAll_nil r0
  obtain rfl : args = #[v0] := by cases args; simp_all
  obtain ⟨rfl, rfl⟩ := trodVars_none hV
  have hk : Rows.uptoBulkAll [d0] ≤ 1048576 := by simpa using bulks.bound hk0
  have k0 := h0
  have lt0 : ∀ x ∈ p0, x.block < W.heap.size := by obtain ⟨m, hm⟩ := k0; exact DataW.trod_lt m _ _ _ hm
  obtain ⟨A0, n0, c0, qs, es, rfl, lq, le, rr, ar, hh⟩ := openActs (hval 0 35 v0 rfl rfl) h0
  obtain ⟨bn, bs, bi⟩ := bulks.acts_le hk (by simp) hh
  have ra : RAc W W.heap.size A0 n0 qs es := ⟨lq, le, rr, fun k hk => by
    have h1 := bi k (by omega)
    exact (ar k hk).ar (by omega) (by omega) (by omega) (by omega)⟩
  clear hA0 hval0
  refine (CodeBuilders_walk A0 n0 c0 qs es W ra (by omega) bs (table hL)).mono fun e W' ⟨he, bel⟩ => ?_
  subst he
  exact ⟨_, rfl, _, _, _, [], _, [], hW', trodAll_mk1 (shut_bool Tryd.underlying4 _), (trodAll_cons_mk (Below.trod laidOut (by kernel_rfl) (of_decide_eq_true (by kernel_rfl)) k0 bel lt0) trodAll_mk0), rfl, bel.frame _, fun h => by cases h⟩
set_option maxRecDepth 100000 in
/-- a world for the witness: the tables as the program's own text lays them -/
theorem laid_met (os : Os) : laidMet Tryd.prog Rows.codeBuildersUptoRow.laid ((World.doorLaid Tryd.prog 24 os).forCall (fun _ _ => 0) ⟨#[], #[.slice none 0 0], []⟩).memory :=
  laidMet_of_run' 8 (by kernel_rfl) (by kernel_rfl)
set_option maxRecDepth 100000 in
theorem reads (os : Os) {H : Type} (enc : TypeId × Value → H) : ∃ places, DataW.whole enc Tryd.prog ((World.doorLaid Tryd.prog 24 os).forCall (fun _ _ => 0) ⟨#[], #[.slice none 0 0], []⟩).memory Tryd.f4.params.toList Rows.codeBuildersSpec.vars false #[Value.slice none 0 0].toList 8 = some ([.nil], [], places) :=
  ⟨[], by kernel_rfl⟩
set_option maxRecDepth 100000 in
theorem lifted (os : Os) (started : os.Started) (H : Type) (enc : TypeId × Value → H) (F : Stop.Interp) :
    ReturnsInHanded {} Tryd.checked os 4 .any ((Rows.OpenSpec.upto Rows.codeBuildersSpec).preRow enc Tryd.prog Tryd.f4 Rows.codeBuildersUptoRow.domain false Rows.codeBuildersUptoRow.laid) (((Rows.OpenSpec.upto Rows.codeBuildersSpec).at F).post enc Tryd.prog Tryd.f4 false true false false) := by
  obtain ⟨places, hx⟩ := reads os enc
  refine returnsInHanded_of_row (C := Tryd.checked) (s := Rows.OpenSpec.upto Rows.codeBuildersSpec) own started (by kernel_rfl) Tryd.func4
    (witness_row_at (enc := enc) (C := Tryd.checked) false (World.doorLaid Tryd.prog 24 os) #[.slice none 0 0] rfl (by kernel_rfl) (by kernel_rfl) (by kernel_rfl)
      (OpenSpec.preRow_of_cond 8 hx (by kernel_rfl) (fun k hk => by cases hk; kernel_rfl) (by kernel_rfl) (laid_met os))) ?_
  intro W base args ds gs before hval hW _ hcond _ hL _ _
  exact contract H enc W base args ds gs before hval hW (hcond _ rfl) hL
set_option maxRecDepth 100000 in
theorem said : Rows.CodeBuildersUptoSaid :=
  OpenClaim.holds_of_cond 4 Tryd.f4 rfl rfl rfl rfl rfl rfl rfl ⟨rfl, rfl, rfl, rfl, rfl⟩ rfl rfl rfl rfl rfl (by kernel_rfl) Tryd.func4 (by kernel_rfl)
    (of_decide_eq_true (by kernel_rfl)) (by unfold Func.isWrapper; first | (rw [if_pos (by decide +kernel)]; kernel_rfl) | (rw [if_neg (by decide +kernel)]; exact ⟨rfl, rfl⟩))
    (fun os started H enc _ F => by rw [OpenClaim.pre_eq_preRow]; exact lifted os started H enc F)
set_option maxRecDepth 100000 in
/-- no parameter wants a stand-in; the program's own looks are off -/
theorem plain (f : FuncId) (fn : Func) (hf : Tryd.pinned.checked.prog.funcNamed "shallot/shallotlaw18.CodeBuilders" = some f) (hfn : Tryd.pinned.checked.prog.funcs[f]? = some fn) :
    false = Tryd.pinned.checked.prog.looks [] ∧ ∀ (j : Nat) t, fn.params[j]? = some t → Tryd.pinned.checked.prog.wantsStandIn t = false := by
  obtain rfl : f = 4 := Option.some.inj ((show Tryd.prog.funcNamed "shallot/shallotlaw18.CodeBuilders" = some 4 by kernel_rfl).symm.trans hf) |>.symm
  obtain rfl : fn = Tryd.f4 := (Option.some.inj (Tryd.func4.symm.trans hfn)).symm
  refine ⟨by kernel_rfl, fun j t ht => ?_⟩
  rw [Tryd.params4] at ht
  obtain rfl : t = 35 := by simpa using Array.mem_of_getElem? ht
  exact (show Tryd.prog.wantsStandIn 35 = false by kernel_rfl)
set_option maxRecDepth 100000 in
theorem proved : Rows.CodeBuildersUptoCardSaid :=
  Claim7.holds_tied_plain_at .later [] _ _ _ _ said (fun _ h => by cases h) (by kernel_rfl) (fun _ h => by cases h) codeBuildersUpto_row_tie rfl ⟨rfl, rfl⟩ (by kernel_rfl) rfl plain (by kernel_rfl)
#print axioms proved
end Go.Proofs.YtkmcjjoicpgjfaaDoor.codeBuilders
