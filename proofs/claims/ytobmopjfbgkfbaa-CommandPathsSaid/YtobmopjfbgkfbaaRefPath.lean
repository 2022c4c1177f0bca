/-
  Contract of shallotref10.Path: the commands of a route, in new memory, or the error's number. Conditions: the fields fit their types; the sizes that slices can have.
-/
import Derived.Test.YtobmopjfbgkfbaaPath
import Derived.Test.YtobmopjfbgkfbaaCmdRef
import Derived.Deep.RegionHeld3
namespace Go.Proofs.Ytobmopjfbgkfbaa
open Go Go.RowKit Go.Sh

set_option maxRecDepth 100000 in
theorem yieldsIf_lit {P : Program} {ops : Array Oper} {S : World → Prop} {o : Oper} {a : Act} (hw : Region.wanted o (yielded ops a.tmps) = true) (t : TypeId) (parts : List (Nat × Operand)) (ho : o.op = .build t parts.toArray)
    (vals : List (Nat × Value)) (hv : (parts.map fun (i, x) => (i, a.eval x)) = vals) (cells : Array Value) (hc : P.built t vals = some cells) : YieldsIf P ops S o (.agg cells) a := by
  subst hv
  have hc' : P.built t (parts.toArray.map fun (i, x) => (i, a.eval x)).toList = some cells := by simpa using hc
  refine .inl ⟨hw, fun w _ => ?_⟩
  unfold execOp
  simp only [ho, Sem.run_bind, run_build w t _ cells hc', Result.andThen_ok, Sem.run_pure]
set_option maxRecDepth 100000 in
theorem rel3_built (fl dl : Int) : Try.prog.built 68 [(0, .int .u8 1), (1, .int .u8 fl), (2, .int .u32 dl)] = some (⟨1, fl, dl, 0, noMark⟩ : Cmd).cells.toArray := by kernel_rfl
theorem shaped_last {c : Cmd} (h : 2 ≤ c.k) : shapedB c = (!(c.x != 0) && (!(c.k != 4) || decide (c.m = noMark))) := by
  have e1 : (c.k == 1) = false := by simp; omega
  unfold shapedB
  rw [e1]
  cases h1 : (c.x != 0) <;> cases h2 : (c.k == 4) <;> simp_all

set_option maxHeartbeats 4000000 in
set_option maxRecDepth 100000 in
theorem RefPath_any (c : Cmd) (A : Option Addr) (n cc : Nat) (hs : List Hp) (w : World) (B : Nat) (hc : c.OK) (hr : RR w B 68 A n (hs.map Hp.cells)) (hok : ∀ h ∈ hs, h.OK) (hB : B ≤ w.heap.size) (hn : n ≤ 140737488355328) :
    Calls Try.prog 35 #[.agg c.cells.toArray, .slice A n cc] w (RetCs w (pthL c hs) (pthE c hs)) := by
  have HR := Lib.hid hr
  have HOK := Lib.hid hok
  have HL := Lib.hid (show hs.length = n by rw [← hr.len, List.length_map])
  have HC := Lib.hid hc
  have HMR := Lib.hid (fun W => marked_any c W hc)
  have HN := Lib.hid (cmd_new_blk w c)
  have h0 := HN.out.at_.k
  have h3 := HN.out.at_.x
  have hi : (Try.prog.info? 68).map (·.size) = some c.cells.length := by rw [hc.size]; kernel_rfl
  have HI := Lib.hid hi
  have HPE := Lib.hid (show pthE c hs = if c.k < 2 ∨ 4 < c.k then 1 else if anyBad hs = true then 1 else if hs.length < 1 ∨ 5 < hs.length then 2 else if shapedB c = false then 3 else if noId hs = true then 3 else 0 from rfl)
  have HLL := Lib.hid (show pthL c hs = if pthE c hs = 0 then (List.range hs.length).map (pcmd c hs) else [] from rfl)
  have HAL := Lib.hid ((Below.refl w.heap.size w).alloc (Nat.le_refl _) (.cells c.cells.toArray 68))
  have HRX := Lib.hid (blk_range HN.out)
  have hkb := hc.k
  have HSH := Lib.hid (fun h : 2 ≤ c.k => shaped_last h)
  clear hr hok hi hc
  generalize pthL c hs = pl at *
  generalize pthE c hs = pe at *
  obtain ⟨cs, hcs⟩ : ∃ cs, c.cells.toArray = cs := ⟨_, rfl⟩
  have HCS := Lib.hid hcs
  unfold Cmd.v at HMR
  unfold CmdBlk at HN
  rw [hcs] at HRX HAL HN HMR h0 h3 ⊢
  clear hcs
  obtain ⟨ck, hck⟩ : ∃ x, c.k = x := ⟨_, rfl⟩
  have HCK := Lib.hid hck
  rw [hck] at h0 HPE HSH hkb
  clear hck
  have hbad : ∀ er : Int, er ≠ 0 → pe = er → ∀ w', Below w.heap.size w w' → RetCs w pl pe (.returned (.tuple #[.slice none 0 0, .int .i64 er])) w' := by
    intro er h1 h2 w' hb
    subst h2
    rw [HLL.out, if_neg h1]
    exact ⟨none, 0, 0, rfl, rfl, World.ownsRow_nil _ _ _ _, hb⟩
  have HBADR := Lib.hid hbad
  clear hbad
  by_cases h1 : ck < 2
  · have e := HPE.out
    rw [if_pos (.inl h1)] at e
    have E := Lib.hid e
    clear e
    go_enter Try.func35, Try.ntmps35
    go_wp2_with fail
    go_ret2
    exact HBADR.out 1 (by decide) E.out _ HAL.out
  by_cases h4 : 4 < ck
  · have e := HPE.out
    rw [if_pos (.inr h4)] at e
    have E := Lib.hid e
    clear e
    go_enter Try.func35, Try.ntmps35
    go_wp2_with fail
    go_ret2
    exact HBADR.out 1 (by decide) E.out _ HAL.out
  rw [if_neg (by omega)] at HPE
  go_enter Try.func35, Try.ntmps35
  go_wp2_with fail
  obtain ⟨w1, hw1⟩ : ∃ w1, w.alloc (.cells cs 68) = w1 := ⟨_, rfl⟩
  rw [hw1] at HAL HRX HN h0 h3 ⊢
  have hbl : w.heap.size < w1.heap.size := by rw [← hw1]; simp
  have HR1 := Lib.hid (HR.out.below (HAL.out.mono hB))
  clear hw1
  go_loopw [6] (fun i wr => ∃ q : Nat, q ≤ n ∧ i = .int .i64 (q : Int) ∧ wr = w1 ∧ ∀ j, j < q → badHop (hat hs j) = false) (fun i _ => n - (intOf i).toNat)
  case atStart => exact ⟨0, by omega, rfl, rfl, fun j hj => absurd hj (by omega)⟩
  case round =>
    obtain ⟨q, hq, rfl, rfl, hall⟩ := hrel
    have HALL := Lib.hid hall
    clear hall
    by_cases hlt : q < n
    · obtain ⟨b, off, rfl, hbB, _, q66, q67⟩ := hop_at HR1.out HOK.out hlt
      have HBD := Lib.hid (show badHop (hat hs q) = true → pe = 1 from fun hb => by
        have : anyBad hs = true := by
          cases e : anyBad hs with
          | true => rfl
          | false => rw [anyBad_false.1 e q (by rw [HL.out]; exact hlt)] at hb; cases hb
        rw [HPE.out, if_pos this])
      have HBE := Lib.hid (show badHop (hat hs q) = (decide ((hat hs q).dl < 0) || decide (1000000 < (hat hs q).dl) || decide ((hat hs q).fl < 0) || decide (255 < (hat hs q).fl)) from rfl)
      have hok := HOK.out _ (hat_mem (hs := hs) (k := q) (by rw [HL.out]; exact hlt))
      have b1 := hok.dl
      have b2 := hok.fl
      clear hok
      generalize (hat hs q).dl = dl at *
      generalize (hat hs q).fl = fl at *
      by_cases d1 : dl < 0
      · have E := Lib.hid (HBD.out (by rw [HBE.out]; simp [d1]))
        go_wp2_with fail
        go_ret2
        exact HBADR.out 1 (by decide) E.out _ HAL.out
      · by_cases d2 : 1000000 < dl
        · have E := Lib.hid (HBD.out (by rw [HBE.out]; simp [d2]))
          go_wp2_with fail
          go_ret2
          exact HBADR.out 1 (by decide) E.out _ HAL.out
        · by_cases d3 : fl < 0
          · have E := Lib.hid (HBD.out (by rw [HBE.out]; simp [d3]))
            go_wp2_with fail
            go_ret2
            exact HBADR.out 1 (by decide) E.out _ HAL.out
          · by_cases d4 : 255 < fl
            · have E := Lib.hid (HBD.out (by rw [HBE.out]; simp [d4]))
              go_wp2_with fail
              go_ret2
              exact HBADR.out 1 (by decide) E.out _ HAL.out
            · have HG := Lib.hid (show badHop (hat hs q) = false by rw [HBE.out]; simp [d1, d2, d3, d4])
              go_wp2_with fail
              refine ⟨⟨q + 1, by omega, by go_num, by first | rfl | trivial, fun j hj => ?_⟩, by simp [intOf]; omega⟩
              by_cases hjq : j < q
              · exact HALL.out j hjq
              · obtain rfl : j = q := by omega
                exact HG.out
    · obtain rfl : q = n := by omega
      have HBAD := Lib.hid (show ∀ j, j < hs.length → badHop (hat hs j) = false from fun j hj => HALL.out j (by rw [← HL.out]; exact hj))
      rw [anyBad_false.2 HBAD.out, if_neg (by decide), HL.out] at HPE
      clear hlt HALL
      by_cases l1 : q < 1
      · obtain rfl : q = 0 := by omega
        have e := HPE.out
        rw [if_pos (.inl l1)] at e
        have E := Lib.hid e
        clear e
        go_wp2_with fail
        go_ret2
        exact HBADR.out 2 (by decide) E.out _ HAL.out
      by_cases l5 : 5 < q
      · have e := HPE.out
        rw [if_pos (.inr l5)] at e
        have E := Lib.hid e
        clear e
        have dq0 : ((q : Int) == 0) = false := by simp; omega
        go_wp2_with fail
        go_ret2
        exact HBADR.out 2 (by decide) E.out _ HAL.out
      rw [if_neg (by omega)] at HPE
      have dq0 : ((q : Int) == 0) = false := by simp; omega
      have hsh := HSH.out (by omega)
      have HSB := Lib.hid hsh
      clear hsh HSH
      by_cases hx : c.x = 0
      · have dx : (c.x != 0) = false := by simp [hx]
        by_cases hk4 : ck = 4
        · have dk : (ck != 4) = false := by simp [hk4]
          have hsb : shapedB c = true := by rw [HSB.out, dx, dk]; rfl
          rw [hsb, if_neg (by decide)] at HPE
          have HB9 := HAL
          have HN9 := Lib.hid HN
          have HR9 := HR1
          have hz9 := hbl
          go_wp2_with fail
          clear hx hk4 hsb HSB HMR HAL HN HR1 hbl h0 h3 HRX
          have HPL := Lib.hid (show pe = 0 → pl = (List.range q).map (pcmd c hs) from fun h => by rw [HLL.out, if_pos h, HL.out])
          have HCOK := Lib.hid (show ∀ d ∈ (List.range q).map (pcmd c hs), d.OK from fun d hd => by
            obtain ⟨i, hi, rfl⟩ := List.mem_map.1 hd
            exact pcmd_ok HC.out HOK.out HBAD.out (by rw [HL.out]; exact List.mem_range.1 hi))
          have HLEN := Lib.hid (show ((List.range q).map (pcmd c hs)).length = q by simp)
          have HCI := Lib.hid (show ∀ i, i < q → ((List.range q).map (pcmd c hs))[i]? = some (pcmd c hs i) from fun i hi => by simp [hi])
          generalize (List.range q).map (pcmd c hs) = cl at *
          have hzero := zeroCmd
          obtain ⟨zc, hzc⟩ : ∃ zc, zeroC.cells.toArray = zc := ⟨_, rfl⟩
          have hzs : zc.size = 20 := by rw [← hzc]; exact cmd_size zeroC_ok
          have hze : ¬ zc = #[] := by intro h; rw [h] at hzs; cases hzs
          have HZC := Lib.hid hzc
          rw [hzc] at hzero
          clear hzc
          generalize hb0 : w.heap.size = b0 at *
          have HGB := Lib.hid hb0
          clear hb0
          go_loopw [7, 8] (fun v i wy => ∃ (k : Nat) (Ak : Option Addr) (cx : Nat), k ≤ q ∧ i = .int .i64 (k : Int) ∧ v = .slice Ak k cx ∧ wy.ownsRow (b0 + 1) 68 20 (.slice Ak k cx) k (cmdsV (cl.take k)) ∧ wy.heap[b0]? = some (.cells cs 68 (0, 0)) ∧ Below b0 w wy ∧ ∀ j, j < k → j + 1 < q → (hat hs (j + 1)).id ≠ 0) (fun _ i _ => q - (intOf i).toNat)
          case atStart => exact ⟨0, none, 0, by omega, rfl, rfl, World.ownsRow_nil _ _ _ _, HN9.out, HB9.out, fun j hj => absurd hj (by omega)⟩
          case round =>
            obtain ⟨k, Ak, cx, hk, rfl, rfl, ho, hbox, hb, hids⟩ := hrel
            have HO := Lib.hid ho
            have HX := Lib.hid hbox
            have HB := Lib.hid hb
            have HIDS := Lib.hid hids
            have hyz := (Array.getElem?_eq_some_iff.1 hbox).1
            clear ho hbox hb hids HN9 HB9
            by_cases hlt : k < q
            · have hki : (k : Int) < (q : Int) := by omega
              obtain ⟨b, off, rfl, hbB, _, q66, q67⟩ := hop_at (HR.out.below (HB.out.mono hB)) HOK.out hlt
              obtain ⟨⟨d1, d2⟩, e1, e2⟩ := badHop_false.1 (HBAD.out k (by rw [HL.out]; exact hlt))
              have HPCM := Lib.hid (show pcmd c hs k = if k + 1 < q then ⟨1, (hat hs k).fl, (hat hs k).dl, (hat hs (k + 1)).id, noMark⟩ else ⟨c.k, (hat hs k).fl, (hat hs k).dl, 0, c.m⟩ by rw [pcmd, HL.out])
              generalize (hat hs k).dl = dl at *
              generalize (hat hs k).fl = fl at *
              have hrel : (⟨1, fl, dl, 0, noMark⟩ : Cmd).OK := ⟨⟨by show (0 : Int) ≤ 1; decide, by show (1 : Int) < 256; decide⟩, by show 0 ≤ fl ∧ fl < 256; omega, by show 0 ≤ dl ∧ dl < 4294967296; omega, ⟨by show (0 : Int) ≤ 0; decide, by show (0 : Int) < 18446744073709551616; decide⟩, rfl, by unfold noMark; simp⟩
              have hst : (storeCells ⟨wr.heap.size, 0, none⟩ (⟨1, fl, dl, 0, noMark⟩ : Cmd).cells.toArray.toList).run Try.prog (wr.alloc (.cells zc 68)).drew = .ok () (wr.alloc (.cells (⟨1, fl, dl, 0, noMark⟩ : Cmd).cells.toArray 68)).drew := by
                rw [← HZC.out]
                exact cmd_store_new hrel zeroC_ok wr.drew
              have HBT3 := Lib.hid (rel3_built fl dl)
              have wu : IntKind.u32.wrap dl = dl := by rw [IntKind.wrap_u32]; omega
              have wb : IntKind.u8.wrap fl = fl := by rw [IntKind.wrap_u8]; omega
              have hrs : (⟨1, fl, dl, 0, noMark⟩ : Cmd).cells.toArray.size = 20 := cmd_size hrel
              obtain ⟨rc, hrc⟩ : ∃ rc, (⟨1, fl, dl, 0, noMark⟩ : Cmd).cells.toArray = rc := ⟨_, rfl⟩
              have HRC := Lib.hid hrc
              rw [hrc] at hst HBT3 hrs
              clear hrc hrel
              have hbw : b < wr.heap.size := by omega
              have HNB := Lib.hid (show (Value.slice Ak k cx).ownBlock ≠ some b0 from fun e => by
                have := (HO.out.lt b0 e).1
                omega)
              go_wp2_with fail
              refine wp_region_held_drew (S := (fun w' => w'.cell? ⟨b, off + k * 68 + 66, none⟩ = some (.int .i64 dl) ∧ w'.cell? ⟨b, off + k * 68 + 67, none⟩ = some (.int .i64 fl))) (by kernel_rfl) ?_ (fun hHeld => ?_)
              · (try dsimp only)
                exact ⟨q66, q67⟩
              refine wpAnyH_take (i := 0) (v := ?v1) rfl (by kernel_rfl) (by kernel_rfl) (by kernel_rfl) (fun _ _ _ h => h) (Or.inl ⟨by rfl, ?y1⟩) (by assumption) ?r1
              case y1 => (intro w hSw; (try dsimp only at hSw); first | (go_simp; done) | (go_simp; with_reducible rfl))
              (try simp only [List.getElem_toArray, List.getElem_cons_zero, Act.put, List.setIfInBounds_toArray, List.set_cons_zero, List.set_cons_succ])
              refine wpAnyH_take (i := 1) (v := ?v2) rfl (by kernel_rfl) (by kernel_rfl) (by kernel_rfl) (fun _ _ _ h => h) (Or.inl ⟨by rfl, ?y2⟩) (by assumption) ?r2
              case y2 => (intro w hSw; (try dsimp only at hSw); first | (go_simp; done) | (go_simp; with_reducible rfl))
              (try simp only [List.getElem_toArray, List.getElem_cons_zero, List.getElem_cons_succ, Act.put, List.setIfInBounds_toArray, List.set_cons_zero, List.set_cons_succ])
              refine wpAnyH_take (i := 2) (v := ?v3) rfl (by kernel_rfl) (by kernel_rfl) (by kernel_rfl) (fun _ _ _ h => h) (Or.inl ⟨by rfl, ?y3⟩) (by assumption) ?r3
              case y3 => (intro w hSw; (try dsimp only at hSw); first | (go_simp; done) | (go_simp; with_reducible rfl))
              (try simp only [List.getElem_toArray, List.getElem_cons_zero, List.getElem_cons_succ, Act.put, List.setIfInBounds_toArray, List.set_cons_zero, List.set_cons_succ])
              refine wpAnyH_take (i := 3) (v := ?v4) rfl (by kernel_rfl) (by kernel_rfl) (by kernel_rfl) (fun _ _ _ h => h) (Or.inl ⟨by rfl, ?y4⟩) (by assumption) ?r4
              case y4 => (intro w hSw; (try dsimp only at hSw); first | (go_simp; done) | (go_simp; with_reducible rfl))
              (try simp only [List.getElem_toArray, List.getElem_cons_zero, List.getElem_cons_succ, Act.put, List.setIfInBounds_toArray, List.set_cons_zero, List.set_cons_succ])
              refine wpAnyH_take (i := 4) (v := ?v5) rfl (by kernel_rfl) (by kernel_rfl) (by kernel_rfl) (fun _ _ _ h => h) (Or.inl ⟨by rfl, ?y5⟩) (by assumption) ?r5
              case y5 => (intro w hSw; (try dsimp only at hSw); first | (go_simp; done) | (go_simp; with_reducible rfl))
              (try simp only [List.getElem_toArray, List.getElem_cons_zero, List.getElem_cons_succ, Act.put, List.setIfInBounds_toArray, List.set_cons_zero, List.set_cons_succ])
              refine wpAnyH_take (i := 5) (v := ?v6) rfl (by kernel_rfl) (by kernel_rfl) (by kernel_rfl) (fun _ _ _ h => h) (Or.inl ⟨by rfl, ?y6⟩) (by assumption) ?r6
              case y6 => (intro w hSw; (try dsimp only at hSw); first | (go_simp; done) | (go_simp; with_reducible rfl))
              (try simp only [List.getElem_toArray, List.getElem_cons_zero, List.getElem_cons_succ, Act.put, List.setIfInBounds_toArray, List.set_cons_zero, List.set_cons_succ])
              refine wpAnyH_take (i := 6) (v := ?v7) rfl (by kernel_rfl) (by kernel_rfl) (by kernel_rfl) (fun _ _ _ h => h) (Or.inl ⟨by rfl, ?y7⟩) (by assumption) ?r7
              case y7 => (intro w hSw; (try dsimp only at hSw); first | (go_simp; done) | (go_simp; with_reducible rfl))
              (try simp only [List.getElem_toArray, List.getElem_cons_zero, List.getElem_cons_succ, Act.put, List.setIfInBounds_toArray, List.set_cons_zero, List.set_cons_succ])
              refine wpAnyH_take (i := 7) (v := ?v8) rfl (by kernel_rfl) (by kernel_rfl) (by kernel_rfl) (fun _ _ _ h => h) (Or.inl ⟨by rfl, ?y8⟩) (by assumption) ?r8
              case y8 => (intro w hSw; (try dsimp only at hSw); first | (go_simp; done) | (go_simp; with_reducible rfl))
              (try simp only [List.getElem_toArray, List.getElem_cons_zero, List.getElem_cons_succ, Act.put, List.setIfInBounds_toArray, List.set_cons_zero, List.set_cons_succ])
              refine wpAnyH_take (i := 8) (v := ?v9) rfl (by kernel_rfl) (by kernel_rfl) (by kernel_rfl) (fun _ _ _ h => h) (Or.inl ⟨by rfl, ?y9⟩) (by assumption) ?r9
              case y9 => (intro w hSw; (try dsimp only at hSw); first | (go_simp; done) | (go_simp; with_reducible rfl))
              (try simp only [List.getElem_toArray, List.getElem_cons_zero, List.getElem_cons_succ, Act.put, List.setIfInBounds_toArray, List.set_cons_zero, List.set_cons_succ])
              refine wpAnyH_take (i := 9) (v := ?v10) rfl (by kernel_rfl) (by kernel_rfl) (by kernel_rfl) (fun _ _ _ h => h) (Or.inl ⟨by rfl, ?y10⟩) (by assumption) ?r10
              case y10 => (intro w hSw; (try dsimp only at hSw); first | (go_simp; done) | (go_simp; with_reducible rfl))
              (try simp only [List.getElem_toArray, List.getElem_cons_zero, List.getElem_cons_succ, Act.put, List.setIfInBounds_toArray, List.set_cons_zero, List.set_cons_succ])
              refine wpAnyH_take (i := 10) (v := ?v11) rfl (by kernel_rfl) (by kernel_rfl) (by kernel_rfl) (fun _ _ _ h => h) (Or.inl ⟨by rfl, ?y11⟩) (by assumption) ?r11
              case y11 => (intro w hSw; (try dsimp only at hSw); first | (go_simp; done) | (go_simp; with_reducible rfl))
              (try simp only [List.getElem_toArray, List.getElem_cons_zero, List.getElem_cons_succ, Act.put, List.setIfInBounds_toArray, List.set_cons_zero, List.set_cons_succ])
              refine wpAnyH_take (i := 11) (v := ?v12) rfl (by kernel_rfl) (by kernel_rfl) (by kernel_rfl) (fun _ _ _ h => h) (Or.inl ⟨by rfl, ?y12⟩) (by assumption) ?r12
              case y12 => (intro w hSw; (try dsimp only at hSw); first | (go_simp; done) | (go_simp; with_reducible rfl))
              (try simp only [List.getElem_toArray, List.getElem_cons_zero, List.getElem_cons_succ, Act.put, List.setIfInBounds_toArray, List.set_cons_zero, List.set_cons_succ])
              refine wpAnyH_take (i := 12) rfl (by kernel_rfl) (by kernel_rfl) (by kernel_rfl) (fun _ _ _ h => h) (yieldsIf_lit (by rfl) 68 [(0, .const (.int .u8 1)), (1, .tmp 85), (2, .tmp 91)] rfl [(0, .int .u8 1), (1, .int .u8 fl), (2, .int .u32 dl)] rfl rc HBT3.out) (by assumption) ?_
              (try simp only [List.getElem_toArray, List.getElem_cons_zero, List.getElem_cons_succ, Act.put, List.setIfInBounds_toArray, List.set_cons_zero, List.set_cons_succ])
              refine wpAnyH_ready (rs := [13]) (by kernel_rfl) (by simp) ?_
              refine AllReadyH.cons rfl (fun K hK => ?_) AllReadyH.nil
              go_simp
              first | (refine hK.out _ _ ?_ (fun hHeld => ?_)) | (go_wp2_with fail; refine hK.out _ _ ?_ (fun hHeld => ?_))
              · (try dsimp only)
                exact ⟨((Below.refl _ _).alloc (Nat.le_refl _) _).cell (p := ⟨b, off + k * 68 + 66, none⟩) hbw |>.trans q66, ((Below.refl _ _).alloc (Nat.le_refl _) _).cell (p := ⟨b, off + k * 68 + 67, none⟩) hbw |>.trans q67⟩
              clear hK K
              (try simp only [List.getElem_toArray, List.getElem_cons_zero, List.getElem_cons_succ, Act.put, List.setIfInBounds_toArray, List.set_cons_zero, List.set_cons_succ])
              refine wpAnyH_ready (rs := [14]) (by kernel_rfl) (by simp) ?_
              refine AllReadyH.cons rfl (fun K hK => ?_) AllReadyH.nil
              go_simp
              first | (refine hK.out _ _ ?_ (fun hHeld => ?_)) | (go_wp2_with fail; refine hK.out _ _ ?_ (fun hHeld => ?_))
              · (try dsimp only)
                exact ⟨((Below.refl _ _).alloc (Nat.le_refl _) _).cell (p := ⟨b, off + k * 68 + 66, none⟩) hbw |>.trans q66, ((Below.refl _ _).alloc (Nat.le_refl _) _).cell (p := ⟨b, off + k * 68 + 67, none⟩) hbw |>.trans q67⟩
              clear hK K
              (try simp only [List.getElem_toArray, List.getElem_cons_zero, List.getElem_cons_succ, Act.put, List.setIfInBounds_toArray, List.set_cons_zero, List.set_cons_succ])
              refine wpAnyH_done (by kernel_rfl) ?_ _
              obtain ⟨w3, hw3⟩ : ∃ w3, (wr.alloc (.cells rc 68)).drew = w3 := ⟨_, rfl⟩
              have hb3 : Below wr.heap.size wr w3 := by rw [← hw3]; exact ((Below.refl _ _).alloc (Nat.le_refl _) _).drew
              have HC3 := Lib.hid (show w3.heap[wr.heap.size]? = some (.cells rc 68 (0, 0)) from by rw [← hw3]; exact heap_alloc_new wr _)
              have HO3 := Lib.hid (own_later HO.out hb3)
              have HX3 := Lib.hid ((hb3.block b0 hyz).trans HX.out)
              have HB3 := Lib.hid (HB.out.trans (hb3.mono (by omega)))
              have HNK := Lib.hid (show (Value.slice Ak k cx).ownBlock = none ∨ (Value.slice Ak k cx).ownBlock ≠ some wr.heap.size from .inr fun e => by have := (HO.out.lt _ e).2; omega)
              rw [hw3]
              clear hw3 hb3 hst HO HX HB q66 q67 hHeld
              generalize wr.heap.size = bk at *
              by_cases hmid : k + 1 < q
              · have HPC := Lib.hid (show pcmd c hs k = ⟨1, fl, dl, (hat hs (k + 1)).id, noMark⟩ by rw [HPCM.out, if_pos hmid])
                obtain ⟨_, _, hh, _, q1, _, _⟩ := hop_at (HR.out.below (HB3.out.mono hB)) HOK.out hmid
                simp only [Option.some.injEq, Addr.mk.injEq, and_true] at hh
                obtain ⟨rfl, rfl⟩ := hh
                have hidb := (HOK.out _ (hat_mem (hs := hs) (k := k + 1) (by rw [HL.out]; exact hmid))).id
                have HNI := Lib.hid (show (hat hs (k + 1)).id = 0 → pe = 3 from fun h => by
                  have hni : noId hs = true := by
                    cases e : noId hs with
                    | true => rfl
                    | false => exact absurd h (noId_false.1 e (k + 1) (by rw [HL.out]; exact hmid) (by omega))
                  rw [HPE.out, if_pos hni])
                have HIDK' := Lib.hid (show (hat hs (k + 1)).id = (hat hs (k + 1)).id from rfl)
                generalize hidg : (hat hs (k + 1)).id = idn at *
                have r3 : w3.cell? ⟨bk, 3, none⟩ = some (.int .u64 0) := by rw [blk_cell HC3.out, ← HRC.out]; rfl
                have f3 := frozen_of_row _ _ 3 _ _ HC3.out
                have hmi : (k : Int) ≠ (q : Int) - 1 := by omega
                have dmi : ((k : Int) == (q : Int) - 1) = false := by simp; omega
                have hmj : (k : Int) + 1 < (q : Int) := by omega
                by_cases hi0 : idn = 0
                · have E := Lib.hid (HNI.out hi0)
                  have hbf := HB3.out.setCell (p := ⟨bk, 3, none⟩) (by show b0 ≤ bk; omega) (.int .u64 idn)
                  have HBF := Lib.hid hbf
                  subst hi0
                  clear hbf
                  go_wp2_with fail
                  go_ret2
                  exact HBADR.out 3 (by decide) E.out _ HBF.out
                · have di : (idn == 0) = false := by simp [hi0]
                  have HIDK := Lib.hid (show k + 1 < q → (hat hs (k + 1)).id ≠ 0 from fun _ => by rw [hidg]; exact hi0)
                  have HWF := Lib.hid (show (w3.setCell ⟨bk, 3, none⟩ (.int .u64 idn)).heap[bk]? = some (.cells (pcmd c hs k).cells.toArray 68 (0, 0)) from by
                    rw [blk_set HC3.out, HPC.out, ← HRC.out]
                    rfl)
                  have HRG := Lib.hid (blk_range HWF.out)
                  have hgr := grown_setCell w3 bk 3 (.int .u64 idn)
                  have HOF := Lib.hid (HO3.out.kept hgr HNK.out)
                  have HXF := Lib.hid (show (w3.setCell ⟨bk, 3, none⟩ (.int .u64 idn)).heap[b0]? = some (.cells cs 68 (0, 0)) from by rw [hgr.block b0 (Array.getElem?_eq_some_iff.1 HX3.out).1 (by simp; omega)]; exact HX3.out)
                  have HBF := Lib.hid (HB3.out.setCell (p := ⟨bk, 3, none⟩) (by show b0 ≤ bk; omega) (.int .u64 idn))
                  clear hi0 hgr HWF hidg
                  go_upto_region 23 with fail
                  have HPOK := Lib.hid (HCOK.out _ (List.mem_of_getElem? (HCI.out k hlt)))
                  have HIP := Lib.hid (show (Try.prog.info? 68).map (·.size) = some (pcmd c hs k).cells.length by rw [HPOK.out.size]; kernel_rfl)
                  have HONE := Lib.hid (cmd_one (pcmd c hs k))
                  have hp20 := HPOK.out.size
                  have HTK := Lib.hid (show cmdsV (cl.take (k + 1)) = cmdsV (cl.take k) ++ (pcmd c hs k).cells by
                    rw [List.take_succ_eq_append_getElem (by rw [HLEN.out]; exact hlt), cmdsV_append]
                    have e := HCI.out k hlt
                    rw [List.getElem?_eq_getElem (by rw [HLEN.out]; exact hlt)] at e
                    rw [Option.some.inj e]
                    simp [cmdsV])
                  obtain ⟨W6, hW6⟩ : ∃ W6, w3.setCell ⟨bk, 3, none⟩ (.int .u64 idn) = W6 := ⟨_, rfl⟩
                  have HRG6 := Lib.hid (show W6.rangeAt bk 0 (pcmd c hs k).cells from by rw [← hW6]; exact HRG.out)
                  have HO6 := Lib.hid (show W6.ownsRow (b0 + 1) 68 20 (.slice Ak k cx) k (cmdsV (cl.take k)) from by rw [← hW6]; exact HOF.out)
                  have HX6 := Lib.hid (show W6.heap[b0]? = some (.cells cs 68 (0, 0)) from by rw [← hW6]; exact HXF.out)
                  have HB6 := Lib.hid (show Below b0 w W6 from by rw [← hW6]; exact HBF.out)
                  have hz6 : b0 < W6.heap.size := (Array.getElem?_eq_some_iff.1 HX6.out).1
                  obtain ⟨pa, hpa⟩ : ∃ pa, (pcmd c hs k).cells.toArray = pa := ⟨_, rfl⟩
                  have HPA := Lib.hid hpa
                  have hps : pa.size = 20 := by rw [← hpa, List.size_toArray, hp20]
                  have hal6 := (Below.refl W6.heap.size W6).alloc (Nat.le_refl _) (.cells pa 68)
                  have HO7 := Lib.hid (own_later HO6.out hal6)
                  have HX7 := Lib.hid ((hal6.block b0 hz6).trans HX6.out)
                  have HB7 := Lib.hid (HB6.out.trans (hal6.mono (by omega)))
                  have HRD := Lib.hid (show Reads (W6.alloc (.cells pa 68)) (W6.heap.size + 1) 20 (some ⟨W6.heap.size, 0, none⟩) 1 (pcmd c hs k).cells from by
                    have h1 := Reads.lit W6 68 (pcmd c hs k).cells 1 20 (by rw [hp20]) _ rfl
                    rw [hpa] at h1
                    exact h1)
                  have hz7 : b0 + 1 ≤ (W6.alloc (.cells pa 68)).heap.size := by simp; omega
                  have HON := Lib.hid (show ∀ u ∈ (pcmd c hs k).cells, u.oneCell' = true from fun u hu => HONE.out u (by simpa using hu))
                  clear hpa hp20 hal6 HRG HOF HXF HBF HO6 HX6 HB6 HONE
                  rw [hW6]
                  clear hW6
                  go_wp2_with (first | (refine wl_load_mid rfl 68 (.tmp 9) rfl bk 0 rfl (pcmd c hs k).cells _ HRG6.out Try.underlying68 rfl HIP.out ?_; rw [HPA.out]) | (refine wl_bs1 TC rfl (.tmp 116) rfl pa rfl hps (by decide) ?_) | (at_builtin; refine wl_app TC rfl (.tmp 115) (.tmp 117) rfl (.slice Ak k cx) rfl (some ⟨W6.heap.size, 0, none⟩) 1 1 rfl (b0 + 1) k _ HO7.out (W6.heap.size + 1) (pcmd c hs k).cells HRD.out HON.out (by omega) (by omega) hz7 ?q6))
                  case q6 =>
                    intro A8 c8 w8 hown hgr _
                    have HO8 := Lib.hid hown
                    have HX8 := Lib.hid (show w8.heap[b0]? = some (.cells cs 68 (0, 0)) from by
                      rw [hgr.block b0 (by simp; omega) (fun e => HNB.out e.symm)]
                      exact HX7.out)
                    have HB8 := Lib.hid (HB7.out.grown hgr (by omega) (fun x hx => by have := (HO7.out.lt x hx).1; omega))
                    clear hown hgr HO7 HX7 HB7
                    go_wp2_with fail
                    refine ⟨⟨k + 1, A8, c8, by omega, by go_num, rfl, ?_, HX8.out, HB8.out, fun j hj hj1 => ?_⟩, by simp [intOf]; omega⟩
                    · rw [HTK.out]
                      exact HO8.out
                    · by_cases hjk : j < k
                      · exact HIDS.out j hjk hj1
                      · obtain rfl : j = k := by omega
                        exact HIDK.out hj1
              · have HPC := Lib.hid (show pcmd c hs k = ⟨ck, fl, dl, 0, c.m⟩ by rw [HPCM.out, if_neg hmid, HCK.out])
                have dmi : ((k : Int) == (q : Int) - 1) = true := by simp; omega
                have r0 : w3.cell? ⟨bk, 0, none⟩ = some (.int .u8 1) := by rw [blk_cell HC3.out, ← HRC.out]; rfl
                have f0 := frozen_of_row _ _ 0 _ _ HC3.out
                have hbx0 : w3.cell? ⟨b0, 0, none⟩ = some (.int .u8 ck) := by rw [blk_cell HX3.out, ← HCS.out, ← HCK.out]; rfl
                have hb0k : ¬ b0 = bk := by omega
                have hgr0 := grown_setCell w3 bk 0 (.int .u8 ck)
                have HMKR := Lib.hid (show (w3.setCell ⟨bk, 0, none⟩ (.int .u8 ck)).rangeAt b0 4 (c.m.map (Value.int .u8)) from fun j v hv => by
                  have h1 : (w3.setCell ⟨bk, 0, none⟩ (.int .u8 ck)).heap[b0]? = some (.cells cs 68 (0, 0)) := by rw [hgr0.block b0 (Array.getElem?_eq_some_iff.1 HX3.out).1 (by simp; omega)]; exact HX3.out
                  rw [blk_cell h1, ← HCS.out, List.getElem?_toArray]
                  show (Value.int .u8 c.k :: .int .u8 c.f :: .int .u32 c.d :: .int .u64 c.x :: c.m.map (.int .u8))[4 + j]? = some v
                  rw [show 4 + j = j + 1 + 1 + 1 + 1 by omega]
                  exact hv)
                have HI16 := Lib.hid (show (Try.prog.info? 66).map (·.size) = some (c.m.map (Value.int .u8)).length by rw [List.length_map, HC.out.l]; kernel_rfl)
                have HB0 := Lib.hid (blk_set HC3.out (.int .u8 ck) (i := 0))
                have hml : (c.m.map (Value.int .u8)).toArray.size = 16 := by rw [List.size_toArray, List.length_map, HC.out.l]
                have HMO := Lib.hid (show ∀ v ∈ (c.m.map (Value.int .u8)).toArray.toList, v.oneCell' = true from fun v hv => by
                  simp only [List.mem_map] at hv
                  obtain ⟨_, _, rfl⟩ := hv
                  rfl)
                have HIDK := Lib.hid (show k + 1 < q → (hat hs (k + 1)).id ≠ 0 from fun h => absurd h hmid)
                have HWF := Lib.hid (show ((w3.setCell ⟨bk, 0, none⟩ (.int .u8 ck)).setRow bk (List.take 4 (rc.setIfInBounds 0 (.int .u8 ck)).toList ++ List.map (Value.int .u8) c.m ++ List.drop (4 + (List.map (Value.int .u8) c.m).toArray.size) (rc.setIfInBounds 0 (.int .u8 ck)).toList).toArray).heap[bk]? = some (.cells (pcmd c hs k).cells.toArray 68 (0, 0)) from by
                  rw [setRow_heap _ _ _ _ _ _ HB0.out, hml, HPC.out, ← HRC.out]
                  have e2 : List.drop (4 + 16) ((⟨1, fl, dl, 0, noMark⟩ : Cmd).cells.toArray.setIfInBounds 0 (.int .u8 ck)).toList = [] := rfl
                  rw [e2, List.append_nil]
                  rfl)
                have HRG := Lib.hid (blk_range HWF.out)
                have hgr := hgr0.trans (grown_setRow (w3.setCell ⟨bk, 0, none⟩ (.int .u8 ck)) bk (List.take 4 (rc.setIfInBounds 0 (.int .u8 ck)).toList ++ List.map (Value.int .u8) c.m ++ List.drop (4 + (List.map (Value.int .u8) c.m).toArray.size) (rc.setIfInBounds 0 (.int .u8 ck)).toList).toArray)
                have HOF := Lib.hid (HO3.out.kept hgr HNK.out)
                have HXF := Lib.hid (show ((w3.setCell ⟨bk, 0, none⟩ (.int .u8 ck)).setRow bk (List.take 4 (rc.setIfInBounds 0 (.int .u8 ck)).toList ++ List.map (Value.int .u8) c.m ++ List.drop (4 + (List.map (Value.int .u8) c.m).toArray.size) (rc.setIfInBounds 0 (.int .u8 ck)).toList).toArray).heap[b0]? = some (.cells cs 68 (0, 0)) from by rw [hgr.block b0 (Array.getElem?_eq_some_iff.1 HX3.out).1 (by simp; omega)]; exact HX3.out)
                have HBF := Lib.hid (below_setRow (HB3.out.setCell (p := ⟨bk, 0, none⟩) (by show b0 ≤ bk; omega) (.int .u8 ck)) (show b0 ≤ bk by omega) (List.take 4 (rc.setIfInBounds 0 (.int .u8 ck)).toList ++ List.map (Value.int .u8) c.m ++ List.drop (4 + (List.map (Value.int .u8) c.m).toArray.size) (rc.setIfInBounds 0 (.int .u8 ck)).toList).toArray)
                clear hgr hgr0 HWF
                go_upto_region 23 with (first | (refine wl_load_mid rfl 66 (.tmp 101) rfl b0 4 rfl (c.m.map (Value.int .u8)) _ HMKR.out Try.underlying66 rfl HI16.out ?_) | (refine wl_store_blk rfl 66 (.tmp 103) (.tmp 102) rfl bk 4 (c.m.map (Value.int .u8)).toArray rfl rfl (rc.setIfInBounds 0 (.int .u8 ck)) 68 HB0.out (by rw [hml, Array.size_setIfInBounds, hrs]; decide) (by rw [hml]; kernel_rfl) HMO.out ?_))
                have HPOK := Lib.hid (HCOK.out _ (List.mem_of_getElem? (HCI.out k hlt)))
                have HIP := Lib.hid (show (Try.prog.info? 68).map (·.size) = some (pcmd c hs k).cells.length by rw [HPOK.out.size]; kernel_rfl)
                have HONE := Lib.hid (cmd_one (pcmd c hs k))
                have hp20 := HPOK.out.size
                have HTK := Lib.hid (show cmdsV (cl.take (k + 1)) = cmdsV (cl.take k) ++ (pcmd c hs k).cells by
                  rw [List.take_succ_eq_append_getElem (by rw [HLEN.out]; exact hlt), cmdsV_append]
                  have e := HCI.out k hlt
                  rw [List.getElem?_eq_getElem (by rw [HLEN.out]; exact hlt)] at e
                  rw [Option.some.inj e]
                  simp [cmdsV])
                obtain ⟨W6, hW6⟩ : ∃ W6, (w3.setCell ⟨bk, 0, none⟩ (.int .u8 ck)).setRow bk (List.take 4 (rc.setIfInBounds 0 (.int .u8 ck)).toList ++ List.map (Value.int .u8) c.m ++ List.drop (4 + (List.map (Value.int .u8) c.m).toArray.size) (rc.setIfInBounds 0 (.int .u8 ck)).toList).toArray = W6 := ⟨_, rfl⟩
                have HRG6 := Lib.hid (show W6.rangeAt bk 0 (pcmd c hs k).cells from by rw [← hW6]; exact HRG.out)
                have HO6 := Lib.hid (show W6.ownsRow (b0 + 1) 68 20 (.slice Ak k cx) k (cmdsV (cl.take k)) from by rw [← hW6]; exact HOF.out)
                have HX6 := Lib.hid (show W6.heap[b0]? = some (.cells cs 68 (0, 0)) from by rw [← hW6]; exact HXF.out)
                have HB6 := Lib.hid (show Below b0 w W6 from by rw [← hW6]; exact HBF.out)
                have hz6 : b0 < W6.heap.size := (Array.getElem?_eq_some_iff.1 HX6.out).1
                obtain ⟨pa, hpa⟩ : ∃ pa, (pcmd c hs k).cells.toArray = pa := ⟨_, rfl⟩
                have HPA := Lib.hid hpa
                have hps : pa.size = 20 := by rw [← hpa, List.size_toArray, hp20]
                have hal6 := (Below.refl W6.heap.size W6).alloc (Nat.le_refl _) (.cells pa 68)
                have HO7 := Lib.hid (own_later HO6.out hal6)
                have HX7 := Lib.hid ((hal6.block b0 hz6).trans HX6.out)
                have HB7 := Lib.hid (HB6.out.trans (hal6.mono (by omega)))
                have HRD := Lib.hid (show Reads (W6.alloc (.cells pa 68)) (W6.heap.size + 1) 20 (some ⟨W6.heap.size, 0, none⟩) 1 (pcmd c hs k).cells from by
                  have h1 := Reads.lit W6 68 (pcmd c hs k).cells 1 20 (by rw [hp20]) _ rfl
                  rw [hpa] at h1
                  exact h1)
                have hz7 : b0 + 1 ≤ (W6.alloc (.cells pa 68)).heap.size := by simp; omega
                have HON := Lib.hid (show ∀ u ∈ (pcmd c hs k).cells, u.oneCell' = true from fun u hu => HONE.out u (by simpa using hu))
                clear hpa hp20 hal6 HRG HOF HXF HBF HO6 HX6 HB6 HONE
                rw [hW6]
                clear hW6
                go_wp2_with (first | (refine wl_load_mid rfl 68 (.tmp 9) rfl bk 0 rfl (pcmd c hs k).cells _ HRG6.out Try.underlying68 rfl HIP.out ?_; rw [HPA.out]) | (refine wl_bs1 TC rfl (.tmp 116) rfl pa rfl hps (by decide) ?_) | (at_builtin; refine wl_app TC rfl (.tmp 115) (.tmp 117) rfl (.slice Ak k cx) rfl (some ⟨W6.heap.size, 0, none⟩) 1 1 rfl (b0 + 1) k _ HO7.out (W6.heap.size + 1) (pcmd c hs k).cells HRD.out HON.out (by omega) (by omega) hz7 ?q6))
                case q6 =>
                  intro A8 c8 w8 hown hgr _
                  have HO8 := Lib.hid hown
                  have HX8 := Lib.hid (show w8.heap[b0]? = some (.cells cs 68 (0, 0)) from by
                    rw [hgr.block b0 (by simp; omega) (fun e => HNB.out e.symm)]
                    exact HX7.out)
                  have HB8 := Lib.hid (HB7.out.grown hgr (by omega) (fun x hx => by have := (HO7.out.lt x hx).1; omega))
                  clear hown hgr HO7 HX7 HB7
                  go_wp2_with fail
                  refine ⟨⟨k + 1, A8, c8, by omega, by go_num, rfl, ?_, HX8.out, HB8.out, fun j hj hj1 => ?_⟩, by simp [intOf]; omega⟩
                  · rw [HTK.out]
                    exact HO8.out
                  · by_cases hjk : j < k
                    · exact HIDS.out j hjk hj1
                    · obtain rfl : j = k := by omega
                      exact HIDK.out hj1
            · obtain rfl : k = q := by omega
              have HF := Lib.hid (show cl.take k = cl from List.take_of_length_le (by rw [HLEN.out]; exact Nat.le_refl _))
              have hni : noId hs = false := noId_false.2 (fun t ht h0 => by
                have h := HIDS.out (t - 1) (by rw [HL.out] at ht; omega) (by rw [HL.out] at ht; omega)
                rw [show t - 1 + 1 = t by omega] at h
                exact h)
              have E := Lib.hid (show pe = 0 by rw [HPE.out, hni, if_neg (by decide)])
              clear hni
              go_wp2_with fail
              go_ret2
              rw [E.out, HPL.out E.out]
              refine ⟨_, k, cx, rfl, HLEN.out, ?_, by rw [HGB.out]; exact HB.out⟩
              have h := HO.out
              rw [HF.out] at h
              rw [HGB.out]
              exact own_base h (by omega)
        · have dk : (ck != 4) = true := by simp [hk4]
          cases hmk : decide (c.m = noMark) with
          | true =>
            have hsb : shapedB c = true := by rw [HSB.out, dx, dk, hmk]; rfl
            rw [hsb, if_neg (by decide)] at HPE
            have HMK := Lib.hid (fun W => by have h := HMR.out W; rw [hmk] at h; exact h)
            clear hx hk4 hsb HSB HMR hmk
            go_wp2_with (refine wl_load_mid rfl 68 (.tmp 2) rfl w.heap.size 0 rfl c.cells _ HRX.out Try.underlying68 rfl HI.out ?_; rw [HCS.out])
            refine (HMK.out _).mono ?_
            rintro e9 w9 ⟨rfl, hb9⟩
            have HB9 := Lib.hid (HAL.out.trans (hb9.mono (by omega)))
            have HN9 := Lib.hid ((hb9.block _ hbl).trans HN.out)
            have HR9 := Lib.hid (HR1.out.below (hb9.mono (by omega)))
            have hz9 : w.heap.size < w9.heap.size := by have := hb9.size; omega
            clear hb9 HAL HN HR1 h0 h3 HRX
            go_wp2_with fail
            have HPL := Lib.hid (show pe = 0 → pl = (List.range q).map (pcmd c hs) from fun h => by rw [HLL.out, if_pos h, HL.out])
            have HCOK := Lib.hid (show ∀ d ∈ (List.range q).map (pcmd c hs), d.OK from fun d hd => by
              obtain ⟨i, hi, rfl⟩ := List.mem_map.1 hd
              exact pcmd_ok HC.out HOK.out HBAD.out (by rw [HL.out]; exact List.mem_range.1 hi))
            have HLEN := Lib.hid (show ((List.range q).map (pcmd c hs)).length = q by simp)
            have HCI := Lib.hid (show ∀ i, i < q → ((List.range q).map (pcmd c hs))[i]? = some (pcmd c hs i) from fun i hi => by simp [hi])
            generalize (List.range q).map (pcmd c hs) = cl at *
            have hzero := zeroCmd
            obtain ⟨zc, hzc⟩ : ∃ zc, zeroC.cells.toArray = zc := ⟨_, rfl⟩
            have hzs : zc.size = 20 := by rw [← hzc]; exact cmd_size zeroC_ok
            have hze : ¬ zc = #[] := by intro h; rw [h] at hzs; cases hzs
            have HZC := Lib.hid hzc
            rw [hzc] at hzero
            clear hzc
            generalize hb0 : w.heap.size = b0 at *
            have HGB := Lib.hid hb0
            clear hb0
            go_loopw [7, 8] (fun v i wy => ∃ (k : Nat) (Ak : Option Addr) (cx : Nat), k ≤ q ∧ i = .int .i64 (k : Int) ∧ v = .slice Ak k cx ∧ wy.ownsRow (b0 + 1) 68 20 (.slice Ak k cx) k (cmdsV (cl.take k)) ∧ wy.heap[b0]? = some (.cells cs 68 (0, 0)) ∧ Below b0 w wy ∧ ∀ j, j < k → j + 1 < q → (hat hs (j + 1)).id ≠ 0) (fun _ i _ => q - (intOf i).toNat)
            case atStart => exact ⟨0, none, 0, by omega, rfl, rfl, World.ownsRow_nil _ _ _ _, HN9.out, HB9.out, fun j hj => absurd hj (by omega)⟩
            case round =>
              obtain ⟨k, Ak, cx, hk, rfl, rfl, ho, hbox, hb, hids⟩ := hrel
              have HO := Lib.hid ho
              have HX := Lib.hid hbox
              have HB := Lib.hid hb
              have HIDS := Lib.hid hids
              have hyz := (Array.getElem?_eq_some_iff.1 hbox).1
              clear ho hbox hb hids HN9 HB9
              by_cases hlt : k < q
              · have hki : (k : Int) < (q : Int) := by omega
                obtain ⟨b, off, rfl, hbB, _, q66, q67⟩ := hop_at (HR.out.below (HB.out.mono hB)) HOK.out hlt
                obtain ⟨⟨d1, d2⟩, e1, e2⟩ := badHop_false.1 (HBAD.out k (by rw [HL.out]; exact hlt))
                have HPCM := Lib.hid (show pcmd c hs k = if k + 1 < q then ⟨1, (hat hs k).fl, (hat hs k).dl, (hat hs (k + 1)).id, noMark⟩ else ⟨c.k, (hat hs k).fl, (hat hs k).dl, 0, c.m⟩ by rw [pcmd, HL.out])
                generalize (hat hs k).dl = dl at *
                generalize (hat hs k).fl = fl at *
                have hrel : (⟨1, fl, dl, 0, noMark⟩ : Cmd).OK := ⟨⟨by show (0 : Int) ≤ 1; decide, by show (1 : Int) < 256; decide⟩, by show 0 ≤ fl ∧ fl < 256; omega, by show 0 ≤ dl ∧ dl < 4294967296; omega, ⟨by show (0 : Int) ≤ 0; decide, by show (0 : Int) < 18446744073709551616; decide⟩, rfl, by unfold noMark; simp⟩
                have hst : (storeCells ⟨wr.heap.size, 0, none⟩ (⟨1, fl, dl, 0, noMark⟩ : Cmd).cells.toArray.toList).run Try.prog (wr.alloc (.cells zc 68)).drew = .ok () (wr.alloc (.cells (⟨1, fl, dl, 0, noMark⟩ : Cmd).cells.toArray 68)).drew := by
                  rw [← HZC.out]
                  exact cmd_store_new hrel zeroC_ok wr.drew
                have HBT3 := Lib.hid (rel3_built fl dl)
                have wu : IntKind.u32.wrap dl = dl := by rw [IntKind.wrap_u32]; omega
                have wb : IntKind.u8.wrap fl = fl := by rw [IntKind.wrap_u8]; omega
                have hrs : (⟨1, fl, dl, 0, noMark⟩ : Cmd).cells.toArray.size = 20 := cmd_size hrel
                obtain ⟨rc, hrc⟩ : ∃ rc, (⟨1, fl, dl, 0, noMark⟩ : Cmd).cells.toArray = rc := ⟨_, rfl⟩
                have HRC := Lib.hid hrc
                rw [hrc] at hst HBT3 hrs
                clear hrc hrel
                have hbw : b < wr.heap.size := by omega
                have HNB := Lib.hid (show (Value.slice Ak k cx).ownBlock ≠ some b0 from fun e => by
                  have := (HO.out.lt b0 e).1
                  omega)
                go_wp2_with fail
                refine wp_region_held_drew (S := (fun w' => w'.cell? ⟨b, off + k * 68 + 66, none⟩ = some (.int .i64 dl) ∧ w'.cell? ⟨b, off + k * 68 + 67, none⟩ = some (.int .i64 fl))) (by kernel_rfl) ?_ (fun hHeld => ?_)
                · (try dsimp only)
                  exact ⟨q66, q67⟩
                refine wpAnyH_take (i := 0) (v := ?v16) rfl (by kernel_rfl) (by kernel_rfl) (by kernel_rfl) (fun _ _ _ h => h) (Or.inl ⟨by rfl, ?y16⟩) (by assumption) ?r16
                case y16 => (intro w hSw; (try dsimp only at hSw); first | (go_simp; done) | (go_simp; with_reducible rfl))
                (try simp only [List.getElem_toArray, List.getElem_cons_zero, Act.put, List.setIfInBounds_toArray, List.set_cons_zero, List.set_cons_succ])
                refine wpAnyH_take (i := 1) (v := ?v17) rfl (by kernel_rfl) (by kernel_rfl) (by kernel_rfl) (fun _ _ _ h => h) (Or.inl ⟨by rfl, ?y17⟩) (by assumption) ?r17
                case y17 => (intro w hSw; (try dsimp only at hSw); first | (go_simp; done) | (go_simp; with_reducible rfl))
                (try simp only [List.getElem_toArray, List.getElem_cons_zero, List.getElem_cons_succ, Act.put, List.setIfInBounds_toArray, List.set_cons_zero, List.set_cons_succ])
                refine wpAnyH_take (i := 2) (v := ?v18) rfl (by kernel_rfl) (by kernel_rfl) (by kernel_rfl) (fun _ _ _ h => h) (Or.inl ⟨by rfl, ?y18⟩) (by assumption) ?r18
                case y18 => (intro w hSw; (try dsimp only at hSw); first | (go_simp; done) | (go_simp; with_reducible rfl))
                (try simp only [List.getElem_toArray, List.getElem_cons_zero, List.getElem_cons_succ, Act.put, List.setIfInBounds_toArray, List.set_cons_zero, List.set_cons_succ])
                refine wpAnyH_take (i := 3) (v := ?v19) rfl (by kernel_rfl) (by kernel_rfl) (by kernel_rfl) (fun _ _ _ h => h) (Or.inl ⟨by rfl, ?y19⟩) (by assumption) ?r19
                case y19 => (intro w hSw; (try dsimp only at hSw); first | (go_simp; done) | (go_simp; with_reducible rfl))
                (try simp only [List.getElem_toArray, List.getElem_cons_zero, List.getElem_cons_succ, Act.put, List.setIfInBounds_toArray, List.set_cons_zero, List.set_cons_succ])
                refine wpAnyH_take (i := 4) (v := ?v20) rfl (by kernel_rfl) (by kernel_rfl) (by kernel_rfl) (fun _ _ _ h => h) (Or.inl ⟨by rfl, ?y20⟩) (by assumption) ?r20
                case y20 => (intro w hSw; (try dsimp only at hSw); first | (go_simp; done) | (go_simp; with_reducible rfl))
                (try simp only [List.getElem_toArray, List.getElem_cons_zero, List.getElem_cons_succ, Act.put, List.setIfInBounds_toArray, List.set_cons_zero, List.set_cons_succ])
                refine wpAnyH_take (i := 5) (v := ?v21) rfl (by kernel_rfl) (by kernel_rfl) (by kernel_rfl) (fun _ _ _ h => h) (Or.inl ⟨by rfl, ?y21⟩) (by assumption) ?r21
                case y21 => (intro w hSw; (try dsimp only at hSw); first | (go_simp; done) | (go_simp; with_reducible rfl))
                (try simp only [List.getElem_toArray, List.getElem_cons_zero, List.getElem_cons_succ, Act.put, List.setIfInBounds_toArray, List.set_cons_zero, List.set_cons_succ])
                refine wpAnyH_take (i := 6) (v := ?v22) rfl (by kernel_rfl) (by kernel_rfl) (by kernel_rfl) (fun _ _ _ h => h) (Or.inl ⟨by rfl, ?y22⟩) (by assumption) ?r22
                case y22 => (intro w hSw; (try dsimp only at hSw); first | (go_simp; done) | (go_simp; with_reducible rfl))
                (try simp only [List.getElem_toArray, List.getElem_cons_zero, List.getElem_cons_succ, Act.put, List.setIfInBounds_toArray, List.set_cons_zero, List.set_cons_succ])
                refine wpAnyH_take (i := 7) (v := ?v23) rfl (by kernel_rfl) (by kernel_rfl) (by kernel_rfl) (fun _ _ _ h => h) (Or.inl ⟨by rfl, ?y23⟩) (by assumption) ?r23
                case y23 => (intro w hSw; (try dsimp only at hSw); first | (go_simp; done) | (go_simp; with_reducible rfl))
                (try simp only [List.getElem_toArray, List.getElem_cons_zero, List.getElem_cons_succ, Act.put, List.setIfInBounds_toArray, List.set_cons_zero, List.set_cons_succ])
                refine wpAnyH_take (i := 8) (v := ?v24) rfl (by kernel_rfl) (by kernel_rfl) (by kernel_rfl) (fun _ _ _ h => h) (Or.inl ⟨by rfl, ?y24⟩) (by assumption) ?r24
                case y24 => (intro w hSw; (try dsimp only at hSw); first | (go_simp; done) | (go_simp; with_reducible rfl))
                (try simp only [List.getElem_toArray, List.getElem_cons_zero, List.getElem_cons_succ, Act.put, List.setIfInBounds_toArray, List.set_cons_zero, List.set_cons_succ])
                refine wpAnyH_take (i := 9) (v := ?v25) rfl (by kernel_rfl) (by kernel_rfl) (by kernel_rfl) (fun _ _ _ h => h) (Or.inl ⟨by rfl, ?y25⟩) (by assumption) ?r25
                case y25 => (intro w hSw; (try dsimp only at hSw); first | (go_simp; done) | (go_simp; with_reducible rfl))
                (try simp only [List.getElem_toArray, List.getElem_cons_zero, List.getElem_cons_succ, Act.put, List.setIfInBounds_toArray, List.set_cons_zero, List.set_cons_succ])
                refine wpAnyH_take (i := 10) (v := ?v26) rfl (by kernel_rfl) (by kernel_rfl) (by kernel_rfl) (fun _ _ _ h => h) (Or.inl ⟨by rfl, ?y26⟩) (by assumption) ?r26
                case y26 => (intro w hSw; (try dsimp only at hSw); first | (go_simp; done) | (go_simp; with_reducible rfl))
                (try simp only [List.getElem_toArray, List.getElem_cons_zero, List.getElem_cons_succ, Act.put, List.setIfInBounds_toArray, List.set_cons_zero, List.set_cons_succ])
                refine wpAnyH_take (i := 11) (v := ?v27) rfl (by kernel_rfl) (by kernel_rfl) (by kernel_rfl) (fun _ _ _ h => h) (Or.inl ⟨by rfl, ?y27⟩) (by assumption) ?r27
                case y27 => (intro w hSw; (try dsimp only at hSw); first | (go_simp; done) | (go_simp; with_reducible rfl))
                (try simp only [List.getElem_toArray, List.getElem_cons_zero, List.getElem_cons_succ, Act.put, List.setIfInBounds_toArray, List.set_cons_zero, List.set_cons_succ])
                refine wpAnyH_take (i := 12) rfl (by kernel_rfl) (by kernel_rfl) (by kernel_rfl) (fun _ _ _ h => h) (yieldsIf_lit (by rfl) 68 [(0, .const (.int .u8 1)), (1, .tmp 85), (2, .tmp 91)] rfl [(0, .int .u8 1), (1, .int .u8 fl), (2, .int .u32 dl)] rfl rc HBT3.out) (by assumption) ?_
                (try simp only [List.getElem_toArray, List.getElem_cons_zero, List.getElem_cons_succ, Act.put, List.setIfInBounds_toArray, List.set_cons_zero, List.set_cons_succ])
                refine wpAnyH_ready (rs := [13]) (by kernel_rfl) (by simp) ?_
                refine AllReadyH.cons rfl (fun K hK => ?_) AllReadyH.nil
                go_simp
                first | (refine hK.out _ _ ?_ (fun hHeld => ?_)) | (go_wp2_with fail; refine hK.out _ _ ?_ (fun hHeld => ?_))
                · (try dsimp only)
                  exact ⟨((Below.refl _ _).alloc (Nat.le_refl _) _).cell (p := ⟨b, off + k * 68 + 66, none⟩) hbw |>.trans q66, ((Below.refl _ _).alloc (Nat.le_refl _) _).cell (p := ⟨b, off + k * 68 + 67, none⟩) hbw |>.trans q67⟩
                clear hK K
                (try simp only [List.getElem_toArray, List.getElem_cons_zero, List.getElem_cons_succ, Act.put, List.setIfInBounds_toArray, List.set_cons_zero, List.set_cons_succ])
                refine wpAnyH_ready (rs := [14]) (by kernel_rfl) (by simp) ?_
                refine AllReadyH.cons rfl (fun K hK => ?_) AllReadyH.nil
                go_simp
                first | (refine hK.out _ _ ?_ (fun hHeld => ?_)) | (go_wp2_with fail; refine hK.out _ _ ?_ (fun hHeld => ?_))
                · (try dsimp only)
                  exact ⟨((Below.refl _ _).alloc (Nat.le_refl _) _).cell (p := ⟨b, off + k * 68 + 66, none⟩) hbw |>.trans q66, ((Below.refl _ _).alloc (Nat.le_refl _) _).cell (p := ⟨b, off + k * 68 + 67, none⟩) hbw |>.trans q67⟩
                clear hK K
                (try simp only [List.getElem_toArray, List.getElem_cons_zero, List.getElem_cons_succ, Act.put, List.setIfInBounds_toArray, List.set_cons_zero, List.set_cons_succ])
                refine wpAnyH_done (by kernel_rfl) ?_ _
                obtain ⟨w3, hw3⟩ : ∃ w3, (wr.alloc (.cells rc 68)).drew = w3 := ⟨_, rfl⟩
                have hb3 : Below wr.heap.size wr w3 := by rw [← hw3]; exact ((Below.refl _ _).alloc (Nat.le_refl _) _).drew
                have HC3 := Lib.hid (show w3.heap[wr.heap.size]? = some (.cells rc 68 (0, 0)) from by rw [← hw3]; exact heap_alloc_new wr _)
                have HO3 := Lib.hid (own_later HO.out hb3)
                have HX3 := Lib.hid ((hb3.block b0 hyz).trans HX.out)
                have HB3 := Lib.hid (HB.out.trans (hb3.mono (by omega)))
                have HNK := Lib.hid (show (Value.slice Ak k cx).ownBlock = none ∨ (Value.slice Ak k cx).ownBlock ≠ some wr.heap.size from .inr fun e => by have := (HO.out.lt _ e).2; omega)
                rw [hw3]
                clear hw3 hb3 hst HO HX HB q66 q67 hHeld
                generalize wr.heap.size = bk at *
                by_cases hmid : k + 1 < q
                · have HPC := Lib.hid (show pcmd c hs k = ⟨1, fl, dl, (hat hs (k + 1)).id, noMark⟩ by rw [HPCM.out, if_pos hmid])
                  obtain ⟨_, _, hh, _, q1, _, _⟩ := hop_at (HR.out.below (HB3.out.mono hB)) HOK.out hmid
                  simp only [Option.some.injEq, Addr.mk.injEq, and_true] at hh
                  obtain ⟨rfl, rfl⟩ := hh
                  have hidb := (HOK.out _ (hat_mem (hs := hs) (k := k + 1) (by rw [HL.out]; exact hmid))).id
                  have HNI := Lib.hid (show (hat hs (k + 1)).id = 0 → pe = 3 from fun h => by
                    have hni : noId hs = true := by
                      cases e : noId hs with
                      | true => rfl
                      | false => exact absurd h (noId_false.1 e (k + 1) (by rw [HL.out]; exact hmid) (by omega))
                    rw [HPE.out, if_pos hni])
                  have HIDK' := Lib.hid (show (hat hs (k + 1)).id = (hat hs (k + 1)).id from rfl)
                  generalize hidg : (hat hs (k + 1)).id = idn at *
                  have r3 : w3.cell? ⟨bk, 3, none⟩ = some (.int .u64 0) := by rw [blk_cell HC3.out, ← HRC.out]; rfl
                  have f3 := frozen_of_row _ _ 3 _ _ HC3.out
                  have hmi : (k : Int) ≠ (q : Int) - 1 := by omega
                  have dmi : ((k : Int) == (q : Int) - 1) = false := by simp; omega
                  have hmj : (k : Int) + 1 < (q : Int) := by omega
                  by_cases hi0 : idn = 0
                  · have E := Lib.hid (HNI.out hi0)
                    have hbf := HB3.out.setCell (p := ⟨bk, 3, none⟩) (by show b0 ≤ bk; omega) (.int .u64 idn)
                    have HBF := Lib.hid hbf
                    subst hi0
                    clear hbf
                    go_wp2_with fail
                    go_ret2
                    exact HBADR.out 3 (by decide) E.out _ HBF.out
                  · have di : (idn == 0) = false := by simp [hi0]
                    have HIDK := Lib.hid (show k + 1 < q → (hat hs (k + 1)).id ≠ 0 from fun _ => by rw [hidg]; exact hi0)
                    have HWF := Lib.hid (show (w3.setCell ⟨bk, 3, none⟩ (.int .u64 idn)).heap[bk]? = some (.cells (pcmd c hs k).cells.toArray 68 (0, 0)) from by
                      rw [blk_set HC3.out, HPC.out, ← HRC.out]
                      rfl)
                    have HRG := Lib.hid (blk_range HWF.out)
                    have hgr := grown_setCell w3 bk 3 (.int .u64 idn)
                    have HOF := Lib.hid (HO3.out.kept hgr HNK.out)
                    have HXF := Lib.hid (show (w3.setCell ⟨bk, 3, none⟩ (.int .u64 idn)).heap[b0]? = some (.cells cs 68 (0, 0)) from by rw [hgr.block b0 (Array.getElem?_eq_some_iff.1 HX3.out).1 (by simp; omega)]; exact HX3.out)
                    have HBF := Lib.hid (HB3.out.setCell (p := ⟨bk, 3, none⟩) (by show b0 ≤ bk; omega) (.int .u64 idn))
                    clear hi0 hgr HWF hidg
                    go_upto_region 23 with fail
                    have HPOK := Lib.hid (HCOK.out _ (List.mem_of_getElem? (HCI.out k hlt)))
                    have HIP := Lib.hid (show (Try.prog.info? 68).map (·.size) = some (pcmd c hs k).cells.length by rw [HPOK.out.size]; kernel_rfl)
                    have HONE := Lib.hid (cmd_one (pcmd c hs k))
                    have hp20 := HPOK.out.size
                    have HTK := Lib.hid (show cmdsV (cl.take (k + 1)) = cmdsV (cl.take k) ++ (pcmd c hs k).cells by
                      rw [List.take_succ_eq_append_getElem (by rw [HLEN.out]; exact hlt), cmdsV_append]
                      have e := HCI.out k hlt
                      rw [List.getElem?_eq_getElem (by rw [HLEN.out]; exact hlt)] at e
                      rw [Option.some.inj e]
                      simp [cmdsV])
                    obtain ⟨W6, hW6⟩ : ∃ W6, w3.setCell ⟨bk, 3, none⟩ (.int .u64 idn) = W6 := ⟨_, rfl⟩
                    have HRG6 := Lib.hid (show W6.rangeAt bk 0 (pcmd c hs k).cells from by rw [← hW6]; exact HRG.out)
                    have HO6 := Lib.hid (show W6.ownsRow (b0 + 1) 68 20 (.slice Ak k cx) k (cmdsV (cl.take k)) from by rw [← hW6]; exact HOF.out)
                    have HX6 := Lib.hid (show W6.heap[b0]? = some (.cells cs 68 (0, 0)) from by rw [← hW6]; exact HXF.out)
                    have HB6 := Lib.hid (show Below b0 w W6 from by rw [← hW6]; exact HBF.out)
                    have hz6 : b0 < W6.heap.size := (Array.getElem?_eq_some_iff.1 HX6.out).1
                    obtain ⟨pa, hpa⟩ : ∃ pa, (pcmd c hs k).cells.toArray = pa := ⟨_, rfl⟩
                    have HPA := Lib.hid hpa
                    have hps : pa.size = 20 := by rw [← hpa, List.size_toArray, hp20]
                    have hal6 := (Below.refl W6.heap.size W6).alloc (Nat.le_refl _) (.cells pa 68)
                    have HO7 := Lib.hid (own_later HO6.out hal6)
                    have HX7 := Lib.hid ((hal6.block b0 hz6).trans HX6.out)
                    have HB7 := Lib.hid (HB6.out.trans (hal6.mono (by omega)))
                    have HRD := Lib.hid (show Reads (W6.alloc (.cells pa 68)) (W6.heap.size + 1) 20 (some ⟨W6.heap.size, 0, none⟩) 1 (pcmd c hs k).cells from by
                      have h1 := Reads.lit W6 68 (pcmd c hs k).cells 1 20 (by rw [hp20]) _ rfl
                      rw [hpa] at h1
                      exact h1)
                    have hz7 : b0 + 1 ≤ (W6.alloc (.cells pa 68)).heap.size := by simp; omega
                    have HON := Lib.hid (show ∀ u ∈ (pcmd c hs k).cells, u.oneCell' = true from fun u hu => HONE.out u (by simpa using hu))
                    clear hpa hp20 hal6 HRG HOF HXF HBF HO6 HX6 HB6 HONE
                    rw [hW6]
                    clear hW6
                    go_wp2_with (first | (refine wl_load_mid rfl 68 (.tmp 9) rfl bk 0 rfl (pcmd c hs k).cells _ HRG6.out Try.underlying68 rfl HIP.out ?_; rw [HPA.out]) | (refine wl_bs1 TC rfl (.tmp 116) rfl pa rfl hps (by decide) ?_) | (at_builtin; refine wl_app TC rfl (.tmp 115) (.tmp 117) rfl (.slice Ak k cx) rfl (some ⟨W6.heap.size, 0, none⟩) 1 1 rfl (b0 + 1) k _ HO7.out (W6.heap.size + 1) (pcmd c hs k).cells HRD.out HON.out (by omega) (by omega) hz7 ?q6))
                    case q6 =>
                      intro A8 c8 w8 hown hgr _
                      have HO8 := Lib.hid hown
                      have HX8 := Lib.hid (show w8.heap[b0]? = some (.cells cs 68 (0, 0)) from by
                        rw [hgr.block b0 (by simp; omega) (fun e => HNB.out e.symm)]
                        exact HX7.out)
                      have HB8 := Lib.hid (HB7.out.grown hgr (by omega) (fun x hx => by have := (HO7.out.lt x hx).1; omega))
                      clear hown hgr HO7 HX7 HB7
                      go_wp2_with fail
                      refine ⟨⟨k + 1, A8, c8, by omega, by go_num, rfl, ?_, HX8.out, HB8.out, fun j hj hj1 => ?_⟩, by simp [intOf]; omega⟩
                      · rw [HTK.out]
                        exact HO8.out
                      · by_cases hjk : j < k
                        · exact HIDS.out j hjk hj1
                        · obtain rfl : j = k := by omega
                          exact HIDK.out hj1
                · have HPC := Lib.hid (show pcmd c hs k = ⟨ck, fl, dl, 0, c.m⟩ by rw [HPCM.out, if_neg hmid, HCK.out])
                  have dmi : ((k : Int) == (q : Int) - 1) = true := by simp; omega
                  have r0 : w3.cell? ⟨bk, 0, none⟩ = some (.int .u8 1) := by rw [blk_cell HC3.out, ← HRC.out]; rfl
                  have f0 := frozen_of_row _ _ 0 _ _ HC3.out
                  have hbx0 : w3.cell? ⟨b0, 0, none⟩ = some (.int .u8 ck) := by rw [blk_cell HX3.out, ← HCS.out, ← HCK.out]; rfl
                  have hb0k : ¬ b0 = bk := by omega
                  have hgr0 := grown_setCell w3 bk 0 (.int .u8 ck)
                  have HMKR := Lib.hid (show (w3.setCell ⟨bk, 0, none⟩ (.int .u8 ck)).rangeAt b0 4 (c.m.map (Value.int .u8)) from fun j v hv => by
                    have h1 : (w3.setCell ⟨bk, 0, none⟩ (.int .u8 ck)).heap[b0]? = some (.cells cs 68 (0, 0)) := by rw [hgr0.block b0 (Array.getElem?_eq_some_iff.1 HX3.out).1 (by simp; omega)]; exact HX3.out
                    rw [blk_cell h1, ← HCS.out, List.getElem?_toArray]
                    show (Value.int .u8 c.k :: .int .u8 c.f :: .int .u32 c.d :: .int .u64 c.x :: c.m.map (.int .u8))[4 + j]? = some v
                    rw [show 4 + j = j + 1 + 1 + 1 + 1 by omega]
                    exact hv)
                  have HI16 := Lib.hid (show (Try.prog.info? 66).map (·.size) = some (c.m.map (Value.int .u8)).length by rw [List.length_map, HC.out.l]; kernel_rfl)
                  have HB0 := Lib.hid (blk_set HC3.out (.int .u8 ck) (i := 0))
                  have hml : (c.m.map (Value.int .u8)).toArray.size = 16 := by rw [List.size_toArray, List.length_map, HC.out.l]
                  have HMO := Lib.hid (show ∀ v ∈ (c.m.map (Value.int .u8)).toArray.toList, v.oneCell' = true from fun v hv => by
                    simp only [List.mem_map] at hv
                    obtain ⟨_, _, rfl⟩ := hv
                    rfl)
                  have HIDK := Lib.hid (show k + 1 < q → (hat hs (k + 1)).id ≠ 0 from fun h => absurd h hmid)
                  have HWF := Lib.hid (show ((w3.setCell ⟨bk, 0, none⟩ (.int .u8 ck)).setRow bk (List.take 4 (rc.setIfInBounds 0 (.int .u8 ck)).toList ++ List.map (Value.int .u8) c.m ++ List.drop (4 + (List.map (Value.int .u8) c.m).toArray.size) (rc.setIfInBounds 0 (.int .u8 ck)).toList).toArray).heap[bk]? = some (.cells (pcmd c hs k).cells.toArray 68 (0, 0)) from by
                    rw [setRow_heap _ _ _ _ _ _ HB0.out, hml, HPC.out, ← HRC.out]
                    have e2 : List.drop (4 + 16) ((⟨1, fl, dl, 0, noMark⟩ : Cmd).cells.toArray.setIfInBounds 0 (.int .u8 ck)).toList = [] := rfl
                    rw [e2, List.append_nil]
                    rfl)
                  have HRG := Lib.hid (blk_range HWF.out)
                  have hgr := hgr0.trans (grown_setRow (w3.setCell ⟨bk, 0, none⟩ (.int .u8 ck)) bk (List.take 4 (rc.setIfInBounds 0 (.int .u8 ck)).toList ++ List.map (Value.int .u8) c.m ++ List.drop (4 + (List.map (Value.int .u8) c.m).toArray.size) (rc.setIfInBounds 0 (.int .u8 ck)).toList).toArray)
                  have HOF := Lib.hid (HO3.out.kept hgr HNK.out)
                  have HXF := Lib.hid (show ((w3.setCell ⟨bk, 0, none⟩ (.int .u8 ck)).setRow bk (List.take 4 (rc.setIfInBounds 0 (.int .u8 ck)).toList ++ List.map (Value.int .u8) c.m ++ List.drop (4 + (List.map (Value.int .u8) c.m).toArray.size) (rc.setIfInBounds 0 (.int .u8 ck)).toList).toArray).heap[b0]? = some (.cells cs 68 (0, 0)) from by rw [hgr.block b0 (Array.getElem?_eq_some_iff.1 HX3.out).1 (by simp; omega)]; exact HX3.out)
                  have HBF := Lib.hid (below_setRow (HB3.out.setCell (p := ⟨bk, 0, none⟩) (by show b0 ≤ bk; omega) (.int .u8 ck)) (show b0 ≤ bk by omega) (List.take 4 (rc.setIfInBounds 0 (.int .u8 ck)).toList ++ List.map (Value.int .u8) c.m ++ List.drop (4 + (List.map (Value.int .u8) c.m).toArray.size) (rc.setIfInBounds 0 (.int .u8 ck)).toList).toArray)
                  clear hgr hgr0 HWF
                  go_upto_region 23 with (first | (refine wl_load_mid rfl 66 (.tmp 101) rfl b0 4 rfl (c.m.map (Value.int .u8)) _ HMKR.out Try.underlying66 rfl HI16.out ?_) | (refine wl_store_blk rfl 66 (.tmp 103) (.tmp 102) rfl bk 4 (c.m.map (Value.int .u8)).toArray rfl rfl (rc.setIfInBounds 0 (.int .u8 ck)) 68 HB0.out (by rw [hml, Array.size_setIfInBounds, hrs]; decide) (by rw [hml]; kernel_rfl) HMO.out ?_))
                  have HPOK := Lib.hid (HCOK.out _ (List.mem_of_getElem? (HCI.out k hlt)))
                  have HIP := Lib.hid (show (Try.prog.info? 68).map (·.size) = some (pcmd c hs k).cells.length by rw [HPOK.out.size]; kernel_rfl)
                  have HONE := Lib.hid (cmd_one (pcmd c hs k))
                  have hp20 := HPOK.out.size
                  have HTK := Lib.hid (show cmdsV (cl.take (k + 1)) = cmdsV (cl.take k) ++ (pcmd c hs k).cells by
                    rw [List.take_succ_eq_append_getElem (by rw [HLEN.out]; exact hlt), cmdsV_append]
                    have e := HCI.out k hlt
                    rw [List.getElem?_eq_getElem (by rw [HLEN.out]; exact hlt)] at e
                    rw [Option.some.inj e]
                    simp [cmdsV])
                  obtain ⟨W6, hW6⟩ : ∃ W6, (w3.setCell ⟨bk, 0, none⟩ (.int .u8 ck)).setRow bk (List.take 4 (rc.setIfInBounds 0 (.int .u8 ck)).toList ++ List.map (Value.int .u8) c.m ++ List.drop (4 + (List.map (Value.int .u8) c.m).toArray.size) (rc.setIfInBounds 0 (.int .u8 ck)).toList).toArray = W6 := ⟨_, rfl⟩
                  have HRG6 := Lib.hid (show W6.rangeAt bk 0 (pcmd c hs k).cells from by rw [← hW6]; exact HRG.out)
                  have HO6 := Lib.hid (show W6.ownsRow (b0 + 1) 68 20 (.slice Ak k cx) k (cmdsV (cl.take k)) from by rw [← hW6]; exact HOF.out)
                  have HX6 := Lib.hid (show W6.heap[b0]? = some (.cells cs 68 (0, 0)) from by rw [← hW6]; exact HXF.out)
                  have HB6 := Lib.hid (show Below b0 w W6 from by rw [← hW6]; exact HBF.out)
                  have hz6 : b0 < W6.heap.size := (Array.getElem?_eq_some_iff.1 HX6.out).1
                  obtain ⟨pa, hpa⟩ : ∃ pa, (pcmd c hs k).cells.toArray = pa := ⟨_, rfl⟩
                  have HPA := Lib.hid hpa
                  have hps : pa.size = 20 := by rw [← hpa, List.size_toArray, hp20]
                  have hal6 := (Below.refl W6.heap.size W6).alloc (Nat.le_refl _) (.cells pa 68)
                  have HO7 := Lib.hid (own_later HO6.out hal6)
                  have HX7 := Lib.hid ((hal6.block b0 hz6).trans HX6.out)
                  have HB7 := Lib.hid (HB6.out.trans (hal6.mono (by omega)))
                  have HRD := Lib.hid (show Reads (W6.alloc (.cells pa 68)) (W6.heap.size + 1) 20 (some ⟨W6.heap.size, 0, none⟩) 1 (pcmd c hs k).cells from by
                    have h1 := Reads.lit W6 68 (pcmd c hs k).cells 1 20 (by rw [hp20]) _ rfl
                    rw [hpa] at h1
                    exact h1)
                  have hz7 : b0 + 1 ≤ (W6.alloc (.cells pa 68)).heap.size := by simp; omega
                  have HON := Lib.hid (show ∀ u ∈ (pcmd c hs k).cells, u.oneCell' = true from fun u hu => HONE.out u (by simpa using hu))
                  clear hpa hp20 hal6 HRG HOF HXF HBF HO6 HX6 HB6 HONE
                  rw [hW6]
                  clear hW6
                  go_wp2_with (first | (refine wl_load_mid rfl 68 (.tmp 9) rfl bk 0 rfl (pcmd c hs k).cells _ HRG6.out Try.underlying68 rfl HIP.out ?_; rw [HPA.out]) | (refine wl_bs1 TC rfl (.tmp 116) rfl pa rfl hps (by decide) ?_) | (at_builtin; refine wl_app TC rfl (.tmp 115) (.tmp 117) rfl (.slice Ak k cx) rfl (some ⟨W6.heap.size, 0, none⟩) 1 1 rfl (b0 + 1) k _ HO7.out (W6.heap.size + 1) (pcmd c hs k).cells HRD.out HON.out (by omega) (by omega) hz7 ?q6))
                  case q6 =>
                    intro A8 c8 w8 hown hgr _
                    have HO8 := Lib.hid hown
                    have HX8 := Lib.hid (show w8.heap[b0]? = some (.cells cs 68 (0, 0)) from by
                      rw [hgr.block b0 (by simp; omega) (fun e => HNB.out e.symm)]
                      exact HX7.out)
                    have HB8 := Lib.hid (HB7.out.grown hgr (by omega) (fun x hx => by have := (HO7.out.lt x hx).1; omega))
                    clear hown hgr HO7 HX7 HB7
                    go_wp2_with fail
                    refine ⟨⟨k + 1, A8, c8, by omega, by go_num, rfl, ?_, HX8.out, HB8.out, fun j hj hj1 => ?_⟩, by simp [intOf]; omega⟩
                    · rw [HTK.out]
                      exact HO8.out
                    · by_cases hjk : j < k
                      · exact HIDS.out j hjk hj1
                      · obtain rfl : j = k := by omega
                        exact HIDK.out hj1
              · obtain rfl : k = q := by omega
                have HF := Lib.hid (show cl.take k = cl from List.take_of_length_le (by rw [HLEN.out]; exact Nat.le_refl _))
                have hni : noId hs = false := noId_false.2 (fun t ht h0 => by
                  have h := HIDS.out (t - 1) (by rw [HL.out] at ht; omega) (by rw [HL.out] at ht; omega)
                  rw [show t - 1 + 1 = t by omega] at h
                  exact h)
                have E := Lib.hid (show pe = 0 by rw [HPE.out, hni, if_neg (by decide)])
                clear hni
                go_wp2_with fail
                go_ret2
                rw [E.out, HPL.out E.out]
                refine ⟨_, k, cx, rfl, HLEN.out, ?_, by rw [HGB.out]; exact HB.out⟩
                have h := HO.out
                rw [HF.out] at h
                rw [HGB.out]
                exact own_base h (by omega)
          | false =>
            have hsb : shapedB c = false := by rw [HSB.out, dx, dk, hmk]; rfl
            have e := HPE.out
            rw [if_pos hsb] at e
            have E := Lib.hid e
            clear e
            have HMK := Lib.hid (fun W => by have h := HMR.out W; rw [hmk] at h; exact h)
            clear hx hk4 hsb HSB HMR hmk
            go_wp2_with (refine wl_load_mid rfl 68 (.tmp 2) rfl w.heap.size 0 rfl c.cells _ HRX.out Try.underlying68 rfl HI.out ?_; rw [HCS.out])
            refine (HMK.out _).mono ?_
            rintro e9 w9 ⟨rfl, hb9⟩
            have HB9 := Lib.hid (HAL.out.trans (hb9.mono (by omega)))
            clear hb9
            go_wp2_with fail
            go_ret2
            exact HBADR.out 3 (by decide) E.out _ HB9.out
      · have dx : (c.x != 0) = true := by simp [hx]
        have hsb : shapedB c = false := by rw [HSB.out, dx]; rfl
        have e := HPE.out
        rw [if_pos hsb] at e
        have E := Lib.hid e
        clear e
        clear hx hsb
        go_wp2_with fail
        go_ret2
        exact HBADR.out 3 (by decide) E.out _ HAL.out
end Go.Proofs.Ytobmopjfbgkfbaa
