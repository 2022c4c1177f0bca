/-
  The parser's stmt, a law for each kind. No conditions.
-/
import Derived.Test.YtgmjpnnblhkbpaaDoorTyAM
namespace Go.Proofs.YtgmjpnnblhkbpaaDoor
open Go Go.RowKit Go.Sh Tx
open Go.Lib (hid)
theorem seen_mem {s : PS} {xs : List Bs} (h : sees s xs = true) : (pk s.1).text ∈ xs:=by
 unfold sees isT at h
 rw [Bool.and_eq_true,Bool.and_eq_true,List.contains_iff_mem] at h
 exact h.2.2
theorem StmtPost.of {p q b y z : Nat} {s s' : PS} {w w8 : World} {t : St} {c : SC} (hr : RunS b (.stmt s) [t] s') (hz : w.heap.size = z) (hT : StV (Fx z y w8) w8 [t] [c.cells]) (hP : Ps w8 p q s' b 0) (hp : p < z) (hK : Kx q p z w w8) :
   StmtPost p q b s w (.returned (.agg c.cells.toArray)) (w8.setRow z c.cells.toArray):=by
 have hb:=below_setRow (Below.refl z w8) (Nat.le_refl z) c.cells.toArray
 refine ⟨t,s',c.cells,hr,rfl,(hT.keep fun g hg=>setRow_other w8 z g _ (by have:=hg.1;omega)).mono fun g hg=>⟨by have:=hg.1;omega,Nat.lt_of_lt_of_le hg.2.1 hb.size⟩,hP.below hp hb,?_⟩
 rw [hz]
 exact hK.trans (Kx.of hb (Nat.le_refl _))
theorem SC.size (c : SC) : c.cells.toArray.size = 26:=rfl
set_option maxRecDepth 100000 in
theorem infoSt (c : SC) : (Tryd.prog.info? 64).map (·.size) = some c.cells.toArray.size:=by rw [SC.size];kernel_rfl
set_option maxRecDepth 100000 in
theorem SC.oneA (c : SC) : ∀ v ∈ c.cells.toArray.toList,v.oneCell' = true:=fun v hv=>SC.one c v (by simpa using hv)
theorem SC.loadRow {w : World} {z : Nat} {zc : Array Value} (c : SC) (h : w.heap[z]? = some (.cells zc 64 (0,0))) : (loadVar 64 ⟨z,0,none⟩).run Tryd.prog (w.setRow z c.cells.toArray) = .ok (.agg c.cells.toArray) (w.setRow z c.cells.toArray):=
 run_loadVar_mid (P:=Tryd.prog) _ z 0 64 c.cells _ (blk_range (setRow_heap w z _ _ _ _ h)) Tryd.underlying64 rfl (infoSt c)
theorem StV.zero {X : Nat → Prop} {w : World} : StV X w [St.zero] [SC.zero.cells]:=
 .cons rfl rfl (TrV.leaf .none rfl 0) (TrV.leaf .none rfl 0) (TrV.leaf .none rfl 0) ⟨.nil,RP.none_,Nat.le_refl _⟩ rfl rfl .nil ⟨RP.none_,Nat.le_refl _⟩ .nil ⟨RP.none_,Nat.le_refl _⟩ .nil
section
set_option maxHeartbeats 16000000
set_option maxRecDepth 100000
set_option maxRecDepth 100000 in
theorem stmt_bad (p q b n : Nat) (hbd : BodyOK p q n) (s : PS) (w : World) (hmu : mu s ≤ n) (hb12 : s.2 = 0 → b ≤ 12) (h : Ps w p q s b 0) (hse : sees s kinds = false) :
   Calls Tryd.prog 17 #[.pointer (some ⟨p,0,none⟩)] w (StmtPost p q b s w):=by
 have hp:=h.size
 have hqp:=h.lt
 have HBD:=hid hbd
 have HMU:=hid hmu
 have HB12:=hid hb12
 have HB1:=hid (show Below w.heap.size w (w.alloc (.cells zS 64)) from (Below.refl _ w).alloc (Nat.le_refl _) _)
 have HP1:=hid (h.below hp HB1.out)
 have HE1:=hid (show SB (w.alloc (.cells zS 64)) w.heap.size .zero from heap_alloc_new w _)
 have hs1 : (w.alloc (.cells zS 64)).heap.size = w.heap.size + 1:=Array.size_push _
 clear h hbd hmu hb12
 go_enter Tryd.func17,Tryd.ntmps17
 go_upto_region 1 with fail
 obtain ⟨z,hz⟩ : ∃ z,w.heap.size = z:=⟨_,rfl⟩
 have HZ:=hid hz
 rw [hz] at HB1 HE1 hs1 hp
 have HK1:=hid (show Kx q p z w _ from Kx.of HB1.out (Nat.le_refl _))
 rw [hz]
 have hz1 : z + 1 ≤ (w.alloc (.cells zS 64)).heap.size:=Nat.le_of_eq hs1.symm
 have hzq : z ≠ q:=by omega
 have hzp : z ≠ p:=by omega
 clear hz hs1 HB1
 generalize w.alloc (.cells zS 64) = w1 at *
 have ha2 : Below w1.heap.size w1 (w1.alloc (.cells kS 9)):=(Below.refl _ w1).alloc (Nat.le_refl _) _
 have hl2 : (w1.alloc (.cells kS 9)).heap.size = w1.heap.size + 1:=Array.size_push _
 have HSE:=hid (show Calls Tryd.prog 13 #[.pointer (some ⟨p,0,none⟩),.slice (some ⟨w1.heap.size,0,none⟩) 10 10] (w1.alloc (.cells kS 9)) (fun e w'=>e = .returned (.bool (sees s kinds)) ∧ Below (w1.alloc (.cells kS 9)).heap.size (w1.alloc (.cells kS 9)) w') from sees_any p q b 0 s (some ⟨w1.heap.size,0,none⟩) 10 kinds _ (HP1.out.below HP1.out.size ha2) (RS.new w1 kinds) (Nat.le_add_left 10 90))
 have HA2:=hid ha2
 clear ha2
 go_wp2_with fail
 refine HSE.out.mono ?_
 rintro e w2 ⟨rfl,hb2⟩
 have hb12:=HA2.out.trans (bl_least hb2 (by omega))
 have hk2 : Kx q p w1.heap.size w1 w2:=Kx.of hb12 (Nat.le_refl _)
 have HP2:=hid (HP1.out.below HP1.out.size hb12)
 have HE2:=hid (HE1.out.far (hk2.block z (by omega) hzq hzp))
 have HK2:=hid (HK1.out.trans (hk2.least (by omega)))
 have hz2 : z + 1 ≤ w2.heap.size:=Nat.le_trans hz1 hk2.size
 clear hb2 hb12 hk2 HA2 hl2 HSE HP1 HE1 HK1
 rw [hse]
 go_wp2_with fail
 refine (fail_any p q b 0 s 9 w2 HP2.out).mono ?_
 rintro e w3 ⟨rfl,hp3,hk3⟩
 have HP3:=hid hp3
 have HE3:=hid (HE2.out.far (hk3.block z (by omega) hzq hzp))
 have HK3:=hid (HK2.out.trans (hk3.least (by omega)))
 clear hp3 hk3
 go_wp2_with (refine wl_store_all (by rfl) 64 (.tmp 2) (.tmp 11) rfl z SC.zero.cells.toArray rfl rfl SC.zero.cells.toArray _ HE3.out rfl (infoSt _) (SC.oneA _) ?_)
 refine bodyPost_ret (v:=.agg SC.zero.cells.toArray) (results_c1 rfl _ _ _ ⟨z,0,none⟩ _ rfl (SC.loadRow _ HE3.out)) rfl ?_
 exact StmtPost.of (y:=z) (RunS.bad hse) HZ.out StV.zero HP3.out hp HK3.out
set_option maxRecDepth 100000 in
theorem stmt_send (p q b n : Nat) (hbd : BodyOK p q n) (s : PS) (w : World) (hmu : mu s ≤ n) (hb12 : s.2 = 0 → b ≤ 12) (h : Ps w p q s b 0) (hse : sees s kinds = true) (ht : (pk s.1).text = kSend) :
   Calls Tryd.prog 17 #[.pointer (some ⟨p,0,none⟩)] w (StmtPost p q b s w):=by
 have hp:=h.size
 have hqp:=h.lt
 have HBD:=hid hbd
 have HMU:=hid hmu
 have HB12:=hid hb12
 have HB1:=hid (show Below w.heap.size w (w.alloc (.cells zS 64)) from (Below.refl _ w).alloc (Nat.le_refl _) _)
 have HP1:=hid (h.below hp HB1.out)
 have HE1:=hid (show SB (w.alloc (.cells zS 64)) w.heap.size .zero from heap_alloc_new w _)
 have hs1 : (w.alloc (.cells zS 64)).heap.size = w.heap.size + 1:=Array.size_push _
 clear h hbd hmu hb12
 go_enter Tryd.func17,Tryd.ntmps17
 go_upto_region 1 with fail
 obtain ⟨z,hz⟩ : ∃ z,w.heap.size = z:=⟨_,rfl⟩
 have HZ:=hid hz
 rw [hz] at HB1 HE1 hs1 hp
 have HK1:=hid (show Kx q p z w _ from Kx.of HB1.out (Nat.le_refl _))
 rw [hz]
 have hz1 : z + 1 ≤ (w.alloc (.cells zS 64)).heap.size:=Nat.le_of_eq hs1.symm
 have hzq : z ≠ q:=by omega
 have hzp : z ≠ p:=by omega
 clear hz hs1 HB1
 generalize w.alloc (.cells zS 64) = w1 at *
 have ha2 : Below w1.heap.size w1 (w1.alloc (.cells kS 9)):=(Below.refl _ w1).alloc (Nat.le_refl _) _
 have hl2 : (w1.alloc (.cells kS 9)).heap.size = w1.heap.size + 1:=Array.size_push _
 have HSE:=hid (show Calls Tryd.prog 13 #[.pointer (some ⟨p,0,none⟩),.slice (some ⟨w1.heap.size,0,none⟩) 10 10] (w1.alloc (.cells kS 9)) (fun e w'=>e = .returned (.bool (sees s kinds)) ∧ Below (w1.alloc (.cells kS 9)).heap.size (w1.alloc (.cells kS 9)) w') from sees_any p q b 0 s (some ⟨w1.heap.size,0,none⟩) 10 kinds _ (HP1.out.below HP1.out.size ha2) (RS.new w1 kinds) (Nat.le_add_left 10 90))
 have HA2:=hid ha2
 clear ha2
 go_wp2_with fail
 refine HSE.out.mono ?_
 rintro e w2 ⟨rfl,hb2⟩
 have hb12:=HA2.out.trans (bl_least hb2 (by omega))
 have hk2 : Kx q p w1.heap.size w1 w2:=Kx.of hb12 (Nat.le_refl _)
 have HP2:=hid (HP1.out.below HP1.out.size hb12)
 have HE2:=hid (HE1.out.far (hk2.block z (by omega) hzq hzp))
 have HK2:=hid (HK1.out.trans (hk2.least (by omega)))
 have hz2 : z + 1 ≤ w2.heap.size:=Nat.le_trans hz1 hk2.size
 clear hb2 hb12 hk2 HA2 hl2 HSE HP1 HE1 HK1
 rw [hse]
 have c0:=HP2.out.c0
 have HNX:=hid (Next_any q s.1 w2 HP2.out.stm)
 rw [ht,show sb kSend = ⟨#[115,101,110,100]⟩ from rfl] at HNX
 generalize (pk s.1).kind = k1 at *
 generalize (pk s.1).num = m1 at *
 go_wp2_with fail
 as_aux_lemma=>
   refine HNX.out.mono ?_
   rintro e w3 ⟨⟨a3,rfl⟩,hs3,hq3⟩
   have HP3:=hid (show Ps w3 p q (nx s) b 0 from HP2.out.moved hs3 hq3 HP2.out.size)
   have hk3 : Kx q p w2.heap.size w2 w3:=hq3.wide (.inl rfl) (.inl rfl)
   have HE3:=hid (HE2.out.far (hk3.block z (by omega) hzq hzp))
   have HK3:=hid (HK2.out.trans (hk3.least (by omega)))
   have hz3 : z + 1 ≤ w3.heap.size:=Nat.le_trans hz2 hk3.size
   clear hs3 hq3 hk3 HNX c0 HP2 HE2 HK2
   go_upto_region 5 with fail
   as_aux_lemma=>
     have ha4 : Below w3.heap.size w3 (w3.alloc (.cells #[.int .i64 k1,.string ⟨#[115,101,110,100]⟩,.int .i64 m1,.int .i64 a3] 73)):=(Below.refl _ w3).alloc (Nat.le_refl _) _
     have hy4 : (w3.alloc (.cells #[.int .i64 k1,.string ⟨#[115,101,110,100]⟩,.int .i64 m1,.int .i64 a3] 73)).heap[w3.heap.size]? = some (.cells #[.int .i64 k1,.string ⟨#[115,101,110,100]⟩,.int .i64 m1,.int .i64 a3] 73 (0,0)):=heap_alloc_new w3 _
     have y1 : (w3.alloc (.cells #[.int .i64 k1,.string ⟨#[115,101,110,100]⟩,.int .i64 m1,.int .i64 a3] 73)).cell? ⟨w3.heap.size,1,none⟩ = some (.string ⟨#[115,101,110,100]⟩):=blk_cell hy4
     have y3 : (w3.alloc (.cells #[.int .i64 k1,.string ⟨#[115,101,110,100]⟩,.int .i64 m1,.int .i64 a3] 73)).cell? ⟨w3.heap.size,3,none⟩ = some (.int .i64 a3):=blk_cell hy4
     have HP4:=hid (HP3.out.below HP3.out.size ha4)
     have HE4:=hid (HE3.out.far (ha4.block z (by omega)))
     have HK4:=hid (HK3.out.trans (Kx.of ha4 (by omega)))
     have hz4 : z + 1 ≤ (w3.alloc (.cells #[.int .i64 k1,.string ⟨#[115,101,110,100]⟩,.int .i64 m1,.int .i64 a3] 73)).heap.size:=Nat.le_trans hz3 ha4.size
     clear ha4 hy4 HP3 HE3 HK3
     generalize w3.alloc (.cells #[.int .i64 k1,.string ⟨#[115,101,110,100]⟩,.int .i64 m1,.int .i64 a3] 73) = w4 at *
     obtain ⟨X,hX⟩ : ∃ X : Array Value,(SC.start kSend a3).cells.toArray = X:=⟨_,rfl⟩
     have HBT:=hid (show Tryd.prog.built 64 [(0,.string ⟨#[115,101,110,100]⟩),(1,.int .i64 a3)] = some X by rw [← hX];kernel_rfl)
     have HXS:=hid (show X.size = SC.zero.cells.toArray.size by rw [← hX];rfl)
     have HXI:=hid (show (Tryd.prog.info? 64).map (·.size) = some X.size by rw [← hX];exact infoSt _)
     have HX1:=hid (show ∀ v ∈ X.toList,v.oneCell' = true by rw [← hX];exact SC.oneA _)
     have HX:=hid hX
     clear hX
     go_upto_region 6 with (first | (refine wl_lit (by rfl) 64 [(0,.tmp 18),(1,.tmp 20)] rfl [(0,.string ⟨#[115,101,110,100]⟩),(1,.int .i64 a3)] rfl X HBT.out ?_) | (refine wl_store_all (by rfl) 64 (.tmp 4) (.tmp 21) rfl w4.heap.size X rfl rfl SC.zero.cells.toArray _ (heap_alloc_new w4 _) HXS.out HXI.out HX1.out ?_))
     as_aux_lemma=>
       rw [alloc_setRow]
       have ha5 : Below w4.heap.size w4 (w4.alloc (.cells X 64)):=(Below.refl _ w4).alloc (Nat.le_refl _) _
       have hl5 : (w4.alloc (.cells X 64)).heap.size = w4.heap.size + 1:=Array.size_push _
       have HY5:=hid (show SB (w4.alloc (.cells X 64)) w4.heap.size (SC.start kSend a3) by rw [← HX.out];exact heap_alloc_new w4 _)
       have HP5:=hid (HP4.out.below HP4.out.size ha5)
       have HE5:=hid (HE4.out.far (ha5.block z (by omega)))
       have HK5:=hid (HK4.out.trans (Kx.of ha5 (by omega)))
       clear ha5 y1 y3 HP4 HE4 HK4 HBT HXS HXI HX1 HX
       obtain ⟨y,hy⟩ : ∃ y,w4.heap.size = y:=⟨_,rfl⟩
       rw [hy] at HY5 hl5 hz4 ⊢
       generalize w4.alloc (.cells X 64) = w5 at *
       clear hy
       have hy5 : y + 1 ≤ w5.heap.size:=Nat.le_of_eq hl5.symm
       have k0 : w5.cell? ⟨y,0,none⟩ = some (.string ⟨#[115,101,110,100]⟩):=HY5.out.cell 0
       clear hl5
       go_wp2_with fail
       as_aux_lemma=>
         refine (line_send p q b y a3 (nx s) w5 HP5.out HY5.out (by omega)).mono ?_
         rintro e w6 ⟨t,s',c,hL,rfl,hy6,hst6,hp6,hk6,hs6⟩
         have HY6:=hid hy6
         have HT6:=hid hst6
         have HP6:=hid hp6
         have HE6:=hid (HE5.out.far (hk6.block z (by omega) hzq hzp))
         have HK6:=hid (HK5.out.trans (hk6.least (by omega)))
         have HL:=hid hL
         clear hy6 hst6 hp6 hk6 HY5 HP5 HE5 HK5 k0 hL
         go_wp2_with fail
         as_aux_lemma=>
           refine (show Calls Tryd.prog 32 #[.pointer (some ⟨p,0,none⟩),.string ⟨#[59]⟩] w6 _ from take_any p q b 0 s' kSemi w6 HP6.out).mono ?_
           rintro e w7 ⟨rfl,hp7,hk7⟩
           have HP7:=hid hp7
           have HY7:=hid (HY6.out.far (hk7.block y (by omega) (by omega) (by omega)))
           have HE7:=hid (HE6.out.far (hk7.block z (by omega) hzq hzp))
           have HK7:=hid (HK6.out.trans (hk7.least (by omega)))
           have HT7:=hid ((HT6.out.keep fun g hg=>hk7.block g hg.2 (by have:=hg.1;omega) (by have:=hg.1;omega)).mono fun g hg=>Fr.fx (z:=z) (y:=y) (w2:=w7) hg (by omega) (.inl (by omega)) hk7.size)
           clear hp7 hk7 HP6 HY6 HE6 HK6 HT6
           obtain ⟨X,hX⟩ : ∃ X : List Value,SC.cells c = X:=⟨_,rfl⟩
           have HX:=hid hX
           have hXs : X.toArray.size = 26:=by rw [← hX];rfl
           have hrx : w7.rangeAt y 0 X:=by rw [← hX];exact blk_range HY7.out
           have hi1:=hid (show (Tryd.prog.info? 64).map (·.size) = some X.length by rw [← hX];exact infoSt c)
           have hi2:=hid (show (Tryd.prog.info? 64).map (·.size) = some X.toArray.size by rw [← hX];exact infoSt c)
           have hx1:=hid (show ∀ v ∈ X.toArray.toList,v.oneCell' = true by rw [← hX];exact SC.oneA c)
           clear hX
           go_wp2_with (first | (refine wl_load_mid (by rfl) 64 (.tmp 4) rfl y 0 rfl X _ hrx Tryd.underlying64 rfl hi1.out ?_) | (refine wl_store_all (by rfl) 64 (.tmp 2) (.tmp 62) rfl z X.toArray rfl rfl SC.zero.cells.toArray _ HE7.out hXs hi2.out hx1.out ?_))
           have hres : StmtPost p q b s w (.returned (.agg X.toArray)) (w7.setRow z X.toArray):=by
             rw [← HX.out]
             exact StmtPost.of (y:=y) (RunS.line hse (by rw [ht];decide) (by rw [ht];decide) (by rw [ht];decide) (by rw [ht];exact HL.out)) HZ.out HT7.out HP7.out hp HK7.out
           refine bodyPost_ret (v:=.agg X.toArray) (results_c1 rfl _ _ _ ⟨z,0,none⟩ _ rfl (by have:=SC.loadRow c HE7.out;rw [HX.out] at this;exact this)) rfl ?_
           exact hres
set_option maxRecDepth 100000 in
theorem stmt_split (p q b n : Nat) (hbd : BodyOK p q n) (s : PS) (w : World) (hmu : mu s ≤ n) (hb12 : s.2 = 0 → b ≤ 12) (h : Ps w p q s b 0) (hse : sees s kinds = true) (ht : (pk s.1).text = kSplit) :
   Calls Tryd.prog 17 #[.pointer (some ⟨p,0,none⟩)] w (StmtPost p q b s w):=by
 have hp:=h.size
 have hqp:=h.lt
 have HBD:=hid hbd
 have HMU:=hid hmu
 have HB12:=hid hb12
 have HB1:=hid (show Below w.heap.size w (w.alloc (.cells zS 64)) from (Below.refl _ w).alloc (Nat.le_refl _) _)
 have HP1:=hid (h.below hp HB1.out)
 have HE1:=hid (show SB (w.alloc (.cells zS 64)) w.heap.size .zero from heap_alloc_new w _)
 have hs1 : (w.alloc (.cells zS 64)).heap.size = w.heap.size + 1:=Array.size_push _
 clear h hbd hmu hb12
 go_enter Tryd.func17,Tryd.ntmps17
 go_upto_region 1 with fail
 obtain ⟨z,hz⟩ : ∃ z,w.heap.size = z:=⟨_,rfl⟩
 have HZ:=hid hz
 rw [hz] at HB1 HE1 hs1 hp
 have HK1:=hid (show Kx q p z w _ from Kx.of HB1.out (Nat.le_refl _))
 rw [hz]
 have hz1 : z + 1 ≤ (w.alloc (.cells zS 64)).heap.size:=Nat.le_of_eq hs1.symm
 have hzq : z ≠ q:=by omega
 have hzp : z ≠ p:=by omega
 clear hz hs1 HB1
 generalize w.alloc (.cells zS 64) = w1 at *
 have ha2 : Below w1.heap.size w1 (w1.alloc (.cells kS 9)):=(Below.refl _ w1).alloc (Nat.le_refl _) _
 have hl2 : (w1.alloc (.cells kS 9)).heap.size = w1.heap.size + 1:=Array.size_push _
 have HSE:=hid (show Calls Tryd.prog 13 #[.pointer (some ⟨p,0,none⟩),.slice (some ⟨w1.heap.size,0,none⟩) 10 10] (w1.alloc (.cells kS 9)) (fun e w'=>e = .returned (.bool (sees s kinds)) ∧ Below (w1.alloc (.cells kS 9)).heap.size (w1.alloc (.cells kS 9)) w') from sees_any p q b 0 s (some ⟨w1.heap.size,0,none⟩) 10 kinds _ (HP1.out.below HP1.out.size ha2) (RS.new w1 kinds) (Nat.le_add_left 10 90))
 have HA2:=hid ha2
 clear ha2
 go_wp2_with fail
 refine HSE.out.mono ?_
 rintro e w2 ⟨rfl,hb2⟩
 have hb12:=HA2.out.trans (bl_least hb2 (by omega))
 have hk2 : Kx q p w1.heap.size w1 w2:=Kx.of hb12 (Nat.le_refl _)
 have HP2:=hid (HP1.out.below HP1.out.size hb12)
 have HE2:=hid (HE1.out.far (hk2.block z (by omega) hzq hzp))
 have HK2:=hid (HK1.out.trans (hk2.least (by omega)))
 have hz2 : z + 1 ≤ w2.heap.size:=Nat.le_trans hz1 hk2.size
 clear hb2 hb12 hk2 HA2 hl2 HSE HP1 HE1 HK1
 rw [hse]
 have c0:=HP2.out.c0
 have HNX:=hid (Next_any q s.1 w2 HP2.out.stm)
 rw [ht,show sb kSplit = ⟨#[115,112,108,105,116]⟩ from rfl] at HNX
 generalize (pk s.1).kind = k1 at *
 generalize (pk s.1).num = m1 at *
 go_wp2_with fail
 as_aux_lemma=>
   refine HNX.out.mono ?_
   rintro e w3 ⟨⟨a3,rfl⟩,hs3,hq3⟩
   have HP3:=hid (show Ps w3 p q (nx s) b 0 from HP2.out.moved hs3 hq3 HP2.out.size)
   have hk3 : Kx q p w2.heap.size w2 w3:=hq3.wide (.inl rfl) (.inl rfl)
   have HE3:=hid (HE2.out.far (hk3.block z (by omega) hzq hzp))
   have HK3:=hid (HK2.out.trans (hk3.least (by omega)))
   have hz3 : z + 1 ≤ w3.heap.size:=Nat.le_trans hz2 hk3.size
   clear hs3 hq3 hk3 HNX c0 HP2 HE2 HK2
   go_upto_region 5 with fail
   as_aux_lemma=>
     have ha4 : Below w3.heap.size w3 (w3.alloc (.cells #[.int .i64 k1,.string ⟨#[115,112,108,105,116]⟩,.int .i64 m1,.int .i64 a3] 73)):=(Below.refl _ w3).alloc (Nat.le_refl _) _
     have hy4 : (w3.alloc (.cells #[.int .i64 k1,.string ⟨#[115,112,108,105,116]⟩,.int .i64 m1,.int .i64 a3] 73)).heap[w3.heap.size]? = some (.cells #[.int .i64 k1,.string ⟨#[115,112,108,105,116]⟩,.int .i64 m1,.int .i64 a3] 73 (0,0)):=heap_alloc_new w3 _
     have y1 : (w3.alloc (.cells #[.int .i64 k1,.string ⟨#[115,112,108,105,116]⟩,.int .i64 m1,.int .i64 a3] 73)).cell? ⟨w3.heap.size,1,none⟩ = some (.string ⟨#[115,112,108,105,116]⟩):=blk_cell hy4
     have y3 : (w3.alloc (.cells #[.int .i64 k1,.string ⟨#[115,112,108,105,116]⟩,.int .i64 m1,.int .i64 a3] 73)).cell? ⟨w3.heap.size,3,none⟩ = some (.int .i64 a3):=blk_cell hy4
     have HP4:=hid (HP3.out.below HP3.out.size ha4)
     have HE4:=hid (HE3.out.far (ha4.block z (by omega)))
     have HK4:=hid (HK3.out.trans (Kx.of ha4 (by omega)))
     have hz4 : z + 1 ≤ (w3.alloc (.cells #[.int .i64 k1,.string ⟨#[115,112,108,105,116]⟩,.int .i64 m1,.int .i64 a3] 73)).heap.size:=Nat.le_trans hz3 ha4.size
     clear ha4 hy4 HP3 HE3 HK3
     generalize w3.alloc (.cells #[.int .i64 k1,.string ⟨#[115,112,108,105,116]⟩,.int .i64 m1,.int .i64 a3] 73) = w4 at *
     obtain ⟨X,hX⟩ : ∃ X : Array Value,(SC.start kSplit a3).cells.toArray = X:=⟨_,rfl⟩
     have HBT:=hid (show Tryd.prog.built 64 [(0,.string ⟨#[115,112,108,105,116]⟩),(1,.int .i64 a3)] = some X by rw [← hX];kernel_rfl)
     have HXS:=hid (show X.size = SC.zero.cells.toArray.size by rw [← hX];rfl)
     have HXI:=hid (show (Tryd.prog.info? 64).map (·.size) = some X.size by rw [← hX];exact infoSt _)
     have HX1:=hid (show ∀ v ∈ X.toList,v.oneCell' = true by rw [← hX];exact SC.oneA _)
     have HX:=hid hX
     clear hX
     go_upto_region 6 with (first | (refine wl_lit (by rfl) 64 [(0,.tmp 18),(1,.tmp 20)] rfl [(0,.string ⟨#[115,112,108,105,116]⟩),(1,.int .i64 a3)] rfl X HBT.out ?_) | (refine wl_store_all (by rfl) 64 (.tmp 4) (.tmp 21) rfl w4.heap.size X rfl rfl SC.zero.cells.toArray _ (heap_alloc_new w4 _) HXS.out HXI.out HX1.out ?_))
     as_aux_lemma=>
       rw [alloc_setRow]
       have ha5 : Below w4.heap.size w4 (w4.alloc (.cells X 64)):=(Below.refl _ w4).alloc (Nat.le_refl _) _
       have hl5 : (w4.alloc (.cells X 64)).heap.size = w4.heap.size + 1:=Array.size_push _
       have HY5:=hid (show SB (w4.alloc (.cells X 64)) w4.heap.size (SC.start kSplit a3) by rw [← HX.out];exact heap_alloc_new w4 _)
       have HP5:=hid (HP4.out.below HP4.out.size ha5)
       have HE5:=hid (HE4.out.far (ha5.block z (by omega)))
       have HK5:=hid (HK4.out.trans (Kx.of ha5 (by omega)))
       clear ha5 y1 y3 HP4 HE4 HK4 HBT HXS HXI HX1 HX
       obtain ⟨y,hy⟩ : ∃ y,w4.heap.size = y:=⟨_,rfl⟩
       rw [hy] at HY5 hl5 hz4 ⊢
       generalize w4.alloc (.cells X 64) = w5 at *
       clear hy
       have hy5 : y + 1 ≤ w5.heap.size:=Nat.le_of_eq hl5.symm
       have k0 : w5.cell? ⟨y,0,none⟩ = some (.string ⟨#[115,112,108,105,116]⟩):=HY5.out.cell 0
       clear hl5
       go_wp2_with fail
       as_aux_lemma=>
         refine (line_split p q b y a3 (nx s) w5 HP5.out HY5.out (by omega)).mono ?_
         rintro e w6 ⟨t,s',c,hL,rfl,hy6,hst6,hp6,hk6,hs6⟩
         have HY6:=hid hy6
         have HT6:=hid hst6
         have HP6:=hid hp6
         have HE6:=hid (HE5.out.far (hk6.block z (by omega) hzq hzp))
         have HK6:=hid (HK5.out.trans (hk6.least (by omega)))
         have HL:=hid hL
         clear hy6 hst6 hp6 hk6 HY5 HP5 HE5 HK5 k0 hL
         go_wp2_with fail
         as_aux_lemma=>
           refine (show Calls Tryd.prog 32 #[.pointer (some ⟨p,0,none⟩),.string ⟨#[59]⟩] w6 _ from take_any p q b 0 s' kSemi w6 HP6.out).mono ?_
           rintro e w7 ⟨rfl,hp7,hk7⟩
           have HP7:=hid hp7
           have HY7:=hid (HY6.out.far (hk7.block y (by omega) (by omega) (by omega)))
           have HE7:=hid (HE6.out.far (hk7.block z (by omega) hzq hzp))
           have HK7:=hid (HK6.out.trans (hk7.least (by omega)))
           have HT7:=hid ((HT6.out.keep fun g hg=>hk7.block g hg.2 (by have:=hg.1;omega) (by have:=hg.1;omega)).mono fun g hg=>Fr.fx (z:=z) (y:=y) (w2:=w7) hg (by omega) (.inl (by omega)) hk7.size)
           clear hp7 hk7 HP6 HY6 HE6 HK6 HT6
           obtain ⟨X,hX⟩ : ∃ X : List Value,SC.cells c = X:=⟨_,rfl⟩
           have HX:=hid hX
           have hXs : X.toArray.size = 26:=by rw [← hX];rfl
           have hrx : w7.rangeAt y 0 X:=by rw [← hX];exact blk_range HY7.out
           have hi1:=hid (show (Tryd.prog.info? 64).map (·.size) = some X.length by rw [← hX];exact infoSt c)
           have hi2:=hid (show (Tryd.prog.info? 64).map (·.size) = some X.toArray.size by rw [← hX];exact infoSt c)
           have hx1:=hid (show ∀ v ∈ X.toArray.toList,v.oneCell' = true by rw [← hX];exact SC.oneA c)
           clear hX
           go_wp2_with (first | (refine wl_load_mid (by rfl) 64 (.tmp 4) rfl y 0 rfl X _ hrx Tryd.underlying64 rfl hi1.out ?_) | (refine wl_store_all (by rfl) 64 (.tmp 2) (.tmp 62) rfl z X.toArray rfl rfl SC.zero.cells.toArray _ HE7.out hXs hi2.out hx1.out ?_))
           have hres : StmtPost p q b s w (.returned (.agg X.toArray)) (w7.setRow z X.toArray):=by
             rw [← HX.out]
             exact StmtPost.of (y:=y) (RunS.line hse (by rw [ht];decide) (by rw [ht];decide) (by rw [ht];decide) (by rw [ht];exact HL.out)) HZ.out HT7.out HP7.out hp HK7.out
           refine bodyPost_ret (v:=.agg X.toArray) (results_c1 rfl _ _ _ ⟨z,0,none⟩ _ rfl (by have:=SC.loadRow c HE7.out;rw [HX.out] at this;exact this)) rfl ?_
           exact hres
set_option maxRecDepth 100000 in
theorem stmt_cover (p q b n : Nat) (hbd : BodyOK p q n) (s : PS) (w : World) (hmu : mu s ≤ n) (hb12 : s.2 = 0 → b ≤ 12) (h : Ps w p q s b 0) (hse : sees s kinds = true) (ht : (pk s.1).text = kCover) :
   Calls Tryd.prog 17 #[.pointer (some ⟨p,0,none⟩)] w (StmtPost p q b s w):=by
 have hp:=h.size
 have hqp:=h.lt
 have HBD:=hid hbd
 have HMU:=hid hmu
 have HB12:=hid hb12
 have HB1:=hid (show Below w.heap.size w (w.alloc (.cells zS 64)) from (Below.refl _ w).alloc (Nat.le_refl _) _)
 have HP1:=hid (h.below hp HB1.out)
 have HE1:=hid (show SB (w.alloc (.cells zS 64)) w.heap.size .zero from heap_alloc_new w _)
 have hs1 : (w.alloc (.cells zS 64)).heap.size = w.heap.size + 1:=Array.size_push _
 clear h hbd hmu hb12
 go_enter Tryd.func17,Tryd.ntmps17
 go_upto_region 1 with fail
 obtain ⟨z,hz⟩ : ∃ z,w.heap.size = z:=⟨_,rfl⟩
 have HZ:=hid hz
 rw [hz] at HB1 HE1 hs1 hp
 have HK1:=hid (show Kx q p z w _ from Kx.of HB1.out (Nat.le_refl _))
 rw [hz]
 have hz1 : z + 1 ≤ (w.alloc (.cells zS 64)).heap.size:=Nat.le_of_eq hs1.symm
 have hzq : z ≠ q:=by omega
 have hzp : z ≠ p:=by omega
 clear hz hs1 HB1
 generalize w.alloc (.cells zS 64) = w1 at *
 have ha2 : Below w1.heap.size w1 (w1.alloc (.cells kS 9)):=(Below.refl _ w1).alloc (Nat.le_refl _) _
 have hl2 : (w1.alloc (.cells kS 9)).heap.size = w1.heap.size + 1:=Array.size_push _
 have HSE:=hid (show Calls Tryd.prog 13 #[.pointer (some ⟨p,0,none⟩),.slice (some ⟨w1.heap.size,0,none⟩) 10 10] (w1.alloc (.cells kS 9)) (fun e w'=>e = .returned (.bool (sees s kinds)) ∧ Below (w1.alloc (.cells kS 9)).heap.size (w1.alloc (.cells kS 9)) w') from sees_any p q b 0 s (some ⟨w1.heap.size,0,none⟩) 10 kinds _ (HP1.out.below HP1.out.size ha2) (RS.new w1 kinds) (Nat.le_add_left 10 90))
 have HA2:=hid ha2
 clear ha2
 go_wp2_with fail
 refine HSE.out.mono ?_
 rintro e w2 ⟨rfl,hb2⟩
 have hb12:=HA2.out.trans (bl_least hb2 (by omega))
 have hk2 : Kx q p w1.heap.size w1 w2:=Kx.of hb12 (Nat.le_refl _)
 have HP2:=hid (HP1.out.below HP1.out.size hb12)
 have HE2:=hid (HE1.out.far (hk2.block z (by omega) hzq hzp))
 have HK2:=hid (HK1.out.trans (hk2.least (by omega)))
 have hz2 : z + 1 ≤ w2.heap.size:=Nat.le_trans hz1 hk2.size
 clear hb2 hb12 hk2 HA2 hl2 HSE HP1 HE1 HK1
 rw [hse]
 have c0:=HP2.out.c0
 have HNX:=hid (Next_any q s.1 w2 HP2.out.stm)
 rw [ht,show sb kCover = ⟨#[99,111,118,101,114]⟩ from rfl] at HNX
 generalize (pk s.1).kind = k1 at *
 generalize (pk s.1).num = m1 at *
 go_wp2_with fail
 as_aux_lemma=>
   refine HNX.out.mono ?_
   rintro e w3 ⟨⟨a3,rfl⟩,hs3,hq3⟩
   have HP3:=hid (show Ps w3 p q (nx s) b 0 from HP2.out.moved hs3 hq3 HP2.out.size)
   have hk3 : Kx q p w2.heap.size w2 w3:=hq3.wide (.inl rfl) (.inl rfl)
   have HE3:=hid (HE2.out.far (hk3.block z (by omega) hzq hzp))
   have HK3:=hid (HK2.out.trans (hk3.least (by omega)))
   have hz3 : z + 1 ≤ w3.heap.size:=Nat.le_trans hz2 hk3.size
   clear hs3 hq3 hk3 HNX c0 HP2 HE2 HK2
   go_upto_region 5 with fail
   as_aux_lemma=>
     have ha4 : Below w3.heap.size w3 (w3.alloc (.cells #[.int .i64 k1,.string ⟨#[99,111,118,101,114]⟩,.int .i64 m1,.int .i64 a3] 73)):=(Below.refl _ w3).alloc (Nat.le_refl _) _
     have hy4 : (w3.alloc (.cells #[.int .i64 k1,.string ⟨#[99,111,118,101,114]⟩,.int .i64 m1,.int .i64 a3] 73)).heap[w3.heap.size]? = some (.cells #[.int .i64 k1,.string ⟨#[99,111,118,101,114]⟩,.int .i64 m1,.int .i64 a3] 73 (0,0)):=heap_alloc_new w3 _
     have y1 : (w3.alloc (.cells #[.int .i64 k1,.string ⟨#[99,111,118,101,114]⟩,.int .i64 m1,.int .i64 a3] 73)).cell? ⟨w3.heap.size,1,none⟩ = some (.string ⟨#[99,111,118,101,114]⟩):=blk_cell hy4
     have y3 : (w3.alloc (.cells #[.int .i64 k1,.string ⟨#[99,111,118,101,114]⟩,.int .i64 m1,.int .i64 a3] 73)).cell? ⟨w3.heap.size,3,none⟩ = some (.int .i64 a3):=blk_cell hy4
     have HP4:=hid (HP3.out.below HP3.out.size ha4)
     have HE4:=hid (HE3.out.far (ha4.block z (by omega)))
     have HK4:=hid (HK3.out.trans (Kx.of ha4 (by omega)))
     have hz4 : z + 1 ≤ (w3.alloc (.cells #[.int .i64 k1,.string ⟨#[99,111,118,101,114]⟩,.int .i64 m1,.int .i64 a3] 73)).heap.size:=Nat.le_trans hz3 ha4.size
     clear ha4 hy4 HP3 HE3 HK3
     generalize w3.alloc (.cells #[.int .i64 k1,.string ⟨#[99,111,118,101,114]⟩,.int .i64 m1,.int .i64 a3] 73) = w4 at *
     obtain ⟨X,hX⟩ : ∃ X : Array Value,(SC.start kCover a3).cells.toArray = X:=⟨_,rfl⟩
     have HBT:=hid (show Tryd.prog.built 64 [(0,.string ⟨#[99,111,118,101,114]⟩),(1,.int .i64 a3)] = some X by rw [← hX];kernel_rfl)
     have HXS:=hid (show X.size = SC.zero.cells.toArray.size by rw [← hX];rfl)
     have HXI:=hid (show (Tryd.prog.info? 64).map (·.size) = some X.size by rw [← hX];exact infoSt _)
     have HX1:=hid (show ∀ v ∈ X.toList,v.oneCell' = true by rw [← hX];exact SC.oneA _)
     have HX:=hid hX
     clear hX
     go_upto_region 6 with (first | (refine wl_lit (by rfl) 64 [(0,.tmp 18),(1,.tmp 20)] rfl [(0,.string ⟨#[99,111,118,101,114]⟩),(1,.int .i64 a3)] rfl X HBT.out ?_) | (refine wl_store_all (by rfl) 64 (.tmp 4) (.tmp 21) rfl w4.heap.size X rfl rfl SC.zero.cells.toArray _ (heap_alloc_new w4 _) HXS.out HXI.out HX1.out ?_))
     as_aux_lemma=>
       rw [alloc_setRow]
       have ha5 : Below w4.heap.size w4 (w4.alloc (.cells X 64)):=(Below.refl _ w4).alloc (Nat.le_refl _) _
       have hl5 : (w4.alloc (.cells X 64)).heap.size = w4.heap.size + 1:=Array.size_push _
       have HY5:=hid (show SB (w4.alloc (.cells X 64)) w4.heap.size (SC.start kCover a3) by rw [← HX.out];exact heap_alloc_new w4 _)
       have HP5:=hid (HP4.out.below HP4.out.size ha5)
       have HE5:=hid (HE4.out.far (ha5.block z (by omega)))
       have HK5:=hid (HK4.out.trans (Kx.of ha5 (by omega)))
       clear ha5 y1 y3 HP4 HE4 HK4 HBT HXS HXI HX1 HX
       obtain ⟨y,hy⟩ : ∃ y,w4.heap.size = y:=⟨_,rfl⟩
       rw [hy] at HY5 hl5 hz4 ⊢
       generalize w4.alloc (.cells X 64) = w5 at *
       clear hy
       have hy5 : y + 1 ≤ w5.heap.size:=Nat.le_of_eq hl5.symm
       have k0 : w5.cell? ⟨y,0,none⟩ = some (.string ⟨#[99,111,118,101,114]⟩):=HY5.out.cell 0
       clear hl5
       go_wp2_with fail
       as_aux_lemma=>
         refine (line_cover p q b y a3 (nx s) w5 HP5.out HY5.out (by omega)).mono ?_
         rintro e w6 ⟨t,s',c,hL,rfl,hy6,hst6,hp6,hk6,hs6⟩
         have HY6:=hid hy6
         have HT6:=hid hst6
         have HP6:=hid hp6
         have HE6:=hid (HE5.out.far (hk6.block z (by omega) hzq hzp))
         have HK6:=hid (HK5.out.trans (hk6.least (by omega)))
         have HL:=hid hL
         clear hy6 hst6 hp6 hk6 HY5 HP5 HE5 HK5 k0 hL
         go_wp2_with fail
         as_aux_lemma=>
           refine (show Calls Tryd.prog 32 #[.pointer (some ⟨p,0,none⟩),.string ⟨#[59]⟩] w6 _ from take_any p q b 0 s' kSemi w6 HP6.out).mono ?_
           rintro e w7 ⟨rfl,hp7,hk7⟩
           have HP7:=hid hp7
           have HY7:=hid (HY6.out.far (hk7.block y (by omega) (by omega) (by omega)))
           have HE7:=hid (HE6.out.far (hk7.block z (by omega) hzq hzp))
           have HK7:=hid (HK6.out.trans (hk7.least (by omega)))
           have HT7:=hid ((HT6.out.keep fun g hg=>hk7.block g hg.2 (by have:=hg.1;omega) (by have:=hg.1;omega)).mono fun g hg=>Fr.fx (z:=z) (y:=y) (w2:=w7) hg (by omega) (.inl (by omega)) hk7.size)
           clear hp7 hk7 HP6 HY6 HE6 HK6 HT6
           obtain ⟨X,hX⟩ : ∃ X : List Value,SC.cells c = X:=⟨_,rfl⟩
           have HX:=hid hX
           have hXs : X.toArray.size = 26:=by rw [← hX];rfl
           have hrx : w7.rangeAt y 0 X:=by rw [← hX];exact blk_range HY7.out
           have hi1:=hid (show (Tryd.prog.info? 64).map (·.size) = some X.length by rw [← hX];exact infoSt c)
           have hi2:=hid (show (Tryd.prog.info? 64).map (·.size) = some X.toArray.size by rw [← hX];exact infoSt c)
           have hx1:=hid (show ∀ v ∈ X.toArray.toList,v.oneCell' = true by rw [← hX];exact SC.oneA c)
           clear hX
           go_wp2_with (first | (refine wl_load_mid (by rfl) 64 (.tmp 4) rfl y 0 rfl X _ hrx Tryd.underlying64 rfl hi1.out ?_) | (refine wl_store_all (by rfl) 64 (.tmp 2) (.tmp 62) rfl z X.toArray rfl rfl SC.zero.cells.toArray _ HE7.out hXs hi2.out hx1.out ?_))
           have hres : StmtPost p q b s w (.returned (.agg X.toArray)) (w7.setRow z X.toArray):=by
             rw [← HX.out]
             exact StmtPost.of (y:=y) (RunS.line hse (by rw [ht];decide) (by rw [ht];decide) (by rw [ht];decide) (by rw [ht];exact HL.out)) HZ.out HT7.out HP7.out hp HK7.out
           refine bodyPost_ret (v:=.agg X.toArray) (results_c1 rfl _ _ _ ⟨z,0,none⟩ _ rfl (by have:=SC.loadRow c HE7.out;rw [HX.out] at this;exact this)) rfl ?_
           exact hres
set_option maxRecDepth 100000 in
theorem stmt_wait (p q b n : Nat) (hbd : BodyOK p q n) (s : PS) (w : World) (hmu : mu s ≤ n) (hb12 : s.2 = 0 → b ≤ 12) (h : Ps w p q s b 0) (hse : sees s kinds = true) (ht : (pk s.1).text = kWait) :
   Calls Tryd.prog 17 #[.pointer (some ⟨p,0,none⟩)] w (StmtPost p q b s w):=by
 have hp:=h.size
 have hqp:=h.lt
 have HBD:=hid hbd
 have HMU:=hid hmu
 have HB12:=hid hb12
 have HB1:=hid (show Below w.heap.size w (w.alloc (.cells zS 64)) from (Below.refl _ w).alloc (Nat.le_refl _) _)
 have HP1:=hid (h.below hp HB1.out)
 have HE1:=hid (show SB (w.alloc (.cells zS 64)) w.heap.size .zero from heap_alloc_new w _)
 have hs1 : (w.alloc (.cells zS 64)).heap.size = w.heap.size + 1:=Array.size_push _
 clear h hbd hmu hb12
 go_enter Tryd.func17,Tryd.ntmps17
 go_upto_region 1 with fail
 obtain ⟨z,hz⟩ : ∃ z,w.heap.size = z:=⟨_,rfl⟩
 have HZ:=hid hz
 rw [hz] at HB1 HE1 hs1 hp
 have HK1:=hid (show Kx q p z w _ from Kx.of HB1.out (Nat.le_refl _))
 rw [hz]
 have hz1 : z + 1 ≤ (w.alloc (.cells zS 64)).heap.size:=Nat.le_of_eq hs1.symm
 have hzq : z ≠ q:=by omega
 have hzp : z ≠ p:=by omega
 clear hz hs1 HB1
 generalize w.alloc (.cells zS 64) = w1 at *
 have ha2 : Below w1.heap.size w1 (w1.alloc (.cells kS 9)):=(Below.refl _ w1).alloc (Nat.le_refl _) _
 have hl2 : (w1.alloc (.cells kS 9)).heap.size = w1.heap.size + 1:=Array.size_push _
 have HSE:=hid (show Calls Tryd.prog 13 #[.pointer (some ⟨p,0,none⟩),.slice (some ⟨w1.heap.size,0,none⟩) 10 10] (w1.alloc (.cells kS 9)) (fun e w'=>e = .returned (.bool (sees s kinds)) ∧ Below (w1.alloc (.cells kS 9)).heap.size (w1.alloc (.cells kS 9)) w') from sees_any p q b 0 s (some ⟨w1.heap.size,0,none⟩) 10 kinds _ (HP1.out.below HP1.out.size ha2) (RS.new w1 kinds) (Nat.le_add_left 10 90))
 have HA2:=hid ha2
 clear ha2
 go_wp2_with fail
 refine HSE.out.mono ?_
 rintro e w2 ⟨rfl,hb2⟩
 have hb12:=HA2.out.trans (bl_least hb2 (by omega))
 have hk2 : Kx q p w1.heap.size w1 w2:=Kx.of hb12 (Nat.le_refl _)
 have HP2:=hid (HP1.out.below HP1.out.size hb12)
 have HE2:=hid (HE1.out.far (hk2.block z (by omega) hzq hzp))
 have HK2:=hid (HK1.out.trans (hk2.least (by omega)))
 have hz2 : z + 1 ≤ w2.heap.size:=Nat.le_trans hz1 hk2.size
 clear hb2 hb12 hk2 HA2 hl2 HSE HP1 HE1 HK1
 rw [hse]
 have c0:=HP2.out.c0
 have HNX:=hid (Next_any q s.1 w2 HP2.out.stm)
 rw [ht,show sb kWait = ⟨#[119,97,105,116]⟩ from rfl] at HNX
 generalize (pk s.1).kind = k1 at *
 generalize (pk s.1).num = m1 at *
 go_wp2_with fail
 as_aux_lemma=>
   refine HNX.out.mono ?_
   rintro e w3 ⟨⟨a3,rfl⟩,hs3,hq3⟩
   have HP3:=hid (show Ps w3 p q (nx s) b 0 from HP2.out.moved hs3 hq3 HP2.out.size)
   have hk3 : Kx q p w2.heap.size w2 w3:=hq3.wide (.inl rfl) (.inl rfl)
   have HE3:=hid (HE2.out.far (hk3.block z (by omega) hzq hzp))
   have HK3:=hid (HK2.out.trans (hk3.least (by omega)))
   have hz3 : z + 1 ≤ w3.heap.size:=Nat.le_trans hz2 hk3.size
   clear hs3 hq3 hk3 HNX c0 HP2 HE2 HK2
   go_upto_region 5 with fail
   as_aux_lemma=>
     have ha4 : Below w3.heap.size w3 (w3.alloc (.cells #[.int .i64 k1,.string ⟨#[119,97,105,116]⟩,.int .i64 m1,.int .i64 a3] 73)):=(Below.refl _ w3).alloc (Nat.le_refl _) _
     have hy4 : (w3.alloc (.cells #[.int .i64 k1,.string ⟨#[119,97,105,116]⟩,.int .i64 m1,.int .i64 a3] 73)).heap[w3.heap.size]? = some (.cells #[.int .i64 k1,.string ⟨#[119,97,105,116]⟩,.int .i64 m1,.int .i64 a3] 73 (0,0)):=heap_alloc_new w3 _
     have y1 : (w3.alloc (.cells #[.int .i64 k1,.string ⟨#[119,97,105,116]⟩,.int .i64 m1,.int .i64 a3] 73)).cell? ⟨w3.heap.size,1,none⟩ = some (.string ⟨#[119,97,105,116]⟩):=blk_cell hy4
     have y3 : (w3.alloc (.cells #[.int .i64 k1,.string ⟨#[119,97,105,116]⟩,.int .i64 m1,.int .i64 a3] 73)).cell? ⟨w3.heap.size,3,none⟩ = some (.int .i64 a3):=blk_cell hy4
     have HP4:=hid (HP3.out.below HP3.out.size ha4)
     have HE4:=hid (HE3.out.far (ha4.block z (by omega)))
     have HK4:=hid (HK3.out.trans (Kx.of ha4 (by omega)))
     have hz4 : z + 1 ≤ (w3.alloc (.cells #[.int .i64 k1,.string ⟨#[119,97,105,116]⟩,.int .i64 m1,.int .i64 a3] 73)).heap.size:=Nat.le_trans hz3 ha4.size
     clear ha4 hy4 HP3 HE3 HK3
     generalize w3.alloc (.cells #[.int .i64 k1,.string ⟨#[119,97,105,116]⟩,.int .i64 m1,.int .i64 a3] 73) = w4 at *
     obtain ⟨X,hX⟩ : ∃ X : Array Value,(SC.start kWait a3).cells.toArray = X:=⟨_,rfl⟩
     have HBT:=hid (show Tryd.prog.built 64 [(0,.string ⟨#[119,97,105,116]⟩),(1,.int .i64 a3)] = some X by rw [← hX];kernel_rfl)
     have HXS:=hid (show X.size = SC.zero.cells.toArray.size by rw [← hX];rfl)
     have HXI:=hid (show (Tryd.prog.info? 64).map (·.size) = some X.size by rw [← hX];exact infoSt _)
     have HX1:=hid (show ∀ v ∈ X.toList,v.oneCell' = true by rw [← hX];exact SC.oneA _)
     have HX:=hid hX
     clear hX
     go_upto_region 6 with (first | (refine wl_lit (by rfl) 64 [(0,.tmp 18),(1,.tmp 20)] rfl [(0,.string ⟨#[119,97,105,116]⟩),(1,.int .i64 a3)] rfl X HBT.out ?_) | (refine wl_store_all (by rfl) 64 (.tmp 4) (.tmp 21) rfl w4.heap.size X rfl rfl SC.zero.cells.toArray _ (heap_alloc_new w4 _) HXS.out HXI.out HX1.out ?_))
     as_aux_lemma=>
       rw [alloc_setRow]
       have ha5 : Below w4.heap.size w4 (w4.alloc (.cells X 64)):=(Below.refl _ w4).alloc (Nat.le_refl _) _
       have hl5 : (w4.alloc (.cells X 64)).heap.size = w4.heap.size + 1:=Array.size_push _
       have HY5:=hid (show SB (w4.alloc (.cells X 64)) w4.heap.size (SC.start kWait a3) by rw [← HX.out];exact heap_alloc_new w4 _)
       have HP5:=hid (HP4.out.below HP4.out.size ha5)
       have HE5:=hid (HE4.out.far (ha5.block z (by omega)))
       have HK5:=hid (HK4.out.trans (Kx.of ha5 (by omega)))
       clear ha5 y1 y3 HP4 HE4 HK4 HBT HXS HXI HX1 HX
       obtain ⟨y,hy⟩ : ∃ y,w4.heap.size = y:=⟨_,rfl⟩
       rw [hy] at HY5 hl5 hz4 ⊢
       generalize w4.alloc (.cells X 64) = w5 at *
       clear hy
       have hy5 : y + 1 ≤ w5.heap.size:=Nat.le_of_eq hl5.symm
       have k0 : w5.cell? ⟨y,0,none⟩ = some (.string ⟨#[119,97,105,116]⟩):=HY5.out.cell 0
       clear hl5
       go_wp2_with fail
       as_aux_lemma=>
         refine (line_wait p q b y a3 (nx s) w5 HP5.out HY5.out (by omega)).mono ?_
         rintro e w6 ⟨t,s',c,hL,rfl,hy6,hst6,hp6,hk6,hs6⟩
         have HY6:=hid hy6
         have HT6:=hid hst6
         have HP6:=hid hp6
         have HE6:=hid (HE5.out.far (hk6.block z (by omega) hzq hzp))
         have HK6:=hid (HK5.out.trans (hk6.least (by omega)))
         have HL:=hid hL
         clear hy6 hst6 hp6 hk6 HY5 HP5 HE5 HK5 k0 hL
         go_wp2_with fail
         as_aux_lemma=>
           refine (show Calls Tryd.prog 32 #[.pointer (some ⟨p,0,none⟩),.string ⟨#[59]⟩] w6 _ from take_any p q b 0 s' kSemi w6 HP6.out).mono ?_
           rintro e w7 ⟨rfl,hp7,hk7⟩
           have HP7:=hid hp7
           have HY7:=hid (HY6.out.far (hk7.block y (by omega) (by omega) (by omega)))
           have HE7:=hid (HE6.out.far (hk7.block z (by omega) hzq hzp))
           have HK7:=hid (HK6.out.trans (hk7.least (by omega)))
           have HT7:=hid ((HT6.out.keep fun g hg=>hk7.block g hg.2 (by have:=hg.1;omega) (by have:=hg.1;omega)).mono fun g hg=>Fr.fx (z:=z) (y:=y) (w2:=w7) hg (by omega) (.inl (by omega)) hk7.size)
           clear hp7 hk7 HP6 HY6 HE6 HK6 HT6
           obtain ⟨X,hX⟩ : ∃ X : List Value,SC.cells c = X:=⟨_,rfl⟩
           have HX:=hid hX
           have hXs : X.toArray.size = 26:=by rw [← hX];rfl
           have hrx : w7.rangeAt y 0 X:=by rw [← hX];exact blk_range HY7.out
           have hi1:=hid (show (Tryd.prog.info? 64).map (·.size) = some X.length by rw [← hX];exact infoSt c)
           have hi2:=hid (show (Tryd.prog.info? 64).map (·.size) = some X.toArray.size by rw [← hX];exact infoSt c)
           have hx1:=hid (show ∀ v ∈ X.toArray.toList,v.oneCell' = true by rw [← hX];exact SC.oneA c)
           clear hX
           go_wp2_with (first | (refine wl_load_mid (by rfl) 64 (.tmp 4) rfl y 0 rfl X _ hrx Tryd.underlying64 rfl hi1.out ?_) | (refine wl_store_all (by rfl) 64 (.tmp 2) (.tmp 62) rfl z X.toArray rfl rfl SC.zero.cells.toArray _ HE7.out hXs hi2.out hx1.out ?_))
           have hres : StmtPost p q b s w (.returned (.agg X.toArray)) (w7.setRow z X.toArray):=by
             rw [← HX.out]
             exact StmtPost.of (y:=y) (RunS.line hse (by rw [ht];decide) (by rw [ht];decide) (by rw [ht];decide) (by rw [ht];exact HL.out)) HZ.out HT7.out HP7.out hp HK7.out
           refine bodyPost_ret (v:=.agg X.toArray) (results_c1 rfl _ _ _ ⟨z,0,none⟩ _ rfl (by have:=SC.loadRow c HE7.out;rw [HX.out] at this;exact this)) rfl ?_
           exact hres
set_option maxRecDepth 100000 in
theorem stmt_block (p q b n : Nat) (hbd : BodyOK p q n) (s : PS) (w : World) (hmu : mu s ≤ n) (hb12 : s.2 = 0 → b ≤ 12) (h : Ps w p q s b 0) (hse : sees s kinds = true) (ht : (pk s.1).text = kBlock) :
   Calls Tryd.prog 17 #[.pointer (some ⟨p,0,none⟩)] w (StmtPost p q b s w):=by
 have hp:=h.size
 have hqp:=h.lt
 have HBD:=hid hbd
 have HMU:=hid hmu
 have HB12:=hid hb12
 have HB1:=hid (show Below w.heap.size w (w.alloc (.cells zS 64)) from (Below.refl _ w).alloc (Nat.le_refl _) _)
 have HP1:=hid (h.below hp HB1.out)
 have HE1:=hid (show SB (w.alloc (.cells zS 64)) w.heap.size .zero from heap_alloc_new w _)
 have hs1 : (w.alloc (.cells zS 64)).heap.size = w.heap.size + 1:=Array.size_push _
 clear h hbd hmu hb12
 go_enter Tryd.func17,Tryd.ntmps17
 go_upto_region 1 with fail
 obtain ⟨z,hz⟩ : ∃ z,w.heap.size = z:=⟨_,rfl⟩
 have HZ:=hid hz
 rw [hz] at HB1 HE1 hs1 hp
 have HK1:=hid (show Kx q p z w _ from Kx.of HB1.out (Nat.le_refl _))
 rw [hz]
 have hz1 : z + 1 ≤ (w.alloc (.cells zS 64)).heap.size:=Nat.le_of_eq hs1.symm
 have hzq : z ≠ q:=by omega
 have hzp : z ≠ p:=by omega
 clear hz hs1 HB1
 generalize w.alloc (.cells zS 64) = w1 at *
 have ha2 : Below w1.heap.size w1 (w1.alloc (.cells kS 9)):=(Below.refl _ w1).alloc (Nat.le_refl _) _
 have hl2 : (w1.alloc (.cells kS 9)).heap.size = w1.heap.size + 1:=Array.size_push _
 have HSE:=hid (show Calls Tryd.prog 13 #[.pointer (some ⟨p,0,none⟩),.slice (some ⟨w1.heap.size,0,none⟩) 10 10] (w1.alloc (.cells kS 9)) (fun e w'=>e = .returned (.bool (sees s kinds)) ∧ Below (w1.alloc (.cells kS 9)).heap.size (w1.alloc (.cells kS 9)) w') from sees_any p q b 0 s (some ⟨w1.heap.size,0,none⟩) 10 kinds _ (HP1.out.below HP1.out.size ha2) (RS.new w1 kinds) (Nat.le_add_left 10 90))
 have HA2:=hid ha2
 clear ha2
 go_wp2_with fail
 refine HSE.out.mono ?_
 rintro e w2 ⟨rfl,hb2⟩
 have hb12:=HA2.out.trans (bl_least hb2 (by omega))
 have hk2 : Kx q p w1.heap.size w1 w2:=Kx.of hb12 (Nat.le_refl _)
 have HP2:=hid (HP1.out.below HP1.out.size hb12)
 have HE2:=hid (HE1.out.far (hk2.block z (by omega) hzq hzp))
 have HK2:=hid (HK1.out.trans (hk2.least (by omega)))
 have hz2 : z + 1 ≤ w2.heap.size:=Nat.le_trans hz1 hk2.size
 clear hb2 hb12 hk2 HA2 hl2 HSE HP1 HE1 HK1
 rw [hse]
 have c0:=HP2.out.c0
 have HNX:=hid (Next_any q s.1 w2 HP2.out.stm)
 rw [ht,show sb kBlock = ⟨#[98,108,111,99,107]⟩ from rfl] at HNX
 generalize (pk s.1).kind = k1 at *
 generalize (pk s.1).num = m1 at *
 go_wp2_with fail
 as_aux_lemma=>
   refine HNX.out.mono ?_
   rintro e w3 ⟨⟨a3,rfl⟩,hs3,hq3⟩
   have HP3:=hid (show Ps w3 p q (nx s) b 0 from HP2.out.moved hs3 hq3 HP2.out.size)
   have hk3 : Kx q p w2.heap.size w2 w3:=hq3.wide (.inl rfl) (.inl rfl)
   have HE3:=hid (HE2.out.far (hk3.block z (by omega) hzq hzp))
   have HK3:=hid (HK2.out.trans (hk3.least (by omega)))
   have hz3 : z + 1 ≤ w3.heap.size:=Nat.le_trans hz2 hk3.size
   clear hs3 hq3 hk3 HNX c0 HP2 HE2 HK2
   go_upto_region 5 with fail
   as_aux_lemma=>
     have ha4 : Below w3.heap.size w3 (w3.alloc (.cells #[.int .i64 k1,.string ⟨#[98,108,111,99,107]⟩,.int .i64 m1,.int .i64 a3] 73)):=(Below.refl _ w3).alloc (Nat.le_refl _) _
     have hy4 : (w3.alloc (.cells #[.int .i64 k1,.string ⟨#[98,108,111,99,107]⟩,.int .i64 m1,.int .i64 a3] 73)).heap[w3.heap.size]? = some (.cells #[.int .i64 k1,.string ⟨#[98,108,111,99,107]⟩,.int .i64 m1,.int .i64 a3] 73 (0,0)):=heap_alloc_new w3 _
     have y1 : (w3.alloc (.cells #[.int .i64 k1,.string ⟨#[98,108,111,99,107]⟩,.int .i64 m1,.int .i64 a3] 73)).cell? ⟨w3.heap.size,1,none⟩ = some (.string ⟨#[98,108,111,99,107]⟩):=blk_cell hy4
     have y3 : (w3.alloc (.cells #[.int .i64 k1,.string ⟨#[98,108,111,99,107]⟩,.int .i64 m1,.int .i64 a3] 73)).cell? ⟨w3.heap.size,3,none⟩ = some (.int .i64 a3):=blk_cell hy4
     have HP4:=hid (HP3.out.below HP3.out.size ha4)
     have HE4:=hid (HE3.out.far (ha4.block z (by omega)))
     have HK4:=hid (HK3.out.trans (Kx.of ha4 (by omega)))
     have hz4 : z + 1 ≤ (w3.alloc (.cells #[.int .i64 k1,.string ⟨#[98,108,111,99,107]⟩,.int .i64 m1,.int .i64 a3] 73)).heap.size:=Nat.le_trans hz3 ha4.size
     clear ha4 hy4 HP3 HE3 HK3
     generalize w3.alloc (.cells #[.int .i64 k1,.string ⟨#[98,108,111,99,107]⟩,.int .i64 m1,.int .i64 a3] 73) = w4 at *
     obtain ⟨X,hX⟩ : ∃ X : Array Value,(SC.start kBlock a3).cells.toArray = X:=⟨_,rfl⟩
     have HBT:=hid (show Tryd.prog.built 64 [(0,.string ⟨#[98,108,111,99,107]⟩),(1,.int .i64 a3)] = some X by rw [← hX];kernel_rfl)
     have HXS:=hid (show X.size = SC.zero.cells.toArray.size by rw [← hX];rfl)
     have HXI:=hid (show (Tryd.prog.info? 64).map (·.size) = some X.size by rw [← hX];exact infoSt _)
     have HX1:=hid (show ∀ v ∈ X.toList,v.oneCell' = true by rw [← hX];exact SC.oneA _)
     have HX:=hid hX
     clear hX
     go_upto_region 6 with (first | (refine wl_lit (by rfl) 64 [(0,.tmp 18),(1,.tmp 20)] rfl [(0,.string ⟨#[98,108,111,99,107]⟩),(1,.int .i64 a3)] rfl X HBT.out ?_) | (refine wl_store_all (by rfl) 64 (.tmp 4) (.tmp 21) rfl w4.heap.size X rfl rfl SC.zero.cells.toArray _ (heap_alloc_new w4 _) HXS.out HXI.out HX1.out ?_))
     as_aux_lemma=>
       rw [alloc_setRow]
       have ha5 : Below w4.heap.size w4 (w4.alloc (.cells X 64)):=(Below.refl _ w4).alloc (Nat.le_refl _) _
       have hl5 : (w4.alloc (.cells X 64)).heap.size = w4.heap.size + 1:=Array.size_push _
       have HY5:=hid (show SB (w4.alloc (.cells X 64)) w4.heap.size (SC.start kBlock a3) by rw [← HX.out];exact heap_alloc_new w4 _)
       have HP5:=hid (HP4.out.below HP4.out.size ha5)
       have HE5:=hid (HE4.out.far (ha5.block z (by omega)))
       have HK5:=hid (HK4.out.trans (Kx.of ha5 (by omega)))
       clear ha5 y1 y3 HP4 HE4 HK4 HBT HXS HXI HX1 HX
       obtain ⟨y,hy⟩ : ∃ y,w4.heap.size = y:=⟨_,rfl⟩
       rw [hy] at HY5 hl5 hz4 ⊢
       generalize w4.alloc (.cells X 64) = w5 at *
       clear hy
       have hy5 : y + 1 ≤ w5.heap.size:=Nat.le_of_eq hl5.symm
       have k0 : w5.cell? ⟨y,0,none⟩ = some (.string ⟨#[98,108,111,99,107]⟩):=HY5.out.cell 0
       clear hl5
       go_wp2_with fail
       as_aux_lemma=>
         refine (line_block p q b y a3 (nx s) w5 HP5.out HY5.out (by omega)).mono ?_
         rintro e w6 ⟨t,s',c,hL,rfl,hy6,hst6,hp6,hk6,hs6⟩
         have HY6:=hid hy6
         have HT6:=hid hst6
         have HP6:=hid hp6
         have HE6:=hid (HE5.out.far (hk6.block z (by omega) hzq hzp))
         have HK6:=hid (HK5.out.trans (hk6.least (by omega)))
         have HL:=hid hL
         clear hy6 hst6 hp6 hk6 HY5 HP5 HE5 HK5 k0 hL
         go_wp2_with fail
         as_aux_lemma=>
           refine (show Calls Tryd.prog 32 #[.pointer (some ⟨p,0,none⟩),.string ⟨#[59]⟩] w6 _ from take_any p q b 0 s' kSemi w6 HP6.out).mono ?_
           rintro e w7 ⟨rfl,hp7,hk7⟩
           have HP7:=hid hp7
           have HY7:=hid (HY6.out.far (hk7.block y (by omega) (by omega) (by omega)))
           have HE7:=hid (HE6.out.far (hk7.block z (by omega) hzq hzp))
           have HK7:=hid (HK6.out.trans (hk7.least (by omega)))
           have HT7:=hid ((HT6.out.keep fun g hg=>hk7.block g hg.2 (by have:=hg.1;omega) (by have:=hg.1;omega)).mono fun g hg=>Fr.fx (z:=z) (y:=y) (w2:=w7) hg (by omega) (.inl (by omega)) hk7.size)
           clear hp7 hk7 HP6 HY6 HE6 HK6 HT6
           obtain ⟨X,hX⟩ : ∃ X : List Value,SC.cells c = X:=⟨_,rfl⟩
           have HX:=hid hX
           have hXs : X.toArray.size = 26:=by rw [← hX];rfl
           have hrx : w7.rangeAt y 0 X:=by rw [← hX];exact blk_range HY7.out
           have hi1:=hid (show (Tryd.prog.info? 64).map (·.size) = some X.length by rw [← hX];exact infoSt c)
           have hi2:=hid (show (Tryd.prog.info? 64).map (·.size) = some X.toArray.size by rw [← hX];exact infoSt c)
           have hx1:=hid (show ∀ v ∈ X.toArray.toList,v.oneCell' = true by rw [← hX];exact SC.oneA c)
           clear hX
           go_wp2_with (first | (refine wl_load_mid (by rfl) 64 (.tmp 4) rfl y 0 rfl X _ hrx Tryd.underlying64 rfl hi1.out ?_) | (refine wl_store_all (by rfl) 64 (.tmp 2) (.tmp 62) rfl z X.toArray rfl rfl SC.zero.cells.toArray _ HE7.out hXs hi2.out hx1.out ?_))
           have hres : StmtPost p q b s w (.returned (.agg X.toArray)) (w7.setRow z X.toArray):=by
             rw [← HX.out]
             exact StmtPost.of (y:=y) (RunS.line hse (by rw [ht];decide) (by rw [ht];decide) (by rw [ht];decide) (by rw [ht];exact HL.out)) HZ.out HT7.out HP7.out hp HK7.out
           refine bodyPost_ret (v:=.agg X.toArray) (results_c1 rfl _ _ _ ⟨z,0,none⟩ _ rfl (by have:=SC.loadRow c HE7.out;rw [HX.out] at this;exact this)) rfl ?_
           exact hres
set_option maxRecDepth 100000 in
theorem stmt_retry (p q b n : Nat) (hbd : BodyOK p q n) (s : PS) (w : World) (hmu : mu s ≤ n) (hb12 : s.2 = 0 → b ≤ 12) (h : Ps w p q s b 0) (hse : sees s kinds = true) (ht : (pk s.1).text = kRetry) :
   Calls Tryd.prog 17 #[.pointer (some ⟨p,0,none⟩)] w (StmtPost p q b s w):=by
 have hp:=h.size
 have hqp:=h.lt
 have HBD:=hid hbd
 have HMU:=hid hmu
 have HB12:=hid hb12
 have HB1:=hid (show Below w.heap.size w (w.alloc (.cells zS 64)) from (Below.refl _ w).alloc (Nat.le_refl _) _)
 have HP1:=hid (h.below hp HB1.out)
 have HE1:=hid (show SB (w.alloc (.cells zS 64)) w.heap.size .zero from heap_alloc_new w _)
 have hs1 : (w.alloc (.cells zS 64)).heap.size = w.heap.size + 1:=Array.size_push _
 clear h hbd hmu hb12
 go_enter Tryd.func17,Tryd.ntmps17
 go_upto_region 1 with fail
 obtain ⟨z,hz⟩ : ∃ z,w.heap.size = z:=⟨_,rfl⟩
 have HZ:=hid hz
 rw [hz] at HB1 HE1 hs1 hp
 have HK1:=hid (show Kx q p z w _ from Kx.of HB1.out (Nat.le_refl _))
 rw [hz]
 have hz1 : z + 1 ≤ (w.alloc (.cells zS 64)).heap.size:=Nat.le_of_eq hs1.symm
 have hzq : z ≠ q:=by omega
 have hzp : z ≠ p:=by omega
 clear hz hs1 HB1
 generalize w.alloc (.cells zS 64) = w1 at *
 have ha2 : Below w1.heap.size w1 (w1.alloc (.cells kS 9)):=(Below.refl _ w1).alloc (Nat.le_refl _) _
 have hl2 : (w1.alloc (.cells kS 9)).heap.size = w1.heap.size + 1:=Array.size_push _
 have HSE:=hid (show Calls Tryd.prog 13 #[.pointer (some ⟨p,0,none⟩),.slice (some ⟨w1.heap.size,0,none⟩) 10 10] (w1.alloc (.cells kS 9)) (fun e w'=>e = .returned (.bool (sees s kinds)) ∧ Below (w1.alloc (.cells kS 9)).heap.size (w1.alloc (.cells kS 9)) w') from sees_any p q b 0 s (some ⟨w1.heap.size,0,none⟩) 10 kinds _ (HP1.out.below HP1.out.size ha2) (RS.new w1 kinds) (Nat.le_add_left 10 90))
 have HA2:=hid ha2
 clear ha2
 go_wp2_with fail
 refine HSE.out.mono ?_
 rintro e w2 ⟨rfl,hb2⟩
 have hb12:=HA2.out.trans (bl_least hb2 (by omega))
 have hk2 : Kx q p w1.heap.size w1 w2:=Kx.of hb12 (Nat.le_refl _)
 have HP2:=hid (HP1.out.below HP1.out.size hb12)
 have HE2:=hid (HE1.out.far (hk2.block z (by omega) hzq hzp))
 have HK2:=hid (HK1.out.trans (hk2.least (by omega)))
 have hz2 : z + 1 ≤ w2.heap.size:=Nat.le_trans hz1 hk2.size
 clear hb2 hb12 hk2 HA2 hl2 HSE HP1 HE1 HK1
 rw [hse]
 have c0:=HP2.out.c0
 have HNX:=hid (Next_any q s.1 w2 HP2.out.stm)
 rw [ht,show sb kRetry = ⟨#[114,101,116,114,121]⟩ from rfl] at HNX
 generalize (pk s.1).kind = k1 at *
 generalize (pk s.1).num = m1 at *
 go_wp2_with fail
 as_aux_lemma=>
   refine HNX.out.mono ?_
   rintro e w3 ⟨⟨a3,rfl⟩,hs3,hq3⟩
   have HP3:=hid (show Ps w3 p q (nx s) b 0 from HP2.out.moved hs3 hq3 HP2.out.size)
   have hk3 : Kx q p w2.heap.size w2 w3:=hq3.wide (.inl rfl) (.inl rfl)
   have HE3:=hid (HE2.out.far (hk3.block z (by omega) hzq hzp))
   have HK3:=hid (HK2.out.trans (hk3.least (by omega)))
   have hz3 : z + 1 ≤ w3.heap.size:=Nat.le_trans hz2 hk3.size
   clear hs3 hq3 hk3 HNX c0 HP2 HE2 HK2
   go_upto_region 5 with fail
   as_aux_lemma=>
     have ha4 : Below w3.heap.size w3 (w3.alloc (.cells #[.int .i64 k1,.string ⟨#[114,101,116,114,121]⟩,.int .i64 m1,.int .i64 a3] 73)):=(Below.refl _ w3).alloc (Nat.le_refl _) _
     have hy4 : (w3.alloc (.cells #[.int .i64 k1,.string ⟨#[114,101,116,114,121]⟩,.int .i64 m1,.int .i64 a3] 73)).heap[w3.heap.size]? = some (.cells #[.int .i64 k1,.string ⟨#[114,101,116,114,121]⟩,.int .i64 m1,.int .i64 a3] 73 (0,0)):=heap_alloc_new w3 _
     have y1 : (w3.alloc (.cells #[.int .i64 k1,.string ⟨#[114,101,116,114,121]⟩,.int .i64 m1,.int .i64 a3] 73)).cell? ⟨w3.heap.size,1,none⟩ = some (.string ⟨#[114,101,116,114,121]⟩):=blk_cell hy4
     have y3 : (w3.alloc (.cells #[.int .i64 k1,.string ⟨#[114,101,116,114,121]⟩,.int .i64 m1,.int .i64 a3] 73)).cell? ⟨w3.heap.size,3,none⟩ = some (.int .i64 a3):=blk_cell hy4
     have HP4:=hid (HP3.out.below HP3.out.size ha4)
     have HE4:=hid (HE3.out.far (ha4.block z (by omega)))
     have HK4:=hid (HK3.out.trans (Kx.of ha4 (by omega)))
     have hz4 : z + 1 ≤ (w3.alloc (.cells #[.int .i64 k1,.string ⟨#[114,101,116,114,121]⟩,.int .i64 m1,.int .i64 a3] 73)).heap.size:=Nat.le_trans hz3 ha4.size
     clear ha4 hy4 HP3 HE3 HK3
     generalize w3.alloc (.cells #[.int .i64 k1,.string ⟨#[114,101,116,114,121]⟩,.int .i64 m1,.int .i64 a3] 73) = w4 at *
     obtain ⟨X,hX⟩ : ∃ X : Array Value,(SC.start kRetry a3).cells.toArray = X:=⟨_,rfl⟩
     have HBT:=hid (show Tryd.prog.built 64 [(0,.string ⟨#[114,101,116,114,121]⟩),(1,.int .i64 a3)] = some X by rw [← hX];kernel_rfl)
     have HXS:=hid (show X.size = SC.zero.cells.toArray.size by rw [← hX];rfl)
     have HXI:=hid (show (Tryd.prog.info? 64).map (·.size) = some X.size by rw [← hX];exact infoSt _)
     have HX1:=hid (show ∀ v ∈ X.toList,v.oneCell' = true by rw [← hX];exact SC.oneA _)
     have HX:=hid hX
     clear hX
     go_upto_region 6 with (first | (refine wl_lit (by rfl) 64 [(0,.tmp 18),(1,.tmp 20)] rfl [(0,.string ⟨#[114,101,116,114,121]⟩),(1,.int .i64 a3)] rfl X HBT.out ?_) | (refine wl_store_all (by rfl) 64 (.tmp 4) (.tmp 21) rfl w4.heap.size X rfl rfl SC.zero.cells.toArray _ (heap_alloc_new w4 _) HXS.out HXI.out HX1.out ?_))
     as_aux_lemma=>
       rw [alloc_setRow]
       have ha5 : Below w4.heap.size w4 (w4.alloc (.cells X 64)):=(Below.refl _ w4).alloc (Nat.le_refl _) _
       have hl5 : (w4.alloc (.cells X 64)).heap.size = w4.heap.size + 1:=Array.size_push _
       have HY5:=hid (show SB (w4.alloc (.cells X 64)) w4.heap.size (SC.start kRetry a3) by rw [← HX.out];exact heap_alloc_new w4 _)
       have HP5:=hid (HP4.out.below HP4.out.size ha5)
       have HE5:=hid (HE4.out.far (ha5.block z (by omega)))
       have HK5:=hid (HK4.out.trans (Kx.of ha5 (by omega)))
       clear ha5 y1 y3 HP4 HE4 HK4 HBT HXS HXI HX1 HX
       obtain ⟨y,hy⟩ : ∃ y,w4.heap.size = y:=⟨_,rfl⟩
       rw [hy] at HY5 hl5 hz4 ⊢
       generalize w4.alloc (.cells X 64) = w5 at *
       clear hy
       have hy5 : y + 1 ≤ w5.heap.size:=Nat.le_of_eq hl5.symm
       have k0 : w5.cell? ⟨y,0,none⟩ = some (.string ⟨#[114,101,116,114,121]⟩):=HY5.out.cell 0
       clear hl5
       go_wp2_with fail
       as_aux_lemma=>
         refine (line_retry p q b y a3 (nx s) w5 HP5.out HY5.out (by omega)).mono ?_
         rintro e w6 ⟨t,s',c,hL,rfl,hy6,hst6,hp6,hk6,hs6⟩
         have HY6:=hid hy6
         have HT6:=hid hst6
         have HP6:=hid hp6
         have HE6:=hid (HE5.out.far (hk6.block z (by omega) hzq hzp))
         have HK6:=hid (HK5.out.trans (hk6.least (by omega)))
         have HL:=hid hL
         clear hy6 hst6 hp6 hk6 HY5 HP5 HE5 HK5 k0 hL
         go_wp2_with fail
         as_aux_lemma=>
           refine (show Calls Tryd.prog 32 #[.pointer (some ⟨p,0,none⟩),.string ⟨#[59]⟩] w6 _ from take_any p q b 0 s' kSemi w6 HP6.out).mono ?_
           rintro e w7 ⟨rfl,hp7,hk7⟩
           have HP7:=hid hp7
           have HY7:=hid (HY6.out.far (hk7.block y (by omega) (by omega) (by omega)))
           have HE7:=hid (HE6.out.far (hk7.block z (by omega) hzq hzp))
           have HK7:=hid (HK6.out.trans (hk7.least (by omega)))
           have HT7:=hid ((HT6.out.keep fun g hg=>hk7.block g hg.2 (by have:=hg.1;omega) (by have:=hg.1;omega)).mono fun g hg=>Fr.fx (z:=z) (y:=y) (w2:=w7) hg (by omega) (.inl (by omega)) hk7.size)
           clear hp7 hk7 HP6 HY6 HE6 HK6 HT6
           obtain ⟨X,hX⟩ : ∃ X : List Value,SC.cells c = X:=⟨_,rfl⟩
           have HX:=hid hX
           have hXs : X.toArray.size = 26:=by rw [← hX];rfl
           have hrx : w7.rangeAt y 0 X:=by rw [← hX];exact blk_range HY7.out
           have hi1:=hid (show (Tryd.prog.info? 64).map (·.size) = some X.length by rw [← hX];exact infoSt c)
           have hi2:=hid (show (Tryd.prog.info? 64).map (·.size) = some X.toArray.size by rw [← hX];exact infoSt c)
           have hx1:=hid (show ∀ v ∈ X.toArray.toList,v.oneCell' = true by rw [← hX];exact SC.oneA c)
           clear hX
           go_wp2_with (first | (refine wl_load_mid (by rfl) 64 (.tmp 4) rfl y 0 rfl X _ hrx Tryd.underlying64 rfl hi1.out ?_) | (refine wl_store_all (by rfl) 64 (.tmp 2) (.tmp 62) rfl z X.toArray rfl rfl SC.zero.cells.toArray _ HE7.out hXs hi2.out hx1.out ?_))
           have hres : StmtPost p q b s w (.returned (.agg X.toArray)) (w7.setRow z X.toArray):=by
             rw [← HX.out]
             exact StmtPost.of (y:=y) (RunS.line hse (by rw [ht];decide) (by rw [ht];decide) (by rw [ht];decide) (by rw [ht];exact HL.out)) HZ.out HT7.out HP7.out hp HK7.out
           refine bodyPost_ret (v:=.agg X.toArray) (results_c1 rfl _ _ _ ⟨z,0,none⟩ _ rfl (by have:=SC.loadRow c HE7.out;rw [HX.out] at this;exact this)) rfl ?_
           exact hres
set_option maxRecDepth 100000 in
theorem stmt_every (p q b n : Nat) (hbd : BodyOK p q n) (s : PS) (w : World) (hmu : mu s ≤ n) (hb12 : s.2 = 0 → b ≤ 12) (h : Ps w p q s b 0) (hse : sees s kinds = true) (ht : (pk s.1).text = kEvery) :
   Calls Tryd.prog 17 #[.pointer (some ⟨p,0,none⟩)] w (StmtPost p q b s w):=by
 have hp:=h.size
 have hqp:=h.lt
 have HBD:=hid hbd
 have HMU:=hid hmu
 have HB12:=hid hb12
 have HB1:=hid (show Below w.heap.size w (w.alloc (.cells zS 64)) from (Below.refl _ w).alloc (Nat.le_refl _) _)
 have HP1:=hid (h.below hp HB1.out)
 have HE1:=hid (show SB (w.alloc (.cells zS 64)) w.heap.size .zero from heap_alloc_new w _)
 have hs1 : (w.alloc (.cells zS 64)).heap.size = w.heap.size + 1:=Array.size_push _
 clear h hbd hmu hb12
 go_enter Tryd.func17,Tryd.ntmps17
 go_upto_region 1 with fail
 obtain ⟨z,hz⟩ : ∃ z,w.heap.size = z:=⟨_,rfl⟩
 have HZ:=hid hz
 rw [hz] at HB1 HE1 hs1 hp
 have HK1:=hid (show Kx q p z w _ from Kx.of HB1.out (Nat.le_refl _))
 rw [hz]
 have hz1 : z + 1 ≤ (w.alloc (.cells zS 64)).heap.size:=Nat.le_of_eq hs1.symm
 have hzq : z ≠ q:=by omega
 have hzp : z ≠ p:=by omega
 clear hz hs1 HB1
 generalize w.alloc (.cells zS 64) = w1 at *
 have ha2 : Below w1.heap.size w1 (w1.alloc (.cells kS 9)):=(Below.refl _ w1).alloc (Nat.le_refl _) _
 have hl2 : (w1.alloc (.cells kS 9)).heap.size = w1.heap.size + 1:=Array.size_push _
 have HSE:=hid (show Calls Tryd.prog 13 #[.pointer (some ⟨p,0,none⟩),.slice (some ⟨w1.heap.size,0,none⟩) 10 10] (w1.alloc (.cells kS 9)) (fun e w'=>e = .returned (.bool (sees s kinds)) ∧ Below (w1.alloc (.cells kS 9)).heap.size (w1.alloc (.cells kS 9)) w') from sees_any p q b 0 s (some ⟨w1.heap.size,0,none⟩) 10 kinds _ (HP1.out.below HP1.out.size ha2) (RS.new w1 kinds) (Nat.le_add_left 10 90))
 have HA2:=hid ha2
 clear ha2
 go_wp2_with fail
 refine HSE.out.mono ?_
 rintro e w2 ⟨rfl,hb2⟩
 have hb12:=HA2.out.trans (bl_least hb2 (by omega))
 have hk2 : Kx q p w1.heap.size w1 w2:=Kx.of hb12 (Nat.le_refl _)
 have HP2:=hid (HP1.out.below HP1.out.size hb12)
 have HE2:=hid (HE1.out.far (hk2.block z (by omega) hzq hzp))
 have HK2:=hid (HK1.out.trans (hk2.least (by omega)))
 have hz2 : z + 1 ≤ w2.heap.size:=Nat.le_trans hz1 hk2.size
 clear hb2 hb12 hk2 HA2 hl2 HSE HP1 HE1 HK1
 rw [hse]
 have c0:=HP2.out.c0
 have HNX:=hid (Next_any q s.1 w2 HP2.out.stm)
 rw [ht,show sb kEvery = ⟨#[101,118,101,114,121]⟩ from rfl] at HNX
 generalize (pk s.1).kind = k1 at *
 generalize (pk s.1).num = m1 at *
 go_wp2_with fail
 as_aux_lemma=>
   refine HNX.out.mono ?_
   rintro e w3 ⟨⟨a3,rfl⟩,hs3,hq3⟩
   have HP3:=hid (show Ps w3 p q (nx s) b 0 from HP2.out.moved hs3 hq3 HP2.out.size)
   have hk3 : Kx q p w2.heap.size w2 w3:=hq3.wide (.inl rfl) (.inl rfl)
   have HE3:=hid (HE2.out.far (hk3.block z (by omega) hzq hzp))
   have HK3:=hid (HK2.out.trans (hk3.least (by omega)))
   have hz3 : z + 1 ≤ w3.heap.size:=Nat.le_trans hz2 hk3.size
   clear hs3 hq3 hk3 HNX c0 HP2 HE2 HK2
   go_upto_region 5 with fail
   as_aux_lemma=>
     have ha4 : Below w3.heap.size w3 (w3.alloc (.cells #[.int .i64 k1,.string ⟨#[101,118,101,114,121]⟩,.int .i64 m1,.int .i64 a3] 73)):=(Below.refl _ w3).alloc (Nat.le_refl _) _
     have hy4 : (w3.alloc (.cells #[.int .i64 k1,.string ⟨#[101,118,101,114,121]⟩,.int .i64 m1,.int .i64 a3] 73)).heap[w3.heap.size]? = some (.cells #[.int .i64 k1,.string ⟨#[101,118,101,114,121]⟩,.int .i64 m1,.int .i64 a3] 73 (0,0)):=heap_alloc_new w3 _
     have y1 : (w3.alloc (.cells #[.int .i64 k1,.string ⟨#[101,118,101,114,121]⟩,.int .i64 m1,.int .i64 a3] 73)).cell? ⟨w3.heap.size,1,none⟩ = some (.string ⟨#[101,118,101,114,121]⟩):=blk_cell hy4
     have y3 : (w3.alloc (.cells #[.int .i64 k1,.string ⟨#[101,118,101,114,121]⟩,.int .i64 m1,.int .i64 a3] 73)).cell? ⟨w3.heap.size,3,none⟩ = some (.int .i64 a3):=blk_cell hy4
     have HP4:=hid (HP3.out.below HP3.out.size ha4)
     have HE4:=hid (HE3.out.far (ha4.block z (by omega)))
     have HK4:=hid (HK3.out.trans (Kx.of ha4 (by omega)))
     have hz4 : z + 1 ≤ (w3.alloc (.cells #[.int .i64 k1,.string ⟨#[101,118,101,114,121]⟩,.int .i64 m1,.int .i64 a3] 73)).heap.size:=Nat.le_trans hz3 ha4.size
     clear ha4 hy4 HP3 HE3 HK3
     generalize w3.alloc (.cells #[.int .i64 k1,.string ⟨#[101,118,101,114,121]⟩,.int .i64 m1,.int .i64 a3] 73) = w4 at *
     obtain ⟨X,hX⟩ : ∃ X : Array Value,(SC.start kEvery a3).cells.toArray = X:=⟨_,rfl⟩
     have HBT:=hid (show Tryd.prog.built 64 [(0,.string ⟨#[101,118,101,114,121]⟩),(1,.int .i64 a3)] = some X by rw [← hX];kernel_rfl)
     have HXS:=hid (show X.size = SC.zero.cells.toArray.size by rw [← hX];rfl)
     have HXI:=hid (show (Tryd.prog.info? 64).map (·.size) = some X.size by rw [← hX];exact infoSt _)
     have HX1:=hid (show ∀ v ∈ X.toList,v.oneCell' = true by rw [← hX];exact SC.oneA _)
     have HX:=hid hX
     clear hX
     go_upto_region 6 with (first | (refine wl_lit (by rfl) 64 [(0,.tmp 18),(1,.tmp 20)] rfl [(0,.string ⟨#[101,118,101,114,121]⟩),(1,.int .i64 a3)] rfl X HBT.out ?_) | (refine wl_store_all (by rfl) 64 (.tmp 4) (.tmp 21) rfl w4.heap.size X rfl rfl SC.zero.cells.toArray _ (heap_alloc_new w4 _) HXS.out HXI.out HX1.out ?_))
     as_aux_lemma=>
       rw [alloc_setRow]
       have ha5 : Below w4.heap.size w4 (w4.alloc (.cells X 64)):=(Below.refl _ w4).alloc (Nat.le_refl _) _
       have hl5 : (w4.alloc (.cells X 64)).heap.size = w4.heap.size + 1:=Array.size_push _
       have HY5:=hid (show SB (w4.alloc (.cells X 64)) w4.heap.size (SC.start kEvery a3) by rw [← HX.out];exact heap_alloc_new w4 _)
       have HP5:=hid (HP4.out.below HP4.out.size ha5)
       have HE5:=hid (HE4.out.far (ha5.block z (by omega)))
       have HK5:=hid (HK4.out.trans (Kx.of ha5 (by omega)))
       clear ha5 y1 y3 HP4 HE4 HK4 HBT HXS HXI HX1 HX
       obtain ⟨y,hy⟩ : ∃ y,w4.heap.size = y:=⟨_,rfl⟩
       rw [hy] at HY5 hl5 hz4 ⊢
       generalize w4.alloc (.cells X 64) = w5 at *
       clear hy
       have hy5 : y + 1 ≤ w5.heap.size:=Nat.le_of_eq hl5.symm
       have k0 : w5.cell? ⟨y,0,none⟩ = some (.string ⟨#[101,118,101,114,121]⟩):=HY5.out.cell 0
       clear hl5
       go_wp2_with fail
       as_aux_lemma=>
         refine (line_every p q b y a3 (nx s) w5 HP5.out HY5.out (by omega)).mono ?_
         rintro e w6 ⟨t,s',c,hL,rfl,hy6,hst6,hp6,hk6,hs6⟩
         have HY6:=hid hy6
         have HT6:=hid hst6
         have HP6:=hid hp6
         have HE6:=hid (HE5.out.far (hk6.block z (by omega) hzq hzp))
         have HK6:=hid (HK5.out.trans (hk6.least (by omega)))
         have HL:=hid hL
         clear hy6 hst6 hp6 hk6 HY5 HP5 HE5 HK5 k0 hL
         go_wp2_with fail
         as_aux_lemma=>
           refine (show Calls Tryd.prog 32 #[.pointer (some ⟨p,0,none⟩),.string ⟨#[59]⟩] w6 _ from take_any p q b 0 s' kSemi w6 HP6.out).mono ?_
           rintro e w7 ⟨rfl,hp7,hk7⟩
           have HP7:=hid hp7
           have HY7:=hid (HY6.out.far (hk7.block y (by omega) (by omega) (by omega)))
           have HE7:=hid (HE6.out.far (hk7.block z (by omega) hzq hzp))
           have HK7:=hid (HK6.out.trans (hk7.least (by omega)))
           have HT7:=hid ((HT6.out.keep fun g hg=>hk7.block g hg.2 (by have:=hg.1;omega) (by have:=hg.1;omega)).mono fun g hg=>Fr.fx (z:=z) (y:=y) (w2:=w7) hg (by omega) (.inl (by omega)) hk7.size)
           clear hp7 hk7 HP6 HY6 HE6 HK6 HT6
           obtain ⟨X,hX⟩ : ∃ X : List Value,SC.cells c = X:=⟨_,rfl⟩
           have HX:=hid hX
           have hXs : X.toArray.size = 26:=by rw [← hX];rfl
           have hrx : w7.rangeAt y 0 X:=by rw [← hX];exact blk_range HY7.out
           have hi1:=hid (show (Tryd.prog.info? 64).map (·.size) = some X.length by rw [← hX];exact infoSt c)
           have hi2:=hid (show (Tryd.prog.info? 64).map (·.size) = some X.toArray.size by rw [← hX];exact infoSt c)
           have hx1:=hid (show ∀ v ∈ X.toArray.toList,v.oneCell' = true by rw [← hX];exact SC.oneA c)
           clear hX
           go_wp2_with (first | (refine wl_load_mid (by rfl) 64 (.tmp 4) rfl y 0 rfl X _ hrx Tryd.underlying64 rfl hi1.out ?_) | (refine wl_store_all (by rfl) 64 (.tmp 2) (.tmp 62) rfl z X.toArray rfl rfl SC.zero.cells.toArray _ HE7.out hXs hi2.out hx1.out ?_))
           have hres : StmtPost p q b s w (.returned (.agg X.toArray)) (w7.setRow z X.toArray):=by
             rw [← HX.out]
             exact StmtPost.of (y:=y) (RunS.line hse (by rw [ht];decide) (by rw [ht];decide) (by rw [ht];decide) (by rw [ht];exact HL.out)) HZ.out HT7.out HP7.out hp HK7.out
           refine bodyPost_ret (v:=.agg X.toArray) (results_c1 rfl _ _ _ ⟨z,0,none⟩ _ rfl (by have:=SC.loadRow c HE7.out;rw [HX.out] at this;exact this)) rfl ?_
           exact hres
end
end Go.Proofs.YtgmjpnnblhkbpaaDoor
