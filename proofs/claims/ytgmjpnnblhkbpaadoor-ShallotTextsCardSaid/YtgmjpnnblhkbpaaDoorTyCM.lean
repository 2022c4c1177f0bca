/-
  The parser's stmt at after, repeat and if, given body for what is left. No conditions.
-/
import Derived.Test.YtgmjpnnblhkbpaaDoorTyBM
namespace Go.Proofs.YtgmjpnnblhkbpaaDoor
open Go Go.RowKit Go.Sh Tx
open Go.Lib (hid)
def BdV (X : Nat → Prop) (w : World) (l : List St) (q : QS) : Prop:=∃ css,StV X w l css ∧ RP X w 26 q.A q.n css ∧ q.n ≤ q.d
theorem BdV.keep {X : Nat → Prop} {w w' : World} {l : List St} {q : QS} (h : BdV X w l q) (hb : ∀ b,X b → w'.heap[b]? = w.heap[b]?) : BdV X w' l q:=by
 obtain ⟨rs,h1,h2,h3⟩:=h
 exact ⟨rs,h1.keep hb,h2.keep hb,h3⟩
theorem BdV.mono {X Y : Nat → Prop} {w : World} {l : List St} {q : QS} (h : BdV X w l q) (hb : ∀ b,X b → Y b) : BdV Y w l q:=by
 obtain ⟨rs,h1,h2,h3⟩:=h
 exact ⟨rs,h1.mono hb,h2.mono hb,h3⟩
theorem BdV.zero {X : Nat → Prop} {w : World} : BdV X w [] .zero:=⟨[],.nil,RP.none_,Nat.le_refl _⟩
section
set_option maxHeartbeats 16000000
set_option maxRecDepth 100000
set_option maxRecDepth 100000 in
theorem stmt_after (p q b n : Nat) (hbd : BodyOK p q n) (s : PS) (w : World) (hmu : mu s ≤ n) (hb12 : s.2 = 0 → b ≤ 12) (h : Ps w p q s b 0) (hse : sees s kinds = true) (ht : (pk s.1).text = kAfter) :
   Calls Tryd.prog 17 #[.pointer (some ⟨p,0,none⟩)] w (StmtPost p q b s w):=by
 have hp:=h.size
 have hqp:=h.lt
 have HBD:=hid hbd
 have HMU:=hid hmu
 have HB12:=hid hb12
 have HB1:=hid (show Below w.heap.size w (w.alloc (.cells zS 64)) from (Below.refl _ w).alloc (Nat.le_refl _) _)
 have HP1:=hid (h.below hp HB1.out)
 have HE1:=hid (show SB (w.alloc (.cells zS 64)) w.heap.size .zero from heap_alloc_new w _)
 have hs1 : (w.alloc (.cells zS 64)).heap.size = w.heap.size + 1:=Array.size_push _
 clear h hbd hmu hb12
 go_enter Tryd.func17,Tryd.ntmps17
 go_upto_region 1 with fail
 obtain ⟨z,hz⟩ : ∃ z,w.heap.size = z:=⟨_,rfl⟩
 have HZ:=hid hz
 rw [hz] at HB1 HE1 hs1 hp
 have HK1:=hid (show Kx q p z w _ from Kx.of HB1.out (Nat.le_refl _))
 rw [hz]
 have hz1 : z + 1 ≤ (w.alloc (.cells zS 64)).heap.size:=Nat.le_of_eq hs1.symm
 have hzq : z ≠ q:=by omega
 have hzp : z ≠ p:=by omega
 clear hz hs1 HB1
 generalize w.alloc (.cells zS 64) = w1 at *
 have ha2 : Below w1.heap.size w1 (w1.alloc (.cells kS 9)):=(Below.refl _ w1).alloc (Nat.le_refl _) _
 have hl2 : (w1.alloc (.cells kS 9)).heap.size = w1.heap.size + 1:=Array.size_push _
 have HSE:=hid (show Calls Tryd.prog 13 #[.pointer (some ⟨p,0,none⟩),.slice (some ⟨w1.heap.size,0,none⟩) 10 10] (w1.alloc (.cells kS 9)) (fun e w'=>e = .returned (.bool (sees s kinds)) ∧ Below (w1.alloc (.cells kS 9)).heap.size (w1.alloc (.cells kS 9)) w') from sees_any p q b 0 s (some ⟨w1.heap.size,0,none⟩) 10 kinds _ (HP1.out.below HP1.out.size ha2) (RS.new w1 kinds) (Nat.le_add_left 10 90))
 have HA2:=hid ha2
 clear ha2
 go_wp2_with fail
 refine HSE.out.mono ?_
 rintro e w2 ⟨rfl,hb2⟩
 have hb12:=HA2.out.trans (bl_least hb2 (by omega))
 have hk2 : Kx q p w1.heap.size w1 w2:=Kx.of hb12 (Nat.le_refl _)
 have HP2:=hid (HP1.out.below HP1.out.size hb12)
 have HE2:=hid (HE1.out.far (hk2.block z (by omega) hzq hzp))
 have HK2:=hid (HK1.out.trans (hk2.least (by omega)))
 have hz2 : z + 1 ≤ w2.heap.size:=Nat.le_trans hz1 hk2.size
 clear hb2 hb12 hk2 HA2 hl2 HSE HP1 HE1 HK1
 rw [hse]
 have c0:=HP2.out.c0
 have HNX:=hid (Next_any q s.1 w2 HP2.out.stm)
 rw [ht,show sb kAfter = ⟨#[97,102,116,101,114]⟩ from rfl] at HNX
 generalize (pk s.1).kind = k1 at *
 generalize (pk s.1).num = m1 at *
 go_wp2_with fail
 as_aux_lemma=>
   refine HNX.out.mono ?_
   rintro e w3 ⟨⟨a3,rfl⟩,hs3,hq3⟩
   have HP3:=hid (show Ps w3 p q (nx s) b 0 from HP2.out.moved hs3 hq3 HP2.out.size)
   have hk3 : Kx q p w2.heap.size w2 w3:=hq3.wide (.inl rfl) (.inl rfl)
   have HE3:=hid (HE2.out.far (hk3.block z (by omega) hzq hzp))
   have HK3:=hid (HK2.out.trans (hk3.least (by omega)))
   have hz3 : z + 1 ≤ w3.heap.size:=Nat.le_trans hz2 hk3.size
   clear hs3 hq3 hk3 HNX c0 HP2 HE2 HK2
   go_upto_region 5 with fail
   as_aux_lemma=>
     have ha4 : Below w3.heap.size w3 (w3.alloc (.cells #[.int .i64 k1,.string ⟨#[97,102,116,101,114]⟩,.int .i64 m1,.int .i64 a3] 73)):=(Below.refl _ w3).alloc (Nat.le_refl _) _
     have hy4 : (w3.alloc (.cells #[.int .i64 k1,.string ⟨#[97,102,116,101,114]⟩,.int .i64 m1,.int .i64 a3] 73)).heap[w3.heap.size]? = some (.cells #[.int .i64 k1,.string ⟨#[97,102,116,101,114]⟩,.int .i64 m1,.int .i64 a3] 73 (0,0)):=heap_alloc_new w3 _
     have y1 : (w3.alloc (.cells #[.int .i64 k1,.string ⟨#[97,102,116,101,114]⟩,.int .i64 m1,.int .i64 a3] 73)).cell? ⟨w3.heap.size,1,none⟩ = some (.string ⟨#[97,102,116,101,114]⟩):=blk_cell hy4
     have y3 : (w3.alloc (.cells #[.int .i64 k1,.string ⟨#[97,102,116,101,114]⟩,.int .i64 m1,.int .i64 a3] 73)).cell? ⟨w3.heap.size,3,none⟩ = some (.int .i64 a3):=blk_cell hy4
     have HP4:=hid (HP3.out.below HP3.out.size ha4)
     have HE4:=hid (HE3.out.far (ha4.block z (by omega)))
     have HK4:=hid (HK3.out.trans (Kx.of ha4 (by omega)))
     have hz4 : z + 1 ≤ (w3.alloc (.cells #[.int .i64 k1,.string ⟨#[97,102,116,101,114]⟩,.int .i64 m1,.int .i64 a3] 73)).heap.size:=Nat.le_trans hz3 ha4.size
     clear ha4 hy4 HP3 HE3 HK3
     generalize w3.alloc (.cells #[.int .i64 k1,.string ⟨#[97,102,116,101,114]⟩,.int .i64 m1,.int .i64 a3] 73) = w4 at *
     obtain ⟨X,hX⟩ : ∃ X : Array Value,(SC.start kAfter a3).cells.toArray = X:=⟨_,rfl⟩
     have HBT:=hid (show Tryd.prog.built 64 [(0,.string ⟨#[97,102,116,101,114]⟩),(1,.int .i64 a3)] = some X by rw [← hX];kernel_rfl)
     have HXS:=hid (show X.size = SC.zero.cells.toArray.size by rw [← hX];rfl)
     have HXI:=hid (show (Tryd.prog.info? 64).map (·.size) = some X.size by rw [← hX];exact infoSt _)
     have HX1:=hid (show ∀ v ∈ X.toList,v.oneCell' = true by rw [← hX];exact SC.oneA _)
     have HX:=hid hX
     clear hX
     go_upto_region 6 with (first | (refine wl_lit (by rfl) 64 [(0,.tmp 18),(1,.tmp 20)] rfl [(0,.string ⟨#[97,102,116,101,114]⟩),(1,.int .i64 a3)] rfl X HBT.out ?_) | (refine wl_store_all (by rfl) 64 (.tmp 4) (.tmp 21) rfl w4.heap.size X rfl rfl SC.zero.cells.toArray _ (heap_alloc_new w4 _) HXS.out HXI.out HX1.out ?_))
     as_aux_lemma=>
       rw [alloc_setRow]
       have ha5 : Below w4.heap.size w4 (w4.alloc (.cells X 64)):=(Below.refl _ w4).alloc (Nat.le_refl _) _
       have hl5 : (w4.alloc (.cells X 64)).heap.size = w4.heap.size + 1:=Array.size_push _
       have HY5:=hid (show SB (w4.alloc (.cells X 64)) w4.heap.size (SC.start kAfter a3) by rw [← HX.out];exact heap_alloc_new w4 _)
       have HP5:=hid (HP4.out.below HP4.out.size ha5)
       have HE5:=hid (HE4.out.far (ha5.block z (by omega)))
       have HK5:=hid (HK4.out.trans (Kx.of ha5 (by omega)))
       clear ha5 y1 y3 HP4 HE4 HK4 HBT HXS HXI HX1 HX
       obtain ⟨y,hy⟩ : ∃ y,w4.heap.size = y:=⟨_,rfl⟩
       rw [hy] at HY5 hl5 hz4 ⊢
       generalize w4.alloc (.cells X 64) = w5 at *
       clear hy
       have hy5 : y + 1 ≤ w5.heap.size:=Nat.le_of_eq hl5.symm
       have k0 : w5.cell? ⟨y,0,none⟩ = some (.string ⟨#[97,102,116,101,114]⟩):=HY5.out.cell 0
       clear hl5
       go_wp2_with fail
       as_aux_lemma=>
         have HBB:=hid (HB12.out (seen_ok hse))
         have HM5:=hid (Nat.le_trans (Nat.le_of_lt (mu_nx (seen_some hse) (seen_ok hse))) HMU.out)
         have HA5:=hid (show TrV (Fx z y w5) w5 [.none] [Q5.zero.cells] from TrV.leaf .none rfl 0)
         have HU5:=hid (show BdV (Fx z y w5) w5 [] .zero from .zero)
         have HV5:=hid (show BdV (Fx z y w5) w5 [] .zero from .zero)
         have hs5 : y + 1 ≤ w5.heap.size:=hy5
         have HY5:=hid (show SB w5 y (SC.mk (sb kAfter) a3 Q2.zero Q5.zero Q5.zero Q5.zero QS.zero Q2.zero Q2.zero QS.zero QS.zero) from HY5.out)
         clear HB12 HMU hy5
         refine (expr_any p q b 0 (nx s) w5 HP5.out (fun _=>by decide)).mono ?_
         rintro e w6 ⟨x1,s1,o1,t1,m1,a1,A1,n1,d1,hr1,rfl,htr,hp6,hk6⟩
         have HP6:=hid hp6
         have HRN1:=hid hr1
         have HN:=hid (htr.mono (fun g hg=>Fr.fx (z:=z) (y:=y) hg (by omega) (.inl (by omega)) (Nat.le_refl _)))
         have HM6:=hid (Nat.le_trans (mu_run hr1) HM5.out)
         clear hp6 htr HP5 HM5 hr1
         have HY6:=hid (HY5.out.far (hk6.block y (by omega) (by omega) (by omega)))
         have HE6:=hid (HE5.out.far (hk6.block z (by omega) hzq hzp))
         have HK6:=hid (HK5.out.trans (hk6.least (by omega)))
         have hs6 : y + 1 ≤ w6.heap.size:=Nat.le_trans hs5 hk6.size
         have HA6:=hid ((HA5.out.keep (fun g hg=>hk6.block g hg.2.1 (by have:=hg.1;omega) (by have:=hg.1;omega))).mono (fun g hg=>hg.more hk6.size))
         have HU6:=hid ((HU5.out.keep (fun g hg=>hk6.block g hg.2.1 (by have:=hg.1;omega) (by have:=hg.1;omega))).mono (fun g hg=>hg.more hk6.size))
         have HV6:=hid ((HV5.out.keep (fun g hg=>hk6.block g hg.2.1 (by have:=hg.1;omega) (by have:=hg.1;omega))).mono (fun g hg=>hg.more hk6.size))
         clear hk6 HY5 HE5 HK5 HA5 HU5 HV5
         obtain ⟨v0,g0⟩ : ∃ v,w6.cell? ⟨y,4,none⟩ = some v:=⟨_,HY6.out.cell 4⟩
         have l0:=HY6.out.free 4
         obtain ⟨v1,g1⟩ : ∃ v,w6.cell? ⟨y,5,none⟩ = some v:=⟨_,HY6.out.cell 5⟩
         have l1:=HY6.out.free 5
         obtain ⟨v2,g2⟩ : ∃ v,w6.cell? ⟨y,6,none⟩ = some v:=⟨_,HY6.out.cell 6⟩
         have l2:=HY6.out.free 6
         obtain ⟨v3,g3⟩ : ∃ v,w6.cell? ⟨y,7,none⟩ = some v:=⟨_,HY6.out.cell 7⟩
         have l3:=HY6.out.free 7
         obtain ⟨v4,g4⟩ : ∃ v,w6.cell? ⟨y,8,none⟩ = some v:=⟨_,HY6.out.cell 8⟩
         have l4:=HY6.out.free 8
         go_upto_region 11 with fail
         as_aux_lemma=>
           have hb : Below y w6 (((((w6.setCell ⟨y,4,none⟩ (.string o1)).setCell ⟨y,5,none⟩ (.int .i64 m1)).setCell ⟨y,6,none⟩ (.string t1)).setCell ⟨y,7,none⟩ (.int .i64 a1)).setCell ⟨y,8,none⟩ (.slice A1 n1 d1)):=((((((Below.refl y w6).setCell (p:=⟨y,4,none⟩) (Nat.le_refl _) _).setCell (p:=⟨y,5,none⟩) (Nat.le_refl _) _).setCell (p:=⟨y,6,none⟩) (Nat.le_refl _) _).setCell (p:=⟨y,7,none⟩) (Nat.le_refl _) _).setCell (p:=⟨y,8,none⟩) (Nat.le_refl _) _)
           have hf : ∀ g,g ≠ y → (((((w6.setCell ⟨y,4,none⟩ (.string o1)).setCell ⟨y,5,none⟩ (.int .i64 m1)).setCell ⟨y,6,none⟩ (.string t1)).setCell ⟨y,7,none⟩ (.int .i64 a1)).setCell ⟨y,8,none⟩ (.slice A1 n1 d1)).heap[g]? = w6.heap[g]?:=fun g hg=>(Below.heap_setCell _ ⟨y,8,none⟩ _ g hg).trans ((Below.heap_setCell _ ⟨y,7,none⟩ _ g hg).trans ((Below.heap_setCell _ ⟨y,6,none⟩ _ g hg).trans ((Below.heap_setCell _ ⟨y,5,none⟩ _ g hg).trans (Below.heap_setCell _ ⟨y,4,none⟩ _ g hg))))
           have HP7:=hid (HP6.out.below (show p < y by omega) hb)
           have HY7:=hid (HY6.out.putA (Q5.mk o1 m1 t1 a1 A1 n1 d1))
           have HE7:=hid (HE6.out.far (hf z (by omega)))
           have HK7:=hid (HK6.out.trans (Kx.of hb (by omega)))
           have hs7:=Nat.le_trans hs6 hb.size
           have HA7:=hid ((HN.out.keep (fun g hg=>hf g hg.2.2)).mono (fun g hg=>hg.more hb.size))
           have HU7:=hid ((HU6.out.keep (fun g hg=>hf g hg.2.2)).mono (fun g hg=>hg.more hb.size))
           have HV7:=hid ((HV6.out.keep (fun g hg=>hf g hg.2.2)).mono (fun g hg=>hg.more hb.size))
           clear hb hf g0 l0 g1 l1 g2 l2 g3 l3 g4 l4 HP6 HY6 HE6 HK6 HA6 HU6 HV6 HN
           generalize (((((w6.setCell ⟨y,4,none⟩ (.string o1)).setCell ⟨y,5,none⟩ (.int .i64 m1)).setCell ⟨y,6,none⟩ (.string t1)).setCell ⟨y,7,none⟩ (.int .i64 a1)).setCell ⟨y,8,none⟩ (.slice A1 n1 d1)) = w7 at *
           go_wp2_with fail
           as_aux_lemma=>
             refine (HBD.out b s1 w7 HM6.out (fun _=>HBB.out) HBB.out HP7.out).mono ?_
             rintro e w8 ⟨l2,s2,A2,n2,d2,css,hr2,rfl,hst,hrp,hnd,hp8,hk8⟩
             have HP8:=hid hp8
             have HRN2:=hid hr2
             have HN:=hid (show BdV (Fx z y w8) w8 l2 ⟨A2,n2,d2⟩ from ⟨css,hst.mono (fun g hg=>Fr.fx (z:=z) (y:=y) hg (by omega) (.inl (by omega)) (Nat.le_refl _)),hrp.mono (fun g hg=>Fr.fx (z:=z) (y:=y) hg (by omega) (.inl (by omega)) (Nat.le_refl _)),hnd⟩)
             have HM8:=hid (Nat.le_trans (mu_runS hr2) HM6.out)
             clear hp8 hst hrp hnd HP7 HM6 hr2
             have HY8:=hid (HY7.out.far (hk8.block y (by omega) (by omega) (by omega)))
             have HE8:=hid (HE7.out.far (hk8.block z (by omega) hzq hzp))
             have HK8:=hid (HK7.out.trans (hk8.least (by omega)))
             have hs8 : y + 1 ≤ w8.heap.size:=Nat.le_trans hs7 hk8.size
             have HA8:=hid ((HA7.out.keep (fun g hg=>hk8.block g hg.2.1 (by have:=hg.1;omega) (by have:=hg.1;omega))).mono (fun g hg=>hg.more hk8.size))
             have HU8:=hid ((HU7.out.keep (fun g hg=>hk8.block g hg.2.1 (by have:=hg.1;omega) (by have:=hg.1;omega))).mono (fun g hg=>hg.more hk8.size))
             have HV8:=hid ((HV7.out.keep (fun g hg=>hk8.block g hg.2.1 (by have:=hg.1;omega) (by have:=hg.1;omega))).mono (fun g hg=>hg.more hk8.size))
             clear hk8 HY7 HE7 HK7 HA7 HU7 HV7
             obtain ⟨v0,g0⟩ : ∃ v,w8.cell? ⟨y,24,none⟩ = some v:=⟨_,HY8.out.cell 24⟩
             have l0:=HY8.out.free 24
             go_upto_region 22 with fail
             as_aux_lemma=>
               have hb : Below y w8 (w8.setCell ⟨y,24,none⟩ (.slice A2 n2 d2)):=((Below.refl y w8).setCell (p:=⟨y,24,none⟩) (Nat.le_refl _) _)
               have hf : ∀ g,g ≠ y → (w8.setCell ⟨y,24,none⟩ (.slice A2 n2 d2)).heap[g]? = w8.heap[g]?:=fun g hg=>Below.heap_setCell _ ⟨y,24,none⟩ _ g hg
               have HP9:=hid (HP8.out.below (show p < y by omega) hb)
               have HY9:=hid (HY8.out.putBody (QS.mk A2 n2 d2))
               have HE9:=hid (HE8.out.far (hf z (by omega)))
               have HK9:=hid (HK8.out.trans (Kx.of hb (by omega)))
               have hs9:=Nat.le_trans hs8 hb.size
               have HA9:=hid ((HA8.out.keep (fun g hg=>hf g hg.2.2)).mono (fun g hg=>hg.more hb.size))
               have HU9:=hid ((HN.out.keep (fun g hg=>hf g hg.2.2)).mono (fun g hg=>hg.more hb.size))
               have HV9:=hid ((HV8.out.keep (fun g hg=>hf g hg.2.2)).mono (fun g hg=>hg.more hb.size))
               clear hb hf g0 l0 HP8 HY8 HE8 HK8 HA8 HU8 HV8 HN
               generalize (w8.setCell ⟨y,24,none⟩ (.slice A2 n2 d2)) = w9 at *
               obtain ⟨bs,hv1,hv2,hv3⟩:=HU9.out
               obtain ⟨es,hv4,hv5,hv6⟩:=HV9.out
               obtain ⟨X,hX⟩ : ∃ X : List Value,SC.cells (SC.mk (sb kAfter) a3 Q2.zero (Q5.mk o1 m1 t1 a1 A1 n1 d1) Q5.zero Q5.zero QS.zero Q2.zero Q2.zero (QS.mk A2 n2 d2) QS.zero) = X:=⟨_,rfl⟩
               have HX:=hid hX
               have hXs : X.toArray.size = 26:=by rw [← hX];rfl
               have hrx : w9.rangeAt y 0 X:=by rw [← hX];exact blk_range HY9.out
               have hi1:=hid (show (Tryd.prog.info? 64).map (·.size) = some X.length by rw [← hX];exact infoSt (SC.mk (sb kAfter) a3 Q2.zero (Q5.mk o1 m1 t1 a1 A1 n1 d1) Q5.zero Q5.zero QS.zero Q2.zero Q2.zero (QS.mk A2 n2 d2) QS.zero))
               have hi2:=hid (show (Tryd.prog.info? 64).map (·.size) = some X.toArray.size by rw [← hX];exact infoSt (SC.mk (sb kAfter) a3 Q2.zero (Q5.mk o1 m1 t1 a1 A1 n1 d1) Q5.zero Q5.zero QS.zero Q2.zero Q2.zero (QS.mk A2 n2 d2) QS.zero))
               have hx1:=hid (show ∀ v ∈ X.toArray.toList,v.oneCell' = true by rw [← hX];exact SC.oneA (SC.mk (sb kAfter) a3 Q2.zero (Q5.mk o1 m1 t1 a1 A1 n1 d1) Q5.zero Q5.zero QS.zero Q2.zero Q2.zero (QS.mk A2 n2 d2) QS.zero))
               clear hX
               go_wp2_with (first | (refine wl_load_mid (by rfl) 64 (.tmp 4) rfl y 0 rfl X _ hrx Tryd.underlying64 rfl hi1.out ?_) | (refine wl_store_all (by rfl) 64 (.tmp 2) (.tmp 62) rfl z X.toArray rfl rfl SC.zero.cells.toArray _ HE9.out hXs hi2.out hx1.out ?_))
               have hres : StmtPost p q b s w (.returned (.agg X.toArray)) (w9.setRow z X.toArray):=by
                 rw [← HX.out]
                 exact StmtPost.of (y:=y) (RunS.after hse ht HRN1.out HRN2.out) HZ.out (StV.cons (k:=(SC.mk (sb kAfter) a3 Q2.zero (Q5.mk o1 m1 t1 a1 A1 n1 d1) Q5.zero Q5.zero QS.zero Q2.zero Q2.zero (QS.mk A2 n2 d2) QS.zero)) (rs:=[]) rfl rfl HA9.out (TrV.leaf .none rfl 0) (TrV.leaf .none rfl 0) ⟨.nil,RP.none_,Nat.le_refl _⟩ rfl rfl hv1 ⟨hv2,hv3⟩ hv4 ⟨hv5,hv6⟩ .nil) HP9.out hp HK9.out
               refine bodyPost_ret (v:=.agg X.toArray) (results_c1 rfl _ _ _ ⟨z,0,none⟩ _ rfl (by have:=SC.loadRow (SC.mk (sb kAfter) a3 Q2.zero (Q5.mk o1 m1 t1 a1 A1 n1 d1) Q5.zero Q5.zero QS.zero Q2.zero Q2.zero (QS.mk A2 n2 d2) QS.zero) HE9.out;rw [HX.out] at this;exact this)) rfl ?_
               exact hres
set_option maxRecDepth 100000 in
theorem stmt_repeat (p q b n : Nat) (hbd : BodyOK p q n) (s : PS) (w : World) (hmu : mu s ≤ n) (hb12 : s.2 = 0 → b ≤ 12) (h : Ps w p q s b 0) (hse : sees s kinds = true) (ht : (pk s.1).text = kRepeat) :
   Calls Tryd.prog 17 #[.pointer (some ⟨p,0,none⟩)] w (StmtPost p q b s w):=by
 have hp:=h.size
 have hqp:=h.lt
 have HBD:=hid hbd
 have HMU:=hid hmu
 have HB12:=hid hb12
 have HB1:=hid (show Below w.heap.size w (w.alloc (.cells zS 64)) from (Below.refl _ w).alloc (Nat.le_refl _) _)
 have HP1:=hid (h.below hp HB1.out)
 have HE1:=hid (show SB (w.alloc (.cells zS 64)) w.heap.size .zero from heap_alloc_new w _)
 have hs1 : (w.alloc (.cells zS 64)).heap.size = w.heap.size + 1:=Array.size_push _
 clear h hbd hmu hb12
 go_enter Tryd.func17,Tryd.ntmps17
 go_upto_region 1 with fail
 obtain ⟨z,hz⟩ : ∃ z,w.heap.size = z:=⟨_,rfl⟩
 have HZ:=hid hz
 rw [hz] at HB1 HE1 hs1 hp
 have HK1:=hid (show Kx q p z w _ from Kx.of HB1.out (Nat.le_refl _))
 rw [hz]
 have hz1 : z + 1 ≤ (w.alloc (.cells zS 64)).heap.size:=Nat.le_of_eq hs1.symm
 have hzq : z ≠ q:=by omega
 have hzp : z ≠ p:=by omega
 clear hz hs1 HB1
 generalize w.alloc (.cells zS 64) = w1 at *
 have ha2 : Below w1.heap.size w1 (w1.alloc (.cells kS 9)):=(Below.refl _ w1).alloc (Nat.le_refl _) _
 have hl2 : (w1.alloc (.cells kS 9)).heap.size = w1.heap.size + 1:=Array.size_push _
 have HSE:=hid (show Calls Tryd.prog 13 #[.pointer (some ⟨p,0,none⟩),.slice (some ⟨w1.heap.size,0,none⟩) 10 10] (w1.alloc (.cells kS 9)) (fun e w'=>e = .returned (.bool (sees s kinds)) ∧ Below (w1.alloc (.cells kS 9)).heap.size (w1.alloc (.cells kS 9)) w') from sees_any p q b 0 s (some ⟨w1.heap.size,0,none⟩) 10 kinds _ (HP1.out.below HP1.out.size ha2) (RS.new w1 kinds) (Nat.le_add_left 10 90))
 have HA2:=hid ha2
 clear ha2
 go_wp2_with fail
 refine HSE.out.mono ?_
 rintro e w2 ⟨rfl,hb2⟩
 have hb12:=HA2.out.trans (bl_least hb2 (by omega))
 have hk2 : Kx q p w1.heap.size w1 w2:=Kx.of hb12 (Nat.le_refl _)
 have HP2:=hid (HP1.out.below HP1.out.size hb12)
 have HE2:=hid (HE1.out.far (hk2.block z (by omega) hzq hzp))
 have HK2:=hid (HK1.out.trans (hk2.least (by omega)))
 have hz2 : z + 1 ≤ w2.heap.size:=Nat.le_trans hz1 hk2.size
 clear hb2 hb12 hk2 HA2 hl2 HSE HP1 HE1 HK1
 rw [hse]
 have c0:=HP2.out.c0
 have HNX:=hid (Next_any q s.1 w2 HP2.out.stm)
 rw [ht,show sb kRepeat = ⟨#[114,101,112,101,97,116]⟩ from rfl] at HNX
 generalize (pk s.1).kind = k1 at *
 generalize (pk s.1).num = m1 at *
 go_wp2_with fail
 as_aux_lemma=>
   refine HNX.out.mono ?_
   rintro e w3 ⟨⟨a3,rfl⟩,hs3,hq3⟩
   have HP3:=hid (show Ps w3 p q (nx s) b 0 from HP2.out.moved hs3 hq3 HP2.out.size)
   have hk3 : Kx q p w2.heap.size w2 w3:=hq3.wide (.inl rfl) (.inl rfl)
   have HE3:=hid (HE2.out.far (hk3.block z (by omega) hzq hzp))
   have HK3:=hid (HK2.out.trans (hk3.least (by omega)))
   have hz3 : z + 1 ≤ w3.heap.size:=Nat.le_trans hz2 hk3.size
   clear hs3 hq3 hk3 HNX c0 HP2 HE2 HK2
   go_upto_region 5 with fail
   as_aux_lemma=>
     have ha4 : Below w3.heap.size w3 (w3.alloc (.cells #[.int .i64 k1,.string ⟨#[114,101,112,101,97,116]⟩,.int .i64 m1,.int .i64 a3] 73)):=(Below.refl _ w3).alloc (Nat.le_refl _) _
     have hy4 : (w3.alloc (.cells #[.int .i64 k1,.string ⟨#[114,101,112,101,97,116]⟩,.int .i64 m1,.int .i64 a3] 73)).heap[w3.heap.size]? = some (.cells #[.int .i64 k1,.string ⟨#[114,101,112,101,97,116]⟩,.int .i64 m1,.int .i64 a3] 73 (0,0)):=heap_alloc_new w3 _
     have y1 : (w3.alloc (.cells #[.int .i64 k1,.string ⟨#[114,101,112,101,97,116]⟩,.int .i64 m1,.int .i64 a3] 73)).cell? ⟨w3.heap.size,1,none⟩ = some (.string ⟨#[114,101,112,101,97,116]⟩):=blk_cell hy4
     have y3 : (w3.alloc (.cells #[.int .i64 k1,.string ⟨#[114,101,112,101,97,116]⟩,.int .i64 m1,.int .i64 a3] 73)).cell? ⟨w3.heap.size,3,none⟩ = some (.int .i64 a3):=blk_cell hy4
     have HP4:=hid (HP3.out.below HP3.out.size ha4)
     have HE4:=hid (HE3.out.far (ha4.block z (by omega)))
     have HK4:=hid (HK3.out.trans (Kx.of ha4 (by omega)))
     have hz4 : z + 1 ≤ (w3.alloc (.cells #[.int .i64 k1,.string ⟨#[114,101,112,101,97,116]⟩,.int .i64 m1,.int .i64 a3] 73)).heap.size:=Nat.le_trans hz3 ha4.size
     clear ha4 hy4 HP3 HE3 HK3
     generalize w3.alloc (.cells #[.int .i64 k1,.string ⟨#[114,101,112,101,97,116]⟩,.int .i64 m1,.int .i64 a3] 73) = w4 at *
     obtain ⟨X,hX⟩ : ∃ X : Array Value,(SC.start kRepeat a3).cells.toArray = X:=⟨_,rfl⟩
     have HBT:=hid (show Tryd.prog.built 64 [(0,.string ⟨#[114,101,112,101,97,116]⟩),(1,.int .i64 a3)] = some X by rw [← hX];kernel_rfl)
     have HXS:=hid (show X.size = SC.zero.cells.toArray.size by rw [← hX];rfl)
     have HXI:=hid (show (Tryd.prog.info? 64).map (·.size) = some X.size by rw [← hX];exact infoSt _)
     have HX1:=hid (show ∀ v ∈ X.toList,v.oneCell' = true by rw [← hX];exact SC.oneA _)
     have HX:=hid hX
     clear hX
     go_upto_region 6 with (first | (refine wl_lit (by rfl) 64 [(0,.tmp 18),(1,.tmp 20)] rfl [(0,.string ⟨#[114,101,112,101,97,116]⟩),(1,.int .i64 a3)] rfl X HBT.out ?_) | (refine wl_store_all (by rfl) 64 (.tmp 4) (.tmp 21) rfl w4.heap.size X rfl rfl SC.zero.cells.toArray _ (heap_alloc_new w4 _) HXS.out HXI.out HX1.out ?_))
     as_aux_lemma=>
       rw [alloc_setRow]
       have ha5 : Below w4.heap.size w4 (w4.alloc (.cells X 64)):=(Below.refl _ w4).alloc (Nat.le_refl _) _
       have hl5 : (w4.alloc (.cells X 64)).heap.size = w4.heap.size + 1:=Array.size_push _
       have HY5:=hid (show SB (w4.alloc (.cells X 64)) w4.heap.size (SC.start kRepeat a3) by rw [← HX.out];exact heap_alloc_new w4 _)
       have HP5:=hid (HP4.out.below HP4.out.size ha5)
       have HE5:=hid (HE4.out.far (ha5.block z (by omega)))
       have HK5:=hid (HK4.out.trans (Kx.of ha5 (by omega)))
       clear ha5 y1 y3 HP4 HE4 HK4 HBT HXS HXI HX1 HX
       obtain ⟨y,hy⟩ : ∃ y,w4.heap.size = y:=⟨_,rfl⟩
       rw [hy] at HY5 hl5 hz4 ⊢
       generalize w4.alloc (.cells X 64) = w5 at *
       clear hy
       have hy5 : y + 1 ≤ w5.heap.size:=Nat.le_of_eq hl5.symm
       have k0 : w5.cell? ⟨y,0,none⟩ = some (.string ⟨#[114,101,112,101,97,116]⟩):=HY5.out.cell 0
       clear hl5
       go_wp2_with fail
       as_aux_lemma=>
         have HBB:=hid (HB12.out (seen_ok hse))
         have HM5:=hid (Nat.le_trans (Nat.le_of_lt (mu_nx (seen_some hse) (seen_ok hse))) HMU.out)
         have HA5:=hid (show TrV (Fx z y w5) w5 [.none] [Q5.zero.cells] from TrV.leaf .none rfl 0)
         have HU5:=hid (show BdV (Fx z y w5) w5 [] .zero from .zero)
         have HV5:=hid (show BdV (Fx z y w5) w5 [] .zero from .zero)
         have hs5 : y + 1 ≤ w5.heap.size:=hy5
         have HY5:=hid (show SB w5 y (SC.mk (sb kRepeat) a3 Q2.zero Q5.zero Q5.zero Q5.zero QS.zero Q2.zero Q2.zero QS.zero QS.zero) from HY5.out)
         clear HB12 HMU hy5
         refine (ref_any p q b 0 (nx s) w5 HP5.out).mono ?_
         rintro e w6 ⟨⟨a1,rfl⟩,hp6,hk6⟩
         have HP6:=hid hp6
         have HM6:=hid (Nat.le_trans (mu_ref (nx s)) HM5.out)
         clear hp6 HP5 HM5
         have HY6:=hid (HY5.out.far (hk6.block y (by omega) (by omega) (by omega)))
         have HE6:=hid (HE5.out.far (hk6.block z (by omega) hzq hzp))
         have HK6:=hid (HK5.out.trans (hk6.least (by omega)))
         have hs6 : y + 1 ≤ w6.heap.size:=Nat.le_trans hs5 hk6.size
         have HA6:=hid ((HA5.out.keep (fun g hg=>hk6.block g hg.2.1 (by have:=hg.1;omega) (by have:=hg.1;omega))).mono (fun g hg=>hg.more hk6.size))
         have HU6:=hid ((HU5.out.keep (fun g hg=>hk6.block g hg.2.1 (by have:=hg.1;omega) (by have:=hg.1;omega))).mono (fun g hg=>hg.more hk6.size))
         have HV6:=hid ((HV5.out.keep (fun g hg=>hk6.block g hg.2.1 (by have:=hg.1;omega) (by have:=hg.1;omega))).mono (fun g hg=>hg.more hk6.size))
         clear hk6 HY5 HE5 HK5 HA5 HU5 HV5
         obtain ⟨u1,hu1⟩ : ∃ u1,(refS (nx s)).1 = u1:=⟨_,rfl⟩
         rw [hu1]
         have HUN1:=hid hu1
         clear hu1
         obtain ⟨v0,g0⟩ : ∃ v,w6.cell? ⟨y,2,none⟩ = some v:=⟨_,HY6.out.cell 2⟩
         have l0:=HY6.out.free 2
         obtain ⟨v1,g1⟩ : ∃ v,w6.cell? ⟨y,3,none⟩ = some v:=⟨_,HY6.out.cell 3⟩
         have l1:=HY6.out.free 3
         go_upto_region 14 with fail
         as_aux_lemma=>
           have hb : Below y w6 ((w6.setCell ⟨y,2,none⟩ (.string (sb u1))).setCell ⟨y,3,none⟩ (.int .i64 a1)):=(((Below.refl y w6).setCell (p:=⟨y,2,none⟩) (Nat.le_refl _) _).setCell (p:=⟨y,3,none⟩) (Nat.le_refl _) _)
           have hf : ∀ g,g ≠ y → ((w6.setCell ⟨y,2,none⟩ (.string (sb u1))).setCell ⟨y,3,none⟩ (.int .i64 a1)).heap[g]? = w6.heap[g]?:=fun g hg=>(Below.heap_setCell _ ⟨y,3,none⟩ _ g hg).trans (Below.heap_setCell _ ⟨y,2,none⟩ _ g hg)
           have HP7:=hid (HP6.out.below (show p < y by omega) hb)
           have HY7:=hid (HY6.out.putName (Q2.mk (sb u1) a1))
           have HE7:=hid (HE6.out.far (hf z (by omega)))
           have HK7:=hid (HK6.out.trans (Kx.of hb (by omega)))
           have hs7:=Nat.le_trans hs6 hb.size
           have HA7:=hid ((HA6.out.keep (fun g hg=>hf g hg.2.2)).mono (fun g hg=>hg.more hb.size))
           have HU7:=hid ((HU6.out.keep (fun g hg=>hf g hg.2.2)).mono (fun g hg=>hg.more hb.size))
           have HV7:=hid ((HV6.out.keep (fun g hg=>hf g hg.2.2)).mono (fun g hg=>hg.more hb.size))
           clear hb hf g0 l0 g1 l1 HP6 HY6 HE6 HK6 HA6 HU6 HV6
           generalize ((w6.setCell ⟨y,2,none⟩ (.string (sb u1))).setCell ⟨y,3,none⟩ (.int .i64 a1)) = w7 at *
           go_wp2_with fail
           as_aux_lemma=>
             refine (expr_any p q b 0 (refS (nx s)).2 w7 HP7.out (fun _=>by decide)).mono ?_
             rintro e w8 ⟨x2,s2,o2,t2,m2,a2,A2,n2,d2,hr2,rfl,htr,hp8,hk8⟩
             have HP8:=hid hp8
             have HRN2:=hid hr2
             have HN:=hid (htr.mono (fun g hg=>Fr.fx (z:=z) (y:=y) hg (by omega) (.inl (by omega)) (Nat.le_refl _)))
             have HM8:=hid (Nat.le_trans (mu_run hr2) HM6.out)
             clear hp8 htr HP7 HM6 hr2
             have HY8:=hid (HY7.out.far (hk8.block y (by omega) (by omega) (by omega)))
             have HE8:=hid (HE7.out.far (hk8.block z (by omega) hzq hzp))
             have HK8:=hid (HK7.out.trans (hk8.least (by omega)))
             have hs8 : y + 1 ≤ w8.heap.size:=Nat.le_trans hs7 hk8.size
             have HA8:=hid ((HA7.out.keep (fun g hg=>hk8.block g hg.2.1 (by have:=hg.1;omega) (by have:=hg.1;omega))).mono (fun g hg=>hg.more hk8.size))
             have HU8:=hid ((HU7.out.keep (fun g hg=>hk8.block g hg.2.1 (by have:=hg.1;omega) (by have:=hg.1;omega))).mono (fun g hg=>hg.more hk8.size))
             have HV8:=hid ((HV7.out.keep (fun g hg=>hk8.block g hg.2.1 (by have:=hg.1;omega) (by have:=hg.1;omega))).mono (fun g hg=>hg.more hk8.size))
             clear hk8 HY7 HE7 HK7 HA7 HU7 HV7
             obtain ⟨v0,g0⟩ : ∃ v,w8.cell? ⟨y,4,none⟩ = some v:=⟨_,HY8.out.cell 4⟩
             have l0:=HY8.out.free 4
             obtain ⟨v1,g1⟩ : ∃ v,w8.cell? ⟨y,5,none⟩ = some v:=⟨_,HY8.out.cell 5⟩
             have l1:=HY8.out.free 5
             obtain ⟨v2,g2⟩ : ∃ v,w8.cell? ⟨y,6,none⟩ = some v:=⟨_,HY8.out.cell 6⟩
             have l2:=HY8.out.free 6
             obtain ⟨v3,g3⟩ : ∃ v,w8.cell? ⟨y,7,none⟩ = some v:=⟨_,HY8.out.cell 7⟩
             have l3:=HY8.out.free 7
             obtain ⟨v4,g4⟩ : ∃ v,w8.cell? ⟨y,8,none⟩ = some v:=⟨_,HY8.out.cell 8⟩
             have l4:=HY8.out.free 8
             go_upto_region 15 with fail
             as_aux_lemma=>
               have hb : Below y w8 (((((w8.setCell ⟨y,4,none⟩ (.string o2)).setCell ⟨y,5,none⟩ (.int .i64 m2)).setCell ⟨y,6,none⟩ (.string t2)).setCell ⟨y,7,none⟩ (.int .i64 a2)).setCell ⟨y,8,none⟩ (.slice A2 n2 d2)):=((((((Below.refl y w8).setCell (p:=⟨y,4,none⟩) (Nat.le_refl _) _).setCell (p:=⟨y,5,none⟩) (Nat.le_refl _) _).setCell (p:=⟨y,6,none⟩) (Nat.le_refl _) _).setCell (p:=⟨y,7,none⟩) (Nat.le_refl _) _).setCell (p:=⟨y,8,none⟩) (Nat.le_refl _) _)
               have hf : ∀ g,g ≠ y → (((((w8.setCell ⟨y,4,none⟩ (.string o2)).setCell ⟨y,5,none⟩ (.int .i64 m2)).setCell ⟨y,6,none⟩ (.string t2)).setCell ⟨y,7,none⟩ (.int .i64 a2)).setCell ⟨y,8,none⟩ (.slice A2 n2 d2)).heap[g]? = w8.heap[g]?:=fun g hg=>(Below.heap_setCell _ ⟨y,8,none⟩ _ g hg).trans ((Below.heap_setCell _ ⟨y,7,none⟩ _ g hg).trans ((Below.heap_setCell _ ⟨y,6,none⟩ _ g hg).trans ((Below.heap_setCell _ ⟨y,5,none⟩ _ g hg).trans (Below.heap_setCell _ ⟨y,4,none⟩ _ g hg))))
               have HP9:=hid (HP8.out.below (show p < y by omega) hb)
               have HY9:=hid (HY8.out.putA (Q5.mk o2 m2 t2 a2 A2 n2 d2))
               have HE9:=hid (HE8.out.far (hf z (by omega)))
               have HK9:=hid (HK8.out.trans (Kx.of hb (by omega)))
               have hs9:=Nat.le_trans hs8 hb.size
               have HA9:=hid ((HN.out.keep (fun g hg=>hf g hg.2.2)).mono (fun g hg=>hg.more hb.size))
               have HU9:=hid ((HU8.out.keep (fun g hg=>hf g hg.2.2)).mono (fun g hg=>hg.more hb.size))
               have HV9:=hid ((HV8.out.keep (fun g hg=>hf g hg.2.2)).mono (fun g hg=>hg.more hb.size))
               clear hb hf g0 l0 g1 l1 g2 l2 g3 l3 g4 l4 HP8 HY8 HE8 HK8 HA8 HU8 HV8 HN
               generalize (((((w8.setCell ⟨y,4,none⟩ (.string o2)).setCell ⟨y,5,none⟩ (.int .i64 m2)).setCell ⟨y,6,none⟩ (.string t2)).setCell ⟨y,7,none⟩ (.int .i64 a2)).setCell ⟨y,8,none⟩ (.slice A2 n2 d2)) = w9 at *
               go_wp2_with fail
               as_aux_lemma=>
                 refine (HBD.out b s2 w9 HM8.out (fun _=>HBB.out) HBB.out HP9.out).mono ?_
                 rintro e w10 ⟨l3,s3,A3,n3,d3,css,hr3,rfl,hst,hrp,hnd,hp10,hk10⟩
                 have HP10:=hid hp10
                 have HRN3:=hid hr3
                 have HN:=hid (show BdV (Fx z y w10) w10 l3 ⟨A3,n3,d3⟩ from ⟨css,hst.mono (fun g hg=>Fr.fx (z:=z) (y:=y) hg (by omega) (.inl (by omega)) (Nat.le_refl _)),hrp.mono (fun g hg=>Fr.fx (z:=z) (y:=y) hg (by omega) (.inl (by omega)) (Nat.le_refl _)),hnd⟩)
                 have HM10:=hid (Nat.le_trans (mu_runS hr3) HM8.out)
                 clear hp10 hst hrp hnd HP9 HM8 hr3
                 have HY10:=hid (HY9.out.far (hk10.block y (by omega) (by omega) (by omega)))
                 have HE10:=hid (HE9.out.far (hk10.block z (by omega) hzq hzp))
                 have HK10:=hid (HK9.out.trans (hk10.least (by omega)))
                 have hs10 : y + 1 ≤ w10.heap.size:=Nat.le_trans hs9 hk10.size
                 have HA10:=hid ((HA9.out.keep (fun g hg=>hk10.block g hg.2.1 (by have:=hg.1;omega) (by have:=hg.1;omega))).mono (fun g hg=>hg.more hk10.size))
                 have HU10:=hid ((HU9.out.keep (fun g hg=>hk10.block g hg.2.1 (by have:=hg.1;omega) (by have:=hg.1;omega))).mono (fun g hg=>hg.more hk10.size))
                 have HV10:=hid ((HV9.out.keep (fun g hg=>hk10.block g hg.2.1 (by have:=hg.1;omega) (by have:=hg.1;omega))).mono (fun g hg=>hg.more hk10.size))
                 clear hk10 HY9 HE9 HK9 HA9 HU9 HV9
                 obtain ⟨v0,g0⟩ : ∃ v,w10.cell? ⟨y,24,none⟩ = some v:=⟨_,HY10.out.cell 24⟩
                 have l0:=HY10.out.free 24
                 go_upto_region 22 with fail
                 as_aux_lemma=>
                   have hb : Below y w10 (w10.setCell ⟨y,24,none⟩ (.slice A3 n3 d3)):=((Below.refl y w10).setCell (p:=⟨y,24,none⟩) (Nat.le_refl _) _)
                   have hf : ∀ g,g ≠ y → (w10.setCell ⟨y,24,none⟩ (.slice A3 n3 d3)).heap[g]? = w10.heap[g]?:=fun g hg=>Below.heap_setCell _ ⟨y,24,none⟩ _ g hg
                   have HP11:=hid (HP10.out.below (show p < y by omega) hb)
                   have HY11:=hid (HY10.out.putBody (QS.mk A3 n3 d3))
                   have HE11:=hid (HE10.out.far (hf z (by omega)))
                   have HK11:=hid (HK10.out.trans (Kx.of hb (by omega)))
                   have hs11:=Nat.le_trans hs10 hb.size
                   have HA11:=hid ((HA10.out.keep (fun g hg=>hf g hg.2.2)).mono (fun g hg=>hg.more hb.size))
                   have HU11:=hid ((HN.out.keep (fun g hg=>hf g hg.2.2)).mono (fun g hg=>hg.more hb.size))
                   have HV11:=hid ((HV10.out.keep (fun g hg=>hf g hg.2.2)).mono (fun g hg=>hg.more hb.size))
                   clear hb hf g0 l0 HP10 HY10 HE10 HK10 HA10 HU10 HV10 HN
                   generalize (w10.setCell ⟨y,24,none⟩ (.slice A3 n3 d3)) = w11 at *
                   obtain ⟨bs,hv1,hv2,hv3⟩:=HU11.out
                   obtain ⟨es,hv4,hv5,hv6⟩:=HV11.out
                   obtain ⟨X,hX⟩ : ∃ X : List Value,SC.cells (SC.mk (sb kRepeat) a3 (Q2.mk (sb u1) a1) (Q5.mk o2 m2 t2 a2 A2 n2 d2) Q5.zero Q5.zero QS.zero Q2.zero Q2.zero (QS.mk A3 n3 d3) QS.zero) = X:=⟨_,rfl⟩
                   have HX:=hid hX
                   have hXs : X.toArray.size = 26:=by rw [← hX];rfl
                   have hrx : w11.rangeAt y 0 X:=by rw [← hX];exact blk_range HY11.out
                   have hi1:=hid (show (Tryd.prog.info? 64).map (·.size) = some X.length by rw [← hX];exact infoSt (SC.mk (sb kRepeat) a3 (Q2.mk (sb u1) a1) (Q5.mk o2 m2 t2 a2 A2 n2 d2) Q5.zero Q5.zero QS.zero Q2.zero Q2.zero (QS.mk A3 n3 d3) QS.zero))
                   have hi2:=hid (show (Tryd.prog.info? 64).map (·.size) = some X.toArray.size by rw [← hX];exact infoSt (SC.mk (sb kRepeat) a3 (Q2.mk (sb u1) a1) (Q5.mk o2 m2 t2 a2 A2 n2 d2) Q5.zero Q5.zero QS.zero Q2.zero Q2.zero (QS.mk A3 n3 d3) QS.zero))
                   have hx1:=hid (show ∀ v ∈ X.toArray.toList,v.oneCell' = true by rw [← hX];exact SC.oneA (SC.mk (sb kRepeat) a3 (Q2.mk (sb u1) a1) (Q5.mk o2 m2 t2 a2 A2 n2 d2) Q5.zero Q5.zero QS.zero Q2.zero Q2.zero (QS.mk A3 n3 d3) QS.zero))
                   clear hX
                   go_wp2_with (first | (refine wl_load_mid (by rfl) 64 (.tmp 4) rfl y 0 rfl X _ hrx Tryd.underlying64 rfl hi1.out ?_) | (refine wl_store_all (by rfl) 64 (.tmp 2) (.tmp 62) rfl z X.toArray rfl rfl SC.zero.cells.toArray _ HE11.out hXs hi2.out hx1.out ?_))
                   have hres : StmtPost p q b s w (.returned (.agg X.toArray)) (w11.setRow z X.toArray):=by
                     rw [← HX.out]
                     exact StmtPost.of (y:=y) (RunS.rpt hse ht HRN2.out HRN3.out) HZ.out (StV.cons (k:=(SC.mk (sb kRepeat) a3 (Q2.mk (sb u1) a1) (Q5.mk o2 m2 t2 a2 A2 n2 d2) Q5.zero Q5.zero QS.zero Q2.zero Q2.zero (QS.mk A3 n3 d3) QS.zero)) (rs:=[]) rfl (by rw [HUN1.out]) HA11.out (TrV.leaf .none rfl 0) (TrV.leaf .none rfl 0) ⟨.nil,RP.none_,Nat.le_refl _⟩ rfl rfl hv1 ⟨hv2,hv3⟩ hv4 ⟨hv5,hv6⟩ .nil) HP11.out hp HK11.out
                   refine bodyPost_ret (v:=.agg X.toArray) (results_c1 rfl _ _ _ ⟨z,0,none⟩ _ rfl (by have:=SC.loadRow (SC.mk (sb kRepeat) a3 (Q2.mk (sb u1) a1) (Q5.mk o2 m2 t2 a2 A2 n2 d2) Q5.zero Q5.zero QS.zero Q2.zero Q2.zero (QS.mk A3 n3 d3) QS.zero) HE11.out;rw [HX.out] at this;exact this)) rfl ?_
                   exact hres
set_option maxRecDepth 100000 in
theorem stmt_if (p q b n : Nat) (hbd : BodyOK p q n) (s : PS) (w : World) (hmu : mu s ≤ n) (hb12 : s.2 = 0 → b ≤ 12) (h : Ps w p q s b 0) (hse : sees s kinds = true) (ht : (pk s.1).text = kIf) :
   Calls Tryd.prog 17 #[.pointer (some ⟨p,0,none⟩)] w (StmtPost p q b s w):=by
 have hp:=h.size
 have hqp:=h.lt
 have HBD:=hid hbd
 have HMU:=hid hmu
 have HB12:=hid hb12
 have HB1:=hid (show Below w.heap.size w (w.alloc (.cells zS 64)) from (Below.refl _ w).alloc (Nat.le_refl _) _)
 have HP1:=hid (h.below hp HB1.out)
 have HE1:=hid (show SB (w.alloc (.cells zS 64)) w.heap.size .zero from heap_alloc_new w _)
 have hs1 : (w.alloc (.cells zS 64)).heap.size = w.heap.size + 1:=Array.size_push _
 clear h hbd hmu hb12
 go_enter Tryd.func17,Tryd.ntmps17
 go_upto_region 1 with fail
 obtain ⟨z,hz⟩ : ∃ z,w.heap.size = z:=⟨_,rfl⟩
 have HZ:=hid hz
 rw [hz] at HB1 HE1 hs1 hp
 have HK1:=hid (show Kx q p z w _ from Kx.of HB1.out (Nat.le_refl _))
 rw [hz]
 have hz1 : z + 1 ≤ (w.alloc (.cells zS 64)).heap.size:=Nat.le_of_eq hs1.symm
 have hzq : z ≠ q:=by omega
 have hzp : z ≠ p:=by omega
 clear hz hs1 HB1
 generalize w.alloc (.cells zS 64) = w1 at *
 have ha2 : Below w1.heap.size w1 (w1.alloc (.cells kS 9)):=(Below.refl _ w1).alloc (Nat.le_refl _) _
 have hl2 : (w1.alloc (.cells kS 9)).heap.size = w1.heap.size + 1:=Array.size_push _
 have HSE:=hid (show Calls Tryd.prog 13 #[.pointer (some ⟨p,0,none⟩),.slice (some ⟨w1.heap.size,0,none⟩) 10 10] (w1.alloc (.cells kS 9)) (fun e w'=>e = .returned (.bool (sees s kinds)) ∧ Below (w1.alloc (.cells kS 9)).heap.size (w1.alloc (.cells kS 9)) w') from sees_any p q b 0 s (some ⟨w1.heap.size,0,none⟩) 10 kinds _ (HP1.out.below HP1.out.size ha2) (RS.new w1 kinds) (Nat.le_add_left 10 90))
 have HA2:=hid ha2
 clear ha2
 go_wp2_with fail
 refine HSE.out.mono ?_
 rintro e w2 ⟨rfl,hb2⟩
 have hb12:=HA2.out.trans (bl_least hb2 (by omega))
 have hk2 : Kx q p w1.heap.size w1 w2:=Kx.of hb12 (Nat.le_refl _)
 have HP2:=hid (HP1.out.below HP1.out.size hb12)
 have HE2:=hid (HE1.out.far (hk2.block z (by omega) hzq hzp))
 have HK2:=hid (HK1.out.trans (hk2.least (by omega)))
 have hz2 : z + 1 ≤ w2.heap.size:=Nat.le_trans hz1 hk2.size
 clear hb2 hb12 hk2 HA2 hl2 HSE HP1 HE1 HK1
 rw [hse]
 have c0:=HP2.out.c0
 have HNX:=hid (Next_any q s.1 w2 HP2.out.stm)
 rw [ht,show sb kIf = ⟨#[105,102]⟩ from rfl] at HNX
 generalize (pk s.1).kind = k1 at *
 generalize (pk s.1).num = m1 at *
 go_wp2_with fail
 as_aux_lemma=>
   refine HNX.out.mono ?_
   rintro e w3 ⟨⟨a3,rfl⟩,hs3,hq3⟩
   have HP3:=hid (show Ps w3 p q (nx s) b 0 from HP2.out.moved hs3 hq3 HP2.out.size)
   have hk3 : Kx q p w2.heap.size w2 w3:=hq3.wide (.inl rfl) (.inl rfl)
   have HE3:=hid (HE2.out.far (hk3.block z (by omega) hzq hzp))
   have HK3:=hid (HK2.out.trans (hk3.least (by omega)))
   have hz3 : z + 1 ≤ w3.heap.size:=Nat.le_trans hz2 hk3.size
   clear hs3 hq3 hk3 HNX c0 HP2 HE2 HK2
   go_upto_region 5 with fail
   as_aux_lemma=>
     have ha4 : Below w3.heap.size w3 (w3.alloc (.cells #[.int .i64 k1,.string ⟨#[105,102]⟩,.int .i64 m1,.int .i64 a3] 73)):=(Below.refl _ w3).alloc (Nat.le_refl _) _
     have hy4 : (w3.alloc (.cells #[.int .i64 k1,.string ⟨#[105,102]⟩,.int .i64 m1,.int .i64 a3] 73)).heap[w3.heap.size]? = some (.cells #[.int .i64 k1,.string ⟨#[105,102]⟩,.int .i64 m1,.int .i64 a3] 73 (0,0)):=heap_alloc_new w3 _
     have y1 : (w3.alloc (.cells #[.int .i64 k1,.string ⟨#[105,102]⟩,.int .i64 m1,.int .i64 a3] 73)).cell? ⟨w3.heap.size,1,none⟩ = some (.string ⟨#[105,102]⟩):=blk_cell hy4
     have y3 : (w3.alloc (.cells #[.int .i64 k1,.string ⟨#[105,102]⟩,.int .i64 m1,.int .i64 a3] 73)).cell? ⟨w3.heap.size,3,none⟩ = some (.int .i64 a3):=blk_cell hy4
     have HP4:=hid (HP3.out.below HP3.out.size ha4)
     have HE4:=hid (HE3.out.far (ha4.block z (by omega)))
     have HK4:=hid (HK3.out.trans (Kx.of ha4 (by omega)))
     have hz4 : z + 1 ≤ (w3.alloc (.cells #[.int .i64 k1,.string ⟨#[105,102]⟩,.int .i64 m1,.int .i64 a3] 73)).heap.size:=Nat.le_trans hz3 ha4.size
     clear ha4 hy4 HP3 HE3 HK3
     generalize w3.alloc (.cells #[.int .i64 k1,.string ⟨#[105,102]⟩,.int .i64 m1,.int .i64 a3] 73) = w4 at *
     obtain ⟨X,hX⟩ : ∃ X : Array Value,(SC.start kIf a3).cells.toArray = X:=⟨_,rfl⟩
     have HBT:=hid (show Tryd.prog.built 64 [(0,.string ⟨#[105,102]⟩),(1,.int .i64 a3)] = some X by rw [← hX];kernel_rfl)
     have HXS:=hid (show X.size = SC.zero.cells.toArray.size by rw [← hX];rfl)
     have HXI:=hid (show (Tryd.prog.info? 64).map (·.size) = some X.size by rw [← hX];exact infoSt _)
     have HX1:=hid (show ∀ v ∈ X.toList,v.oneCell' = true by rw [← hX];exact SC.oneA _)
     have HX:=hid hX
     clear hX
     go_upto_region 6 with (first | (refine wl_lit (by rfl) 64 [(0,.tmp 18),(1,.tmp 20)] rfl [(0,.string ⟨#[105,102]⟩),(1,.int .i64 a3)] rfl X HBT.out ?_) | (refine wl_store_all (by rfl) 64 (.tmp 4) (.tmp 21) rfl w4.heap.size X rfl rfl SC.zero.cells.toArray _ (heap_alloc_new w4 _) HXS.out HXI.out HX1.out ?_))
     as_aux_lemma=>
       rw [alloc_setRow]
       have ha5 : Below w4.heap.size w4 (w4.alloc (.cells X 64)):=(Below.refl _ w4).alloc (Nat.le_refl _) _
       have hl5 : (w4.alloc (.cells X 64)).heap.size = w4.heap.size + 1:=Array.size_push _
       have HY5:=hid (show SB (w4.alloc (.cells X 64)) w4.heap.size (SC.start kIf a3) by rw [← HX.out];exact heap_alloc_new w4 _)
       have HP5:=hid (HP4.out.below HP4.out.size ha5)
       have HE5:=hid (HE4.out.far (ha5.block z (by omega)))
       have HK5:=hid (HK4.out.trans (Kx.of ha5 (by omega)))
       clear ha5 y1 y3 HP4 HE4 HK4 HBT HXS HXI HX1 HX
       obtain ⟨y,hy⟩ : ∃ y,w4.heap.size = y:=⟨_,rfl⟩
       rw [hy] at HY5 hl5 hz4 ⊢
       generalize w4.alloc (.cells X 64) = w5 at *
       clear hy
       have hy5 : y + 1 ≤ w5.heap.size:=Nat.le_of_eq hl5.symm
       have k0 : w5.cell? ⟨y,0,none⟩ = some (.string ⟨#[105,102]⟩):=HY5.out.cell 0
       clear hl5
       go_wp2_with fail
       as_aux_lemma=>
         have HBB:=hid (HB12.out (seen_ok hse))
         have HM5:=hid (Nat.le_trans (Nat.le_of_lt (mu_nx (seen_some hse) (seen_ok hse))) HMU.out)
         have HA5:=hid (show TrV (Fx z y w5) w5 [.none] [Q5.zero.cells] from TrV.leaf .none rfl 0)
         have HU5:=hid (show BdV (Fx z y w5) w5 [] .zero from .zero)
         have HV5:=hid (show BdV (Fx z y w5) w5 [] .zero from .zero)
         have hs5 : y + 1 ≤ w5.heap.size:=hy5
         have HY5:=hid (show SB w5 y (SC.mk (sb kIf) a3 Q2.zero Q5.zero Q5.zero Q5.zero QS.zero Q2.zero Q2.zero QS.zero QS.zero) from HY5.out)
         clear HB12 HMU hy5
         refine (show Calls Tryd.prog 32 #[.pointer (some ⟨p,0,none⟩),.string ⟨#[97,99,107,101,100]⟩] w5 _ from take_any p q b 0 (nx s) kAcked w5 HP5.out).mono ?_
         rintro e w6 ⟨rfl,hp6,hk6⟩
         have HP6:=hid hp6
         have HM6:=hid (Nat.le_trans (mu_take (nx s) kAcked) HM5.out)
         clear hp6 HP5 HM5
         have HY6:=hid (HY5.out.far (hk6.block y (by omega) (by omega) (by omega)))
         have HE6:=hid (HE5.out.far (hk6.block z (by omega) hzq hzp))
         have HK6:=hid (HK5.out.trans (hk6.least (by omega)))
         have hs6 : y + 1 ≤ w6.heap.size:=Nat.le_trans hs5 hk6.size
         have HA6:=hid ((HA5.out.keep (fun g hg=>hk6.block g hg.2.1 (by have:=hg.1;omega) (by have:=hg.1;omega))).mono (fun g hg=>hg.more hk6.size))
         have HU6:=hid ((HU5.out.keep (fun g hg=>hk6.block g hg.2.1 (by have:=hg.1;omega) (by have:=hg.1;omega))).mono (fun g hg=>hg.more hk6.size))
         have HV6:=hid ((HV5.out.keep (fun g hg=>hk6.block g hg.2.1 (by have:=hg.1;omega) (by have:=hg.1;omega))).mono (fun g hg=>hg.more hk6.size))
         clear hk6 HY5 HE5 HK5 HA5 HU5 HV5
         go_wp2_with fail
         as_aux_lemma=>
           refine (ref_any p q b 0 (takeS (nx s) kAcked) w6 HP6.out).mono ?_
           rintro e w7 ⟨⟨a1,rfl⟩,hp7,hk7⟩
           have HP7:=hid hp7
           have HM7:=hid (Nat.le_trans (mu_ref (takeS (nx s) kAcked)) HM6.out)
           clear hp7 HP6 HM6
           have HY7:=hid (HY6.out.far (hk7.block y (by omega) (by omega) (by omega)))
           have HE7:=hid (HE6.out.far (hk7.block z (by omega) hzq hzp))
           have HK7:=hid (HK6.out.trans (hk7.least (by omega)))
           have hs7 : y + 1 ≤ w7.heap.size:=Nat.le_trans hs6 hk7.size
           have HA7:=hid ((HA6.out.keep (fun g hg=>hk7.block g hg.2.1 (by have:=hg.1;omega) (by have:=hg.1;omega))).mono (fun g hg=>hg.more hk7.size))
           have HU7:=hid ((HU6.out.keep (fun g hg=>hk7.block g hg.2.1 (by have:=hg.1;omega) (by have:=hg.1;omega))).mono (fun g hg=>hg.more hk7.size))
           have HV7:=hid ((HV6.out.keep (fun g hg=>hk7.block g hg.2.1 (by have:=hg.1;omega) (by have:=hg.1;omega))).mono (fun g hg=>hg.more hk7.size))
           clear hk7 HY6 HE6 HK6 HA6 HU6 HV6
           obtain ⟨u1,hu1⟩ : ∃ u1,(refS (takeS (nx s) kAcked)).1 = u1:=⟨_,rfl⟩
           rw [hu1]
           have HUN1:=hid hu1
           clear hu1
           obtain ⟨v0,g0⟩ : ∃ v,w7.cell? ⟨y,22,none⟩ = some v:=⟨_,HY7.out.cell 22⟩
           have l0:=HY7.out.free 22
           obtain ⟨v1,g1⟩ : ∃ v,w7.cell? ⟨y,23,none⟩ = some v:=⟨_,HY7.out.cell 23⟩
           have l1:=HY7.out.free 23
           go_upto_region 19 with fail
           as_aux_lemma=>
             have hb : Below y w7 ((w7.setCell ⟨y,22,none⟩ (.string (sb u1))).setCell ⟨y,23,none⟩ (.int .i64 a1)):=(((Below.refl y w7).setCell (p:=⟨y,22,none⟩) (Nat.le_refl _) _).setCell (p:=⟨y,23,none⟩) (Nat.le_refl _) _)
             have hf : ∀ g,g ≠ y → ((w7.setCell ⟨y,22,none⟩ (.string (sb u1))).setCell ⟨y,23,none⟩ (.int .i64 a1)).heap[g]? = w7.heap[g]?:=fun g hg=>(Below.heap_setCell _ ⟨y,23,none⟩ _ g hg).trans (Below.heap_setCell _ ⟨y,22,none⟩ _ g hg)
             have HP8:=hid (HP7.out.below (show p < y by omega) hb)
             have HY8:=hid (HY7.out.putTag (Q2.mk (sb u1) a1))
             have HE8:=hid (HE7.out.far (hf z (by omega)))
             have HK8:=hid (HK7.out.trans (Kx.of hb (by omega)))
             have hs8:=Nat.le_trans hs7 hb.size
             have HA8:=hid ((HA7.out.keep (fun g hg=>hf g hg.2.2)).mono (fun g hg=>hg.more hb.size))
             have HU8:=hid ((HU7.out.keep (fun g hg=>hf g hg.2.2)).mono (fun g hg=>hg.more hb.size))
             have HV8:=hid ((HV7.out.keep (fun g hg=>hf g hg.2.2)).mono (fun g hg=>hg.more hb.size))
             clear hb hf g0 l0 g1 l1 HP7 HY7 HE7 HK7 HA7 HU7 HV7
             generalize ((w7.setCell ⟨y,22,none⟩ (.string (sb u1))).setCell ⟨y,23,none⟩ (.int .i64 a1)) = w8 at *
             go_wp2_with fail
             as_aux_lemma=>
               refine (HBD.out b (refS (takeS (nx s) kAcked)).2 w8 HM7.out (fun _=>HBB.out) HBB.out HP8.out).mono ?_
               rintro e w9 ⟨l2,s2,A2,n2,d2,css,hr2,rfl,hst,hrp,hnd,hp9,hk9⟩
               have HP9:=hid hp9
               have HRN2:=hid hr2
               have HN:=hid (show BdV (Fx z y w9) w9 l2 ⟨A2,n2,d2⟩ from ⟨css,hst.mono (fun g hg=>Fr.fx (z:=z) (y:=y) hg (by omega) (.inl (by omega)) (Nat.le_refl _)),hrp.mono (fun g hg=>Fr.fx (z:=z) (y:=y) hg (by omega) (.inl (by omega)) (Nat.le_refl _)),hnd⟩)
               have HM9:=hid (Nat.le_trans (mu_runS hr2) HM7.out)
               clear hp9 hst hrp hnd HP8 HM7 hr2
               have HY9:=hid (HY8.out.far (hk9.block y (by omega) (by omega) (by omega)))
               have HE9:=hid (HE8.out.far (hk9.block z (by omega) hzq hzp))
               have HK9:=hid (HK8.out.trans (hk9.least (by omega)))
               have hs9 : y + 1 ≤ w9.heap.size:=Nat.le_trans hs8 hk9.size
               have HA9:=hid ((HA8.out.keep (fun g hg=>hk9.block g hg.2.1 (by have:=hg.1;omega) (by have:=hg.1;omega))).mono (fun g hg=>hg.more hk9.size))
               have HU9:=hid ((HU8.out.keep (fun g hg=>hk9.block g hg.2.1 (by have:=hg.1;omega) (by have:=hg.1;omega))).mono (fun g hg=>hg.more hk9.size))
               have HV9:=hid ((HV8.out.keep (fun g hg=>hk9.block g hg.2.1 (by have:=hg.1;omega) (by have:=hg.1;omega))).mono (fun g hg=>hg.more hk9.size))
               clear hk9 HY8 HE8 HK8 HA8 HU8 HV8
               obtain ⟨v0,g0⟩ : ∃ v,w9.cell? ⟨y,24,none⟩ = some v:=⟨_,HY9.out.cell 24⟩
               have l0:=HY9.out.free 24
               go_upto_region 20 with fail
               as_aux_lemma=>
                 have hb : Below y w9 (w9.setCell ⟨y,24,none⟩ (.slice A2 n2 d2)):=((Below.refl y w9).setCell (p:=⟨y,24,none⟩) (Nat.le_refl _) _)
                 have hf : ∀ g,g ≠ y → (w9.setCell ⟨y,24,none⟩ (.slice A2 n2 d2)).heap[g]? = w9.heap[g]?:=fun g hg=>Below.heap_setCell _ ⟨y,24,none⟩ _ g hg
                 have HP10:=hid (HP9.out.below (show p < y by omega) hb)
                 have HY10:=hid (HY9.out.putBody (QS.mk A2 n2 d2))
                 have HE10:=hid (HE9.out.far (hf z (by omega)))
                 have HK10:=hid (HK9.out.trans (Kx.of hb (by omega)))
                 have hs10:=Nat.le_trans hs9 hb.size
                 have HA10:=hid ((HA9.out.keep (fun g hg=>hf g hg.2.2)).mono (fun g hg=>hg.more hb.size))
                 have HU10:=hid ((HN.out.keep (fun g hg=>hf g hg.2.2)).mono (fun g hg=>hg.more hb.size))
                 have HV10:=hid ((HV9.out.keep (fun g hg=>hf g hg.2.2)).mono (fun g hg=>hg.more hb.size))
                 clear hb hf g0 l0 HP9 HY9 HE9 HK9 HA9 HU9 HV9 HN
                 generalize (w9.setCell ⟨y,24,none⟩ (.slice A2 n2 d2)) = w10 at *
                 go_wp2_with fail
                 as_aux_lemma=>
                   refine (show Calls Tryd.prog 35 #[.pointer (some ⟨p,0,none⟩),.string ⟨#[101,108,115,101]⟩] w10 _ from also_any p q b 0 s2 kElse w10 HP10.out).mono ?_
                   rintro e w11 ⟨rfl,hp11,hk11⟩
                   have HP11:=hid hp11
                   clear hp11 HP10
                   have HY11:=hid (HY10.out.far (hk11.block y (by omega) (by omega) (by omega)))
                   have HE11:=hid (HE10.out.far (hk11.block z (by omega) hzq hzp))
                   have HK11:=hid (HK10.out.trans (hk11.least (by omega)))
                   have hs11 : y + 1 ≤ w11.heap.size:=Nat.le_trans hs10 hk11.size
                   have HA11:=hid ((HA10.out.keep (fun g hg=>hk11.block g hg.2.1 (by have:=hg.1;omega) (by have:=hg.1;omega))).mono (fun g hg=>hg.more hk11.size))
                   have HU11:=hid ((HU10.out.keep (fun g hg=>hk11.block g hg.2.1 (by have:=hg.1;omega) (by have:=hg.1;omega))).mono (fun g hg=>hg.more hk11.size))
                   have HV11:=hid ((HV10.out.keep (fun g hg=>hk11.block g hg.2.1 (by have:=hg.1;omega) (by have:=hg.1;omega))).mono (fun g hg=>hg.more hk11.size))
                   clear hk11 HY10 HE10 HK10 HA10 HU10 HV10
                   cases hse2 : sees s2 [kElse] with
                   | false=>
                     have hal : alsoS s2 kElse = s2:=by rw [alsoS,if_neg (by rw [hse2];decide)]
                     rw [hal] at HP11
                     clear hal
                     obtain ⟨bs,hv1,hv2,hv3⟩:=HU11.out
                     obtain ⟨es,hv4,hv5,hv6⟩:=HV11.out
                     obtain ⟨X,hX⟩ : ∃ X : List Value,SC.cells (SC.mk (sb kIf) a3 Q2.zero Q5.zero Q5.zero Q5.zero QS.zero Q2.zero (Q2.mk (sb u1) a1) (QS.mk A2 n2 d2) QS.zero) = X:=⟨_,rfl⟩
                     have HX:=hid hX
                     have hXs : X.toArray.size = 26:=by rw [← hX];rfl
                     have hrx : w11.rangeAt y 0 X:=by rw [← hX];exact blk_range HY11.out
                     have hi1:=hid (show (Tryd.prog.info? 64).map (·.size) = some X.length by rw [← hX];exact infoSt (SC.mk (sb kIf) a3 Q2.zero Q5.zero Q5.zero Q5.zero QS.zero Q2.zero (Q2.mk (sb u1) a1) (QS.mk A2 n2 d2) QS.zero))
                     have hi2:=hid (show (Tryd.prog.info? 64).map (·.size) = some X.toArray.size by rw [← hX];exact infoSt (SC.mk (sb kIf) a3 Q2.zero Q5.zero Q5.zero Q5.zero QS.zero Q2.zero (Q2.mk (sb u1) a1) (QS.mk A2 n2 d2) QS.zero))
                     have hx1:=hid (show ∀ v ∈ X.toArray.toList,v.oneCell' = true by rw [← hX];exact SC.oneA (SC.mk (sb kIf) a3 Q2.zero Q5.zero Q5.zero Q5.zero QS.zero Q2.zero (Q2.mk (sb u1) a1) (QS.mk A2 n2 d2) QS.zero))
                     clear hX
                     go_wp2_with (first | (refine wl_load_mid (by rfl) 64 (.tmp 4) rfl y 0 rfl X _ hrx Tryd.underlying64 rfl hi1.out ?_) | (refine wl_store_all (by rfl) 64 (.tmp 2) (.tmp 62) rfl z X.toArray rfl rfl SC.zero.cells.toArray _ HE11.out hXs hi2.out hx1.out ?_))
                     have hres : StmtPost p q b s w (.returned (.agg X.toArray)) (w11.setRow z X.toArray):=by
                       rw [← HX.out]
                       exact StmtPost.of (y:=y) (RunS.ifOne hse ht HRN2.out hse2) HZ.out (StV.cons (k:=(SC.mk (sb kIf) a3 Q2.zero Q5.zero Q5.zero Q5.zero QS.zero Q2.zero (Q2.mk (sb u1) a1) (QS.mk A2 n2 d2) QS.zero)) (rs:=[]) rfl rfl HA11.out (TrV.leaf .none rfl 0) (TrV.leaf .none rfl 0) ⟨.nil,RP.none_,Nat.le_refl _⟩ rfl (by rw [HUN1.out]) hv1 ⟨hv2,hv3⟩ hv4 ⟨hv5,hv6⟩ .nil) HP11.out hp HK11.out
                     refine bodyPost_ret (v:=.agg X.toArray) (results_c1 rfl _ _ _ ⟨z,0,none⟩ _ rfl (by have:=SC.loadRow (SC.mk (sb kIf) a3 Q2.zero Q5.zero Q5.zero Q5.zero QS.zero Q2.zero (Q2.mk (sb u1) a1) (QS.mk A2 n2 d2) QS.zero) HE11.out;rw [HX.out] at this;exact this)) rfl ?_
                     exact hres
                   | true=>
                     have hal : alsoS s2 kElse = nx s2:=by rw [alsoS,if_pos hse2]
                     rw [hal] at HP11
                     clear hal
                     have HMB:=hid (Nat.le_trans (Nat.le_of_lt (mu_nx (seen_some hse2) (seen_ok hse2))) HM9.out)
                     clear HM9
                     go_wp2_with fail
                     as_aux_lemma=>
                       refine (HBD.out b (nx s2) w11 HMB.out (fun _=>HBB.out) HBB.out HP11.out).mono ?_
                       rintro e w12 ⟨l3,s3,A3,n3,d3,css,hr3,rfl,hst,hrp,hnd,hp12,hk12⟩
                       have HP12:=hid hp12
                       have HRN3:=hid hr3
                       have HN:=hid (show BdV (Fx z y w12) w12 l3 ⟨A3,n3,d3⟩ from ⟨css,hst.mono (fun g hg=>Fr.fx (z:=z) (y:=y) hg (by omega) (.inl (by omega)) (Nat.le_refl _)),hrp.mono (fun g hg=>Fr.fx (z:=z) (y:=y) hg (by omega) (.inl (by omega)) (Nat.le_refl _)),hnd⟩)
                       have HM12:=hid (Nat.le_trans (mu_runS hr3) HMB.out)
                       clear hp12 hst hrp hnd HP11 HMB hr3
                       have HY12:=hid (HY11.out.far (hk12.block y (by omega) (by omega) (by omega)))
                       have HE12:=hid (HE11.out.far (hk12.block z (by omega) hzq hzp))
                       have HK12:=hid (HK11.out.trans (hk12.least (by omega)))
                       have hs12 : y + 1 ≤ w12.heap.size:=Nat.le_trans hs11 hk12.size
                       have HA12:=hid ((HA11.out.keep (fun g hg=>hk12.block g hg.2.1 (by have:=hg.1;omega) (by have:=hg.1;omega))).mono (fun g hg=>hg.more hk12.size))
                       have HU12:=hid ((HU11.out.keep (fun g hg=>hk12.block g hg.2.1 (by have:=hg.1;omega) (by have:=hg.1;omega))).mono (fun g hg=>hg.more hk12.size))
                       have HV12:=hid ((HV11.out.keep (fun g hg=>hk12.block g hg.2.1 (by have:=hg.1;omega) (by have:=hg.1;omega))).mono (fun g hg=>hg.more hk12.size))
                       clear hk12 HY11 HE11 HK11 HA11 HU11 HV11
                       obtain ⟨v0,g0⟩ : ∃ v,w12.cell? ⟨y,25,none⟩ = some v:=⟨_,HY12.out.cell 25⟩
                       have l0:=HY12.out.free 25
                       go_upto_region 22 with fail
                       as_aux_lemma=>
                         have hb : Below y w12 (w12.setCell ⟨y,25,none⟩ (.slice A3 n3 d3)):=((Below.refl y w12).setCell (p:=⟨y,25,none⟩) (Nat.le_refl _) _)
                         have hf : ∀ g,g ≠ y → (w12.setCell ⟨y,25,none⟩ (.slice A3 n3 d3)).heap[g]? = w12.heap[g]?:=fun g hg=>Below.heap_setCell _ ⟨y,25,none⟩ _ g hg
                         have HP13:=hid (HP12.out.below (show p < y by omega) hb)
                         have HY13:=hid (HY12.out.putEls (QS.mk A3 n3 d3))
                         have HE13:=hid (HE12.out.far (hf z (by omega)))
                         have HK13:=hid (HK12.out.trans (Kx.of hb (by omega)))
                         have hs13:=Nat.le_trans hs12 hb.size
                         have HA13:=hid ((HA12.out.keep (fun g hg=>hf g hg.2.2)).mono (fun g hg=>hg.more hb.size))
                         have HU13:=hid ((HU12.out.keep (fun g hg=>hf g hg.2.2)).mono (fun g hg=>hg.more hb.size))
                         have HV13:=hid ((HN.out.keep (fun g hg=>hf g hg.2.2)).mono (fun g hg=>hg.more hb.size))
                         clear hb hf g0 l0 HP12 HY12 HE12 HK12 HA12 HU12 HV12 HN
                         generalize (w12.setCell ⟨y,25,none⟩ (.slice A3 n3 d3)) = w13 at *
                         obtain ⟨bs,hv1,hv2,hv3⟩:=HU13.out
                         obtain ⟨es,hv4,hv5,hv6⟩:=HV13.out
                         obtain ⟨X,hX⟩ : ∃ X : List Value,SC.cells (SC.mk (sb kIf) a3 Q2.zero Q5.zero Q5.zero Q5.zero QS.zero Q2.zero (Q2.mk (sb u1) a1) (QS.mk A2 n2 d2) (QS.mk A3 n3 d3)) = X:=⟨_,rfl⟩
                         have HX:=hid hX
                         have hXs : X.toArray.size = 26:=by rw [← hX];rfl
                         have hrx : w13.rangeAt y 0 X:=by rw [← hX];exact blk_range HY13.out
                         have hi1:=hid (show (Tryd.prog.info? 64).map (·.size) = some X.length by rw [← hX];exact infoSt (SC.mk (sb kIf) a3 Q2.zero Q5.zero Q5.zero Q5.zero QS.zero Q2.zero (Q2.mk (sb u1) a1) (QS.mk A2 n2 d2) (QS.mk A3 n3 d3)))
                         have hi2:=hid (show (Tryd.prog.info? 64).map (·.size) = some X.toArray.size by rw [← hX];exact infoSt (SC.mk (sb kIf) a3 Q2.zero Q5.zero Q5.zero Q5.zero QS.zero Q2.zero (Q2.mk (sb u1) a1) (QS.mk A2 n2 d2) (QS.mk A3 n3 d3)))
                         have hx1:=hid (show ∀ v ∈ X.toArray.toList,v.oneCell' = true by rw [← hX];exact SC.oneA (SC.mk (sb kIf) a3 Q2.zero Q5.zero Q5.zero Q5.zero QS.zero Q2.zero (Q2.mk (sb u1) a1) (QS.mk A2 n2 d2) (QS.mk A3 n3 d3)))
                         clear hX
                         go_wp2_with (first | (refine wl_load_mid (by rfl) 64 (.tmp 4) rfl y 0 rfl X _ hrx Tryd.underlying64 rfl hi1.out ?_) | (refine wl_store_all (by rfl) 64 (.tmp 2) (.tmp 62) rfl z X.toArray rfl rfl SC.zero.cells.toArray _ HE13.out hXs hi2.out hx1.out ?_))
                         have hres : StmtPost p q b s w (.returned (.agg X.toArray)) (w13.setRow z X.toArray):=by
                           rw [← HX.out]
                           exact StmtPost.of (y:=y) (RunS.ifTwo hse ht HRN2.out hse2 HRN3.out) HZ.out (StV.cons (k:=(SC.mk (sb kIf) a3 Q2.zero Q5.zero Q5.zero Q5.zero QS.zero Q2.zero (Q2.mk (sb u1) a1) (QS.mk A2 n2 d2) (QS.mk A3 n3 d3))) (rs:=[]) rfl rfl HA13.out (TrV.leaf .none rfl 0) (TrV.leaf .none rfl 0) ⟨.nil,RP.none_,Nat.le_refl _⟩ rfl (by rw [HUN1.out]) hv1 ⟨hv2,hv3⟩ hv4 ⟨hv5,hv6⟩ .nil) HP13.out hp HK13.out
                         refine bodyPost_ret (v:=.agg X.toArray) (results_c1 rfl _ _ _ ⟨z,0,none⟩ _ rfl (by have:=SC.loadRow (SC.mk (sb kIf) a3 Q2.zero Q5.zero Q5.zero Q5.zero QS.zero Q2.zero (Q2.mk (sb u1) a1) (QS.mk A2 n2 d2) (QS.mk A3 n3 d3)) HE13.out;rw [HX.out] at this;exact this)) rfl ?_
                         exact hres
end
end Go.Proofs.YtgmjpnnblhkbpaaDoor
