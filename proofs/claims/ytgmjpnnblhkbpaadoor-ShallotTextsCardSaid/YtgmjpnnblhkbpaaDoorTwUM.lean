/-
  The parser's factor, given atom, and expr for what is left. No conditions.
-/
import Derived.Test.YtgmjpnnblhkbpaaDoorTwRM
import Derived.Test.YtgmjpnnblhkbpaaDoorSqM
namespace Go.Proofs.YtgmjpnnblhkbpaaDoor
open Go Go.RowKit Go.Sh Tx
open Go.Lib (hid)
section
set_option maxHeartbeats 16000000
set_option maxRecDepth 100000
set_option maxRecDepth 100000 in
theorem expr_ok (p q n : Nat) (hf : ExOK p q 55 .term n) : ExOK p q 33 .expr n:=by
 intro b k s w hmu hk12 h
 have hp:=h.size
 have hqp:=h.lt
 have HFA:=hid hf
 have HB1:=hid (show Below w.heap.size w (w.alloc (.cells #[.string ⟨#[]⟩,.int .i64 0,.string ⟨#[]⟩,.int .i64 0,.slice none 0 0] 55)) from (Below.refl _ w).alloc (Nat.le_refl _) _)
 have HP1:=hid (h.below hp HB1.out)
 have HE1:=hid (show EB (w.alloc (.cells #[.string ⟨#[]⟩,.int .i64 0,.string ⟨#[]⟩,.int .i64 0,.slice none 0 0] 55)) w.heap.size (.string ⟨#[]⟩) (.int .i64 0) (.string ⟨#[]⟩) (.int .i64 0) (.slice none 0 0) from heap_alloc_new w _)
 have hs1 : (w.alloc (.cells #[.string ⟨#[]⟩,.int .i64 0,.string ⟨#[]⟩,.int .i64 0,.slice none 0 0] 55)).heap.size = w.heap.size + 1:=Array.size_push _
 clear h hf
 go_enter Tryd.func33,Tryd.ntmps33
 go_wp2_with fail
 obtain ⟨z,hz⟩ : ∃ z,w.heap.size = z:=⟨_,rfl⟩
 have HZ:=hid hz
 rw [hz] at HB1 HE1 hs1 hp
 have HK1:=hid (show Kx q p z w _ from Kx.of HB1.out (Nat.le_refl _))
 rw [hz]
 have hz1 : z + 1 ≤ (w.alloc (.cells #[.string ⟨#[]⟩,.int .i64 0,.string ⟨#[]⟩,.int .i64 0,.slice none 0 0] 55)).heap.size:=Nat.le_of_eq hs1.symm
 have hzq : z ≠ q:=by omega
 have hzp : z ≠ p:=by omega
 clear hz hs1 HB1
 generalize w.alloc (.cells #[.string ⟨#[]⟩,.int .i64 0,.string ⟨#[]⟩,.int .i64 0,.slice none 0 0] 55) = w1 at *
 refine (HFA.out b k s w1 hmu hk12 HP1.out).mono ?_
 rintro e w2 ⟨x,s',o,t,m,a,A,n',d,hr,rfl,htr,hp2,hk2⟩
 have HP2:=hid hp2
 have HTR:=hid htr
 have HRU:=hid hr
 have hsz2:=hk2.size
 clear hp2 hr htr
 have HE2:=hid (HE1.out.far (hk2.block z (by omega) hzq hzp))
 have HK2:=hid (HK1.out.trans (hk2.least (by omega)))
 have hz2 : z + 1 ≤ w2.heap.size:=Nat.le_trans hz1 hk2.size
 clear hk2 HE1 HK1
 go_upto_region 2 with fail
 have hla3 : Below w2.heap.size w2 (w2.alloc (.cells #[.string o,.int .i64 m,.string t,.int .i64 a,.slice A n' d] 55)):=(Below.refl _ w2).alloc (Nat.le_refl _) _
 have hy3 : (w2.alloc (.cells #[.string o,.int .i64 m,.string t,.int .i64 a,.slice A n' d] 55)).heap[w2.heap.size]? = some (.cells #[.string o,.int .i64 m,.string t,.int .i64 a,.slice A n' d] 55 (0,0)):=heap_alloc_new w2 _
 have hk3 : Kx q p w2.heap.size w2 (w2.alloc (.cells #[.string o,.int .i64 m,.string t,.int .i64 a,.slice A n' d] 55)):=Kx.of hla3 (Nat.le_refl _)
 have HP3:=hid (HP2.out.below HP2.out.size hla3)
 have HT3:=hid (HTR.out.kx hk3 HP1.out.size HP1.out.stm.lt)
 have HY3:=hid hy3
 clear hla3 hy3
 generalize w2.alloc (.cells #[.string o,.int .i64 m,.string t,.int .i64 a,.slice A n' d] 55) = w3 at *
 have HE3:=hid (HE2.out.far (hk3.block z (by omega) hzq hzp))
 have HK3:=hid (HK2.out.trans (hk3.least (by omega)))
 have hz3 : z + 1 ≤ w3.heap.size:=Nat.le_trans hz2 hk3.size
 clear hk3 HE2 HK2
 obtain ⟨y,hy⟩ : ∃ y,w2.heap.size = y:=⟨_,rfl⟩
 rw [hy] at HY3 ⊢
 have hzy : z < y:=by omega
 have hy3 : y < w3.heap.size:=(Array.getElem?_eq_some_iff.1 HY3.out).1
 have HT4:=hid (HT3.out.mono (fun g hg=>Fr.fx (z:=z) (y:=y) (w2:=w3) hg (by omega) (by omega) (by omega)))
 clear HT3 HTR hy HP1 HP2
 go_loopw [9] (fun _ wr=>∃ (x : Ex) (s' : PS) (o t : ByteArray) (m a : Int) (A : Option Addr) (n' d : Nat),mu s' ≤ n ∧ (s'.2 = 0 → k ≤ 12) ∧ (∀ e2 s2,RunE k (.sum x s') e2 s2 → RunE k (.expr s) e2 s2) ∧ TrV (Fx z y wr) wr [x] [[.string o,.int .i64 m,.string t,.int .i64 a,.slice A n' d]] ∧ EB wr y (.string o) (.int .i64 m) (.string t) (.int .i64 a) (.slice A n' d) ∧ EB wr z (.string ⟨#[]⟩) (.int .i64 0) (.string ⟨#[]⟩) (.int .i64 0) (.slice none 0 0) ∧ Ps wr p q s' b k ∧ Kx q p z w wr ∧ y < wr.heap.size) (fun _ wr=>mW q wr)
 case atStart=>
   exact ⟨x,s',o,t,m,a,A,n',d,Nat.le_trans (mu_run HRU.out) hmu,fun h=>hk12 (HRU.out.ok h),fun e2 s2 h=>RunE.expr HRU.out h,HT4.out,HY3.out,HE3.out,HP3.out,HK3.out,hy3⟩
 case round=>
   obtain ⟨x1,s1,o1,t1,m1,a1,A1,n1,d1,hmu1,hk1,hc1,ht1,hy1,he1,hp1,hkx1,hyl⟩:=hrel
   have HMU:=hid hmu1
   have HKK:=hid hk1
   have HC:=hid hc1
   have HT:=hid ht1
   have HY:=hid hy1
   have HE:=hid he1
   have HP:=hid hp1
   have HK:=hid hkx1
   have HYL:=hid hyl
   have hzr : z + 1 ≤ wr.heap.size:=by omega
   have HMW:=hid (mW_of hp1.stm)
   clear hmu1 hk1 hc1 ht1 hy1 he1 hp1 hkx1 HT4 HY3 HE3 HP3 HK3 HRU hz3 hsz2 hz2 hy3
   go_wp2_with fail
   have ha2 : Below wr.heap.size wr (wr.alloc (.cells #[.string ⟨#[43]⟩,.string ⟨#[45]⟩] 9)):=(Below.refl _ wr).alloc (Nat.le_refl _) _
   have HRS:=hid (show RS (wr.alloc (.cells #[.string ⟨#[43]⟩,.string ⟨#[45]⟩] 9)) (some ⟨wr.heap.size,0,none⟩) [kPlus,kMinus] from RS.new wr [kPlus,kMinus])
   have HP3:=hid (HP.out.below HP.out.size ha2)
   have HB3:=hid ha2
   have hl3 : (wr.alloc (.cells #[.string ⟨#[43]⟩,.string ⟨#[45]⟩] 9)).heap.size = wr.heap.size + 1:=Array.size_push _
   clear ha2
   generalize (wr.alloc (.cells #[.string ⟨#[43]⟩,.string ⟨#[45]⟩] 9)) = w3 at *
   refine (sees_any p q b k s1 (some ⟨wr.heap.size,0,none⟩) 2 [kPlus,kMinus] w3 HP3.out HRS.out (Nat.le_add_left 2 98)).mono ?_
   rintro e w4 ⟨rfl,hb4⟩
   have hb34:=HB3.out.trans (bl_least hb4 (by omega))
   have hk4 : Kx q p wr.heap.size wr w4:=Kx.of hb34 (Nat.le_refl _)
   have HP4:=hid (HP.out.below HP.out.size hb34)
   have HY4:=hid (HY.out.far (hk4.block y HYL.out (by omega) (by omega)))
   have HE4:=hid (HE.out.far (hk4.block z (by omega) hzq hzp))
   have HT4:=hid ((HT.out.keep (fun g hg=>hk4.block g hg.2.1 (by have:=hg.1;omega) (by have:=hg.1;omega))).mono (fun g hg=>hg.more hk4.size))
   have HK4:=hid (HK.out.trans (hk4.least (by omega)))
   have hyl4 : y < w4.heap.size:=Nat.lt_of_lt_of_le HYL.out hk4.size
   clear hb34 hb4 hk4 HRS HP3 HB3 hl3
   cases hse : sees s1 [kPlus,kMinus] with
   | false=>
     have g0:=HE4.out.c0
     have f0:=HE4.out.free 0
     have y0:=HY4.out.c0
     have g1:=HE4.out.c1
     have f1:=HE4.out.free 1
     have y1:=HY4.out.c1
     have g2:=HE4.out.c2
     have f2:=HE4.out.free 2
     have y2:=HY4.out.c2
     have g3:=HE4.out.c3
     have f3:=HE4.out.free 3
     have y3:=HY4.out.c3
     have g4:=HE4.out.c4
     have f4:=HE4.out.free 4
     have y4:=HY4.out.c4
     go_wp2_with fail
     refine bodyPost_ret (v:=.agg #[.string o1,.int .i64 m1,.string t1,.int .i64 a1,.slice A1 n1 d1]) (results_c1 rfl _ _ _ ⟨z,0,none⟩ _ rfl (HE4.out.put _ _ _ _ _).load) rfl ?_
     exact ExPost.gen (HC.out _ _ (RunE.sumStop hse)) HT4.out HZ.out HP4.out hp HK4.out
   | true=>
     have c0:=HP4.out.c0
     have HNX:=hid (Next_any q s1.1 w4 HP4.out.stm)
     obtain ⟨k5,hk5⟩ : ∃ k5,(pk s1.1).kind = k5:=⟨_,rfl⟩
     obtain ⟨m5,hm5⟩ : ∃ m5,(pk s1.1).num = m5:=⟨_,rfl⟩
     obtain ⟨tt,htt⟩ : ∃ tt,(pk s1.1).text = tt:=⟨_,rfl⟩
     have HTT:=hid htt
     rw [hk5,hm5,htt] at HNX
     clear hk5 hm5 htt
     go_wp2_with fail
     refine HNX.out.mono ?_
     rintro e w5 ⟨⟨a5,rfl⟩,hs5,hq5⟩
     have hfd:=tok_text (.int .i64 k5) (.string (sb tt)) (.int .i64 m5) (.int .i64 a5)
     have HP5':=hid (show Ps w5 p q (nx s1) b k from HP4.out.moved hs5 hq5 HP4.out.size)
     have hk5 : Kx q p w4.heap.size w4 w5:=hq5.wide (.inl rfl) (.inl rfl)
     clear hs5 hq5
     have HY5':=hid (HY4.out.far (hk5.block y hyl4 (by omega) (by omega)))
     have HE5:=hid (HE4.out.far (hk5.block z (by omega) hzq hzp))
     have HT5:=hid ((HT4.out.keep (fun g hg=>hk5.block g hg.2.1 (by have:=hg.1;omega) (by have:=hg.1;omega))).mono (fun g hg=>hg.more hk5.size))
     have HK5:=hid (HK4.out.trans (hk5.least (by omega)))
     have hyl5 : y < w5.heap.size:=Nat.lt_of_lt_of_le hyl4 hk5.size
     clear hk5 HNX c0
     go_upto_region 4 with fail
     have HP5:=hid (show Ps w5.drew p q (nx s1) b k from HP5'.out.drew)
     have HY5:=hid (show EB w5.drew y (.string o1) (.int .i64 m1) (.string t1) (.int .i64 a1) (.slice A1 n1 d1) from HY5'.out)
     refine wp_region_noPanic ?_
     refine wp_region_until (S:=fun W=>W.cell? ⟨y,0,none⟩ = some (.string o1) ∧ W.cell? ⟨y,1,none⟩ = some (.int .i64 m1) ∧ W.cell? ⟨y,2,none⟩ = some (.string t1) ∧ W.cell? ⟨y,3,none⟩ = some (.int .i64 a1) ∧ W.cell? ⟨y,4,none⟩ = some (.slice A1 n1 d1)) 8 (by kernel_rfl) ?_ (fun hHeld=>?_)
     · (try dsimp only)
       exact ⟨HY5.out.c0,HY5.out.c1,HY5.out.c2,HY5.out.c3,HY5.out.c4⟩
     apply tkY 0
     apply tkY 1
     apply tkW 2
     apply tkW 3
     apply tkY 4
     refine wpAnyU_one (i:=5) rfl (by decide) (by kernel_rfl) (by rfl) (fun K' hK'=>?_)
     have HKP:=hid hK'
     clear hK'
     go_simp
     refine (HFA.out b k (nx s1) w5.drew (Nat.le_of_lt (Nat.lt_of_lt_of_le (mu_nx (seen_some hse) (seen_ok hse)) HMU.out)) (fun _=>HKK.out (seen_ok hse)) HP5.out).mono ?_
     rintro e w6 ⟨x2,s2,o2,t2,m2,a2,A2,n2,d2,hr2,rfl,htr2,hp6,hk6⟩
     have HP6:=hid hp6
     have hs46 : w5.heap.size ≤ w6.heap.size:=hk6.size
     have HY6:=hid (HY5'.out.far (hk6.block y hyl5 (by omega) (by omega)))
     have HE6:=hid (HE5.out.far (hk6.block z (show z < w5.heap.size by omega) hzq hzp))
     have HT6:=hid ((HT5.out.keep (fun g hg=>hk6.block g hg.2.1 (by have:=hg.1;omega) (by have:=hg.1;omega))).mono (fun g hg=>hg.more hs46))
     have HK6:=hid (HK5.out.drew.trans (hk6.least (show z ≤ w5.heap.size by omega)))
     have HN6:=hid (htr2.mono (fun g hg=>Fr.fx (z:=z) (y:=y) (w2:=w6) hg (show z < w5.heap.size by omega) (.inl hyl5) (Nat.le_refl _)))
     have HR2:=hid hr2
     clear hr2 htr2 hp6 hk6 HP5 HY5 HE5 HT5 HK5
     (try dsimp only)
     refine HKP.out _ _ ⟨HY6.out.c0,HY6.out.c1,HY6.out.c2,HY6.out.c3,HY6.out.c4⟩ ?_
     clear HKP K'
     (try simp only [List.getElem_toArray,List.getElem_cons_zero,List.getElem_cons_succ,Act.put,List.setIfInBounds_toArray,List.set_cons_zero,List.set_cons_succ])
     have ha7 : Below w6.heap.size w6 (w6.alloc (.cells #[.string o1,.int .i64 m1,.string t1,.int .i64 a1,.slice A1 n1 d1,.string o2,.int .i64 m2,.string t2,.int .i64 a2,.slice A2 n2 d2] 55)):=(Below.refl _ w6).alloc (Nat.le_refl _) _
     have hl7 : (w6.alloc (.cells #[.string o1,.int .i64 m1,.string t1,.int .i64 a1,.slice A1 n1 d1,.string o2,.int .i64 m2,.string t2,.int .i64 a2,.slice A2 n2 d2] 55)).heap.size = w6.heap.size + 1:=Array.size_push _
     have hyl6 : y < w6.heap.size:=by omega
     have HY7:=hid (HY6.out.far (ha7.block y hyl6))
     have HE7:=hid (HE6.out.far (ha7.block z (by omega)))
     have HP7:=hid (HP6.out.below HP6.out.size ha7)
     have HK7:=hid (HK6.out.trans (Kx.of ha7 (by omega)))
     have HT7:=hid (TrV.bin tt a1 ((HT6.out.keep fun g hg=>ha7.block g hg.2.1).mono fun g hg=>hg.more (by omega)) ((HN6.out.keep fun g hg=>ha7.block g hg.2.1).mono fun g hg=>hg.more (by omega)) (heap_alloc_new w6 _) (show Fx z y (w6.alloc (.cells #[.string o1,.int .i64 m1,.string t1,.int .i64 a1,.slice A1 n1 d1,.string o2,.int .i64 m2,.string t2,.int .i64 a2,.slice A2 n2 d2] 55)) w6.heap.size from ⟨by omega,by omega,by omega⟩))
     clear HT6 HN6 HE6 HP6 HK6 ha7
     refine wpAnyU_one (i:=6) rfl (by decide) (by kernel_rfl) (by rfl) (fun K' hK'=>?_)
     have HKP:=hid hK'
     clear hK'
     go_simp
     refine HKP.out _ _ ⟨HY7.out.c0,HY7.out.c1,HY7.out.c2,HY7.out.c3,HY7.out.c4⟩ ?_
     clear HKP K'
     (try simp only [List.getElem_toArray,List.getElem_cons_zero,List.getElem_cons_succ,Act.put,List.setIfInBounds_toArray,List.set_cons_zero,List.set_cons_succ])
     generalize (w6.alloc (.cells #[.string o1,.int .i64 m1,.string t1,.int .i64 a1,.slice A1 n1 d1,.string o2,.int .i64 m2,.string t2,.int .i64 a2,.slice A2 n2 d2] 55)) = w7 at *
     have hHeld2:=hHeld
     clear hHeld
     have hHeld : _ ∧ _ ∧ _ ∧ _ ∧ _:=⟨HY7.out.c0,HY7.out.c1,HY7.out.c2,HY7.out.c3,HY7.out.c4⟩
     apply tkY 7
     refine wpAnyU_at (c:=8) rfl (by kernel_rfl) (by rfl) (fun K hK=>?_)
     have HK:=hid hK
     clear hK
     have k0:=HY7.out.c0
     have l0:=HY7.out.free 0
     have k1:=HY7.out.c1
     have l1:=HY7.out.free 1
     have k2:=HY7.out.c2
     have l2:=HY7.out.free 2
     have k3:=HY7.out.c3
     have l3:=HY7.out.free 3
     have k4:=HY7.out.c4
     have l4:=HY7.out.free 4
     go_simp
     refine HK.out _ _ ?_
     clear HK K
     (try simp only [List.getElem_toArray,List.getElem_cons_zero,List.getElem_cons_succ,Act.put,List.setIfInBounds_toArray,List.set_cons_zero,List.set_cons_succ])
     refine wpAny_done (by kernel_rfl) ?_ _
     refine NoPanic.normal ?_
     go_wp2_with fail
     have hb8:=below5 (Below.refl y w7) (.string (sb tt)) (.int .i64 0) (.string ⟨#[]⟩) (.int .i64 a1) (.slice (some ⟨w6.heap.size,0,none⟩) 2 2)
     have HP8:=HP7.out.below (show p < y by omega) hb8
     refine ⟨⟨.bin tt x1 x2,s2,_,_,_,_,_,_,_,Nat.le_trans (mu_run HR2.out) (Nat.le_of_lt (Nat.lt_of_lt_of_le (mu_nx (seen_some hse) (seen_ok hse)) HMU.out)),fun _=>HKK.out (seen_ok hse),fun e2 s3 h=>HC.out _ _ (RunE.sumGo hse HR2.out (by rw [HTT.out];exact h)),(HT7.out.keep fun g hg=>far5 hg.2.2 _ _ _ _ _).mono fun g hg=>hg.more hb8.size,HY7.out.put _ _ _ _ _,HE7.out.far (far5 (by omega) _ _ _ _ _),HP8,HK7.out.trans (Kx.of hb8 (by omega)),Nat.lt_of_lt_of_le (show y < w7.heap.size by omega) hb8.size⟩,?_⟩
     rw [mW_of HP8.stm,HMW.out]
     have:=suf_lt HR2.out.suf (seen_some hse)
     omega
end
end Go.Proofs.YtgmjpnnblhkbpaaDoor
namespace Go.Proofs.YtgmjpnnblhkbpaaDoor
open Go Go.RowKit Go.Sh Tx
open Go.Lib (hid)
theorem Stm.bound {w : World} {q : Nat} {r : List Tk} (h : Stm w q r) : r.length ≤ 8000:=by
 obtain ⟨A,n,c,i,tks,h1,h2,h3,h4,h5,h6,h7⟩:=h
 have h8 : ((tks.map Prod.fst).drop i).length = r.length + 1:=by rw [h6];simp
 have h9 : (tks.map tkc).length = n:=h2.1
 rw [List.length_map] at h9
 rw [List.length_drop,List.length_map] at h8
 omega
theorem TL.fin {α : Type} {K : Rw α} {e : TypeId} {lo n c z y : Nat} {w : World} {A : Option Addr} {l : List α} (h : TL K e lo w (.slice A n c) n l) (hz : z < lo) (hy : y < lo) : ∃ css,RP (Fx z y w) w K.sz A n css ∧ K.R (Fx z y w) w l css ∧ n ≤ c:=by
 obtain ⟨css,h1,h2,h3⟩:=h
 refine ⟨css,RP.of_own h1 h3 (K.size h2) (fun b _ hb hb2=>⟨by omega,hb2,by omega⟩),K.mono h2 fun b hb=>⟨by have:=hb.1;omega,hb.2.1,by have:=hb.1;omega⟩,?_⟩
 rcases h1.2 with ⟨h,h0⟩ | ⟨g,cap,cur,hv,_,_,hcap,_⟩
 · injection h with h1 h2 h3;omega
 · injection hv with _ _ h3;omega
theorem EB.put4 {w : World} {z : Nat} {v0 v1 v2 v3 v4 : Value} (h : EB w z v0 v1 v2 v3 v4) (v : Value) : EB (w.setCell ⟨z,4,none⟩ v) z v0 v1 v2 v3 v:=blk_set h _
section
set_option maxHeartbeats 16000000
set_option maxRecDepth 100000
set_option maxRecDepth 100000 in
theorem factor_ok (p q n : Nat) (ha : ExOK p q 56 .atom n) (hx : ∀ m,m < n → ExOK p q 33 .expr m) : ExOK p q 73 .factor n:=by
 intro b k s w hmu hk12 h
 have hp:=h.size
 have hqp:=h.lt
 have HKI:=hid (fun (x : Int) W (hs : Ps W p q s b k)=>kind_any p q b k s x W hs)
 have HB1:=hid (show Below w.heap.size w (w.alloc (.cells #[.string ⟨#[]⟩,.int .i64 0,.string ⟨#[]⟩,.int .i64 0,.slice none 0 0] 55)) from (Below.refl _ w).alloc (Nat.le_refl _) _)
 have HP1:=hid (h.below hp HB1.out)
 have HE1:=hid (show EB (w.alloc (.cells #[.string ⟨#[]⟩,.int .i64 0,.string ⟨#[]⟩,.int .i64 0,.slice none 0 0] 55)) w.heap.size (.string ⟨#[]⟩) (.int .i64 0) (.string ⟨#[]⟩) (.int .i64 0) (.slice none 0 0) from heap_alloc_new w _)
 have hs1 : (w.alloc (.cells #[.string ⟨#[]⟩,.int .i64 0,.string ⟨#[]⟩,.int .i64 0,.slice none 0 0] 55)).heap.size = w.heap.size + 1:=Array.size_push _
 clear h
 go_enter Tryd.func73,Tryd.ntmps73
 go_wp2_with fail
 obtain ⟨z,hz⟩ : ∃ z,w.heap.size = z:=⟨_,rfl⟩
 have HZ:=hid hz
 rw [hz] at HB1 HE1 hs1 hp
 have HK1:=hid (show Kx q p z w _ from Kx.of HB1.out (Nat.le_refl _))
 rw [hz]
 have hz1 : z + 1 ≤ (w.alloc (.cells #[.string ⟨#[]⟩,.int .i64 0,.string ⟨#[]⟩,.int .i64 0,.slice none 0 0] 55)).heap.size:=Nat.le_of_eq hs1.symm
 have hzq : z ≠ q:=by omega
 have hzp : z ≠ p:=by omega
 clear hz hs1 HB1
 generalize w.alloc (.cells #[.string ⟨#[]⟩,.int .i64 0,.string ⟨#[]⟩,.int .i64 0,.slice none 0 0] 55) = w1 at *
 refine (HKI.out 4 w1 HP1.out).mono ?_
 rintro e w2 ⟨rfl,hb2⟩
 have hk2 : Kx q p w1.heap.size w1 w2:=Kx.of hb2 (Nat.le_refl _)
 have HP2:=hid (HP1.out.below HP1.out.size hb2)
 clear hb2
 have HE2:=hid (HE1.out.far (hk2.block z (by omega) hzq hzp))
 have HK2:=hid (HK1.out.trans (hk2.least (by omega)))
 have hz2 : z + 1 ≤ w2.heap.size:=Nat.le_trans hz1 hk2.size
 clear hk2 HE1 HK1
 cases hk4 : knd s 4 with
 | true=>
   have c0:=HP2.out.c0
   have HNX:=hid (fun W (hs : Stm W q s.1)=>Next_any q s.1 W hs)
   generalize (pk s.1).kind = k1 at *
   obtain ⟨m1,hm1⟩ : ∃ m1,(pk s.1).num = m1:=⟨_,rfl⟩
   obtain ⟨tt,htt⟩ : ∃ tt,(pk s.1).text = tt:=⟨_,rfl⟩
   have HR:=hid (show RunE k (.factor s) (.text tt) (nx s) by rw [← htt];exact RunE.ftext hk4)
   rw [hm1,htt] at HNX
   clear hm1 htt
   go_wp2_with fail
   refine (HNX.out w2 HP2.out.stm).mono ?_
   rintro e w3 ⟨⟨a,rfl⟩,hs3,hq3⟩
   have HP3:=hid (show Ps w3 p q (nx s) b k from HP2.out.moved hs3 hq3 HP2.out.size)
   have hk3 : Kx q p w2.heap.size w2 w3:=hq3.wide (.inl rfl) (.inl rfl)
   clear hs3 hq3
   have HE3:=hid (HE2.out.far (hk3.block z (by omega) hzq hzp))
   have HK3:=hid (HK2.out.trans (hk3.least (by omega)))
   have hz3 : z + 1 ≤ w3.heap.size:=Nat.le_trans hz2 hk3.size
   clear hk3 HE2 HK2
   go_upto_region 3 with fail
   have hla4 : Below w3.heap.size w3 (w3.alloc (.cells #[.int .i64 k1,.string (sb tt),.int .i64 m1,.int .i64 a] 73)):=(Below.refl _ w3).alloc (Nat.le_refl _) _
   have hy4 : (w3.alloc (.cells #[.int .i64 k1,.string (sb tt),.int .i64 m1,.int .i64 a] 73)).heap[w3.heap.size]? = some (.cells #[.int .i64 k1,.string (sb tt),.int .i64 m1,.int .i64 a] 73 (0,0)):=heap_alloc_new w3 _
   have hk4 : Kx q p w3.heap.size w3 (w3.alloc (.cells #[.int .i64 k1,.string (sb tt),.int .i64 m1,.int .i64 a] 73)):=Kx.of hla4 (Nat.le_refl _)
   have HP4:=hid (HP3.out.below HP3.out.size hla4)
   have HY4:=hid hy4
   clear hla4 hy4
   generalize w3.alloc (.cells #[.int .i64 k1,.string (sb tt),.int .i64 m1,.int .i64 a] 73) = w4 at *
   have HE4:=hid (HE3.out.far (hk4.block z (by omega) hzq hzp))
   have HK4:=hid (HK3.out.trans (hk4.least (by omega)))
   have hz4 : z + 1 ≤ w4.heap.size:=Nat.le_trans hz3 hk4.size
   clear hk4 HE3 HK3
   obtain ⟨y,hy⟩ : ∃ y,w3.heap.size = y:=⟨_,rfl⟩
   rw [hy] at HY4 ⊢
   have y1 : w4.cell? ⟨y,1,none⟩ = some (.string (sb tt)):=blk_cell HY4.out
   have y3 : w4.cell? ⟨y,3,none⟩ = some (.int .i64 a):=blk_cell HY4.out
   clear HY4 hy
   have g0:=HE4.out.c0
   have f0:=HE4.out.free 0
   have g1:=HE4.out.c1
   have f1:=HE4.out.free 1
   have g2:=HE4.out.c2
   have f2:=HE4.out.free 2
   have g3:=HE4.out.c3
   have f3:=HE4.out.free 3
   have g4:=HE4.out.c4
   have f4:=HE4.out.free 4
   go_wp2_with fail
   refine bodyPost_ret (v:=.agg #[.string ⟨#[116,101,120,116]⟩,.int .i64 0,.string (sb tt),.int .i64 a,.slice none 0 0]) (results_c1 rfl _ _ _ ⟨z,0,none⟩ _ rfl (HE4.out.put _ _ _ _ _).load) rfl ?_
   exact ExPost.leaf (x:=.text tt) HR.out rfl a HZ.out HP4.out hp HK4.out
 | false=>
   go_wp2_with fail
   have hla3 : Below w2.heap.size w2 (w2.alloc (.cells #[.string ⟨#[106,111,105,110]⟩] 9)):=(Below.refl _ w2).alloc (Nat.le_refl _) _
   have hy3 : (w2.alloc (.cells #[.string ⟨#[106,111,105,110]⟩] 9)).heap[w2.heap.size]? = some (.cells #[.string ⟨#[106,111,105,110]⟩] 9 (0,0)):=heap_alloc_new w2 _
   have hk3 : Kx q p w2.heap.size w2 (w2.alloc (.cells #[.string ⟨#[106,111,105,110]⟩] 9)):=Kx.of hla3 (Nat.le_refl _)
   have HP3:=hid (HP2.out.below HP2.out.size hla3)
   have HRS:=hid (show RS (w2.alloc (.cells #[.string ⟨#[106,111,105,110]⟩] 9)) (some ⟨w2.heap.size,0,none⟩) [kJoin] from RS.new w2 [kJoin])
   have HY3:=hid hy3
   clear hla3 hy3
   generalize w2.alloc (.cells #[.string ⟨#[106,111,105,110]⟩] 9) = w3 at *
   have HE3:=hid (HE2.out.far (hk3.block z (by omega) hzq hzp))
   have HK3:=hid (HK2.out.trans (hk3.least (by omega)))
   have hz3 : z + 1 ≤ w3.heap.size:=Nat.le_trans hz2 hk3.size
   clear hk3 HE2 HK2
   have HSE:=hid (sees_any p q b k s (some ⟨w2.heap.size,0,none⟩) 1 [kJoin] w3 HP3.out HRS.out (Nat.le_add_left 1 99))
   clear HRS HY3
   refine HSE.out.mono ?_
   rintro e w4 ⟨rfl,hb4⟩
   have hk4 : Kx q p w3.heap.size w3 w4:=Kx.of hb4 (Nat.le_refl _)
   have HP4:=hid (HP3.out.below HP3.out.size hb4)
   clear hb4
   have HE4:=hid (HE3.out.far (hk4.block z (by omega) hzq hzp))
   have HK4:=hid (HK3.out.trans (hk4.least (by omega)))
   have hz4 : z + 1 ≤ w4.heap.size:=Nat.le_trans hz3 hk4.size
   clear hk4 HE3 HK3
   clear HSE
   cases hse : sees s [kJoin] with
   | false=>
     have HAT:=hid (ha b k s w4 hmu hk12 HP4.out)
     go_wp2_with fail
     refine HAT.out.mono ?_
     rintro e w5 ⟨x,s',o,t,m,a,A,n',d,hr,rfl,htr,hp5,hk5⟩
     have HP5:=hid hp5
     have HTR:=hid htr
     have HRU:=hid hr
     clear hp5 hr htr HAT
     have HE5:=hid (HE4.out.far (hk5.block z (by omega) hzq hzp))
     have HK5:=hid (HK4.out.trans (hk5.least (by omega)))
     have hz5 : z + 1 ≤ w5.heap.size:=Nat.le_trans hz4 hk5.size
     clear hk5 HE4 HK4
     have g0:=HE5.out.c0
     have f0:=HE5.out.free 0
     have g1:=HE5.out.c1
     have f1:=HE5.out.free 1
     have g2:=HE5.out.c2
     have f2:=HE5.out.free 2
     have g3:=HE5.out.c3
     have f3:=HE5.out.free 3
     have g4:=HE5.out.c4
     have f4:=HE5.out.free 4
     go_wp2_with fail
     refine bodyPost_ret (v:=.agg #[.string o,.int .i64 m,.string t,.int .i64 a,.slice A n' d]) (results_c1 rfl _ _ _ ⟨z,0,none⟩ _ rfl (HE5.out.put _ _ _ _ _).load) rfl ?_
     exact ExPost.tree (RunE.fatom hk4 hse HRU.out) HTR.out HZ.out (by omega) (Nat.le_refl _) HP5.out hp HK5.out
   | true=>
     have hk12' : k ≤ 12:=hk12 (seen_ok hse)
     have c0:=HP4.out.c0
     have HNX:=hid (Next_any q s.1 w4 HP4.out.stm)
     generalize (pk s.1).kind = k5 at *
     generalize (pk s.1).num = m5 at *
     generalize sb (pk s.1).text = t5 at *
     go_wp2_with fail
     refine HNX.out.mono ?_
     rintro e w5 ⟨⟨a,rfl⟩,hs5,hq5⟩
     have HP5:=hid (show Ps w5 p q (nx s) b k from HP4.out.moved hs5 hq5 HP4.out.size)
     have hk5 : Kx q p w4.heap.size w4 w5:=hq5.wide (.inl rfl) (.inl rfl)
     clear hs5 hq5
     have HE5:=hid (HE4.out.far (hk5.block z (by omega) hzq hzp))
     have HK5:=hid (HK4.out.trans (hk5.least (by omega)))
     have hz5 : z + 1 ≤ w5.heap.size:=Nat.le_trans hz4 hk5.size
     clear hk5 HE4 HK4
     have hfd:=tok_at (.int .i64 k5) (.string t5) (.int .i64 m5) (.int .i64 a)
     go_upto_region 7 with fail
     have hla6 : Below w5.heap.size w5 (w5.alloc (.cells #[.string ⟨#[106,111,105,110]⟩,.int .i64 0,.string ⟨#[]⟩,.int .i64 a,.slice none 0 0] 55)):=(Below.refl _ w5).alloc (Nat.le_refl _) _
     have hy6 : (w5.alloc (.cells #[.string ⟨#[106,111,105,110]⟩,.int .i64 0,.string ⟨#[]⟩,.int .i64 a,.slice none 0 0] 55)).heap[w5.heap.size]? = some (.cells #[.string ⟨#[106,111,105,110]⟩,.int .i64 0,.string ⟨#[]⟩,.int .i64 a,.slice none 0 0] 55 (0,0)):=heap_alloc_new w5 _
     have hk6 : Kx q p w5.heap.size w5 (w5.alloc (.cells #[.string ⟨#[106,111,105,110]⟩,.int .i64 0,.string ⟨#[]⟩,.int .i64 a,.slice none 0 0] 55)):=Kx.of hla6 (Nat.le_refl _)
     have HP6:=hid (HP5.out.below HP5.out.size hla6)
     have hl6 : (w5.alloc (.cells #[.string ⟨#[106,111,105,110]⟩,.int .i64 0,.string ⟨#[]⟩,.int .i64 a,.slice none 0 0] 55)).heap.size = w5.heap.size + 1:=Array.size_push _
     have HY6:=hid hy6
     clear hla6 hy6
     generalize w5.alloc (.cells #[.string ⟨#[106,111,105,110]⟩,.int .i64 0,.string ⟨#[]⟩,.int .i64 a,.slice none 0 0] 55) = w6 at *
     have HE6:=hid (HE5.out.far (hk6.block z (by omega) hzq hzp))
     have HK6:=hid (HK5.out.trans (hk6.least (by omega)))
     have hz6 : z + 1 ≤ w6.heap.size:=Nat.le_trans hz5 hk6.size
     clear hk6 HE5 HK5
     obtain ⟨y,hy⟩ : ∃ y,w5.heap.size = y:=⟨_,rfl⟩
     rw [hy] at HY6 hl6 ⊢
     have hzy : z < y:=by omega
     have HY6:=hid (show EB w6 y (.string ⟨#[106,111,105,110]⟩) (.int .i64 0) (.string ⟨#[]⟩) (.int .i64 a) (.slice none 0 0) from HY6.out)
     clear hfd hy HNX
     go_wp2_with fail
     refine (open_any p q b k (nx s) w6 HP6.out hk12').mono ?_
     rintro e w7 ⟨rfl,hp7,hk7⟩
     have HP7:=hid hp7
     clear hp7
     have HY7:=hid (HY6.out.far (hk7.block y (by omega) (by omega) (by omega)))
     have hl7 : y + 1 ≤ w7.heap.size:=Nat.le_trans (Nat.le_of_eq hl6.symm) hk7.size
     have HE7:=hid (HE6.out.far (hk7.block z (by omega) hzq hzp))
     have HK7:=hid (HK6.out.trans (hk7.least (by omega)))
     have hz7 : z + 1 ≤ w7.heap.size:=Nat.le_trans hz6 hk7.size
     clear hk7 HE6 HK6
     obtain ⟨s7,hs7⟩ : ∃ s7,openS k (nx s) = s7:=⟨_,rfl⟩
     have HOP:=hid hs7
     have hmu7 : mu s7 < n:=by rw [← hs7];exact Nat.lt_of_le_of_lt (mu_open _) (Nat.lt_of_lt_of_le (mu_nx (seen_some hse) (seen_ok hse)) hmu)
     have hk13 : s7.2 = 0 → k + 1 ≤ 12:=fun h=>by rw [← hs7] at h;exact (open_ok hk12' h).1
     rw [hs7] at HP7
     clear hs7
     have HMU:=hid hmu7
     have HKK:=hid hk13
     clear hmu7 hk13
     have HX:=hid hx
     obtain ⟨A0,n0,c0',hY7,hTL7,hn0⟩ : ∃ A0 n0 c0',EB w7 y (.string ⟨#[106,111,105,110]⟩) (.int .i64 0) (.string ⟨#[]⟩) (.int .i64 a) (.slice A0 n0 c0') ∧ TL exR 55 (y + 1) w7 (.slice A0 n0 c0') n0 [] ∧ n0 = 0:=⟨none,0,0,HY7.out,TL.nil,rfl⟩
     have HN0:=hid hn0
     have HY7:=hid hY7
     have HTL7:=hid hTL7
     have HL7:=hid hl7
     have hbd7:=HP7.out.stm.bound
     clear hY7 hTL7 hn0 HY6 hl6
     go_upto_region 8 with fail
     have HPd:=hid (show Ps w7.drew p q s7 b (k + 1) from HP7.out.drew)
     have HYd:=hid (show EB w7.drew y (.string ⟨#[106,111,105,110]⟩) (.int .i64 0) (.string ⟨#[]⟩) (.int .i64 a) (.slice A0 n0 c0') from HY7.out)
     have HTLd:=hid (show TL exR 55 (y + 1) w7.drew (.slice A0 n0 c0') n0 [] from HTL7.out.keep (Nat.le_refl _) fun _ _ _=>rfl)
     have HEd:=hid (show EB w7.drew z (.string ⟨#[]⟩) (.int .i64 0) (.string ⟨#[]⟩) (.int .i64 0) (.slice none 0 0) from HE7.out)
     have HKd:=hid (show Kx q p z w w7.drew from HK7.out.drew)
     have hlw : y + 1 ≤ w7.drew.heap.size:=HL7.out
     refine wp_region_noPanic ?_
     refine wp_region_until (S:=fun X=>X.cell? ⟨y,4,none⟩ = some (.slice A0 n0 c0')) 7 (by kernel_rfl) ?_ (fun hHeld=>?_)
     · (try dsimp only)
       exact HYd.out.c4
     generalize w7.drew = wd at *
     apply tkY 0
     apply tkW 1
     apply tkY 2
     refine wpAnyU_one (i:=3) rfl (by decide) (by kernel_rfl) (by rfl) (fun K' hK'=>?_)
     have HKP:=hid hK'
     clear hK'
     go_simp
     refine (HX.out (mu s7) HMU.out b (k + 1) s7 wd (Nat.le_refl _) HKK.out HPd.out).mono ?_
     rintro e w8 ⟨x2,s2,o2,t2,m2,a2,A2,n2,d2,hr2,rfl,htr2,hp8,hk8⟩
     have HP8:=hid hp8
     have HR2:=hid hr2
     have hs8:=hk8.size
     have HY8:=hid (HYd.out.far (hk8.block y (by omega) (by omega) (by omega)))
     have HE8:=hid (HEd.out.far (hk8.block z (by omega) hzq hzp))
     have HK8:=hid (HKd.out.trans (hk8.least (by omega)))
     obtain ⟨A3,c3,w9,hrun,htl9,hbl9,hs9⟩:=TL.push (K:=exR) (p:=p) (q:=q) 53 TTx (by decide) HTLd.out hk8 (show q < y + 1 by omega) (show p < y + 1 by omega) hlw (by have:=HN0.out;omega) htr2
     have HRUN:=hid (show (Builtin.append_ #[53,53] 53 #[.slice A0 n0 c0',.slice (some ⟨w8.heap.size,0,none⟩) 1 1]).run Tryd.prog (w8.alloc (.cells #[.string o2,.int .i64 m2,.string t2,.int .i64 a2,.slice A2 n2 d2] 55)) = .ok (.slice A3 (n0 + 1) c3) w9 from hrun)
     have HTL9:=hid htl9
     have HP9:=hid (HP8.out.below (show p < y + 1 by omega) hbl9)
     have HY9:=hid (HY8.out.far (hbl9.block y (Nat.lt_succ_self y)))
     have HE9:=hid (HE8.out.far (hbl9.block z (by omega)))
     have HK9:=hid (HK8.out.trans (Kx.of hbl9 (by omega)))
     have HYa:=hid (HY8.out.far (((Below.refl _ w8).alloc (Nat.le_refl _) (.cells #[.string o2,.int .i64 m2,.string t2,.int .i64 a2,.slice A2 n2 d2] 55)).block y (by omega)))
     clear hr2 htr2 hp8 hk8 hrun htl9 hbl9 HPd HYd HTLd HEd HKd
     (try dsimp only)
     refine HKP.out _ _ HY8.out.c4 ?_
     clear HKP K'
     (try simp only [List.getElem_toArray,List.getElem_cons_zero,List.getElem_cons_succ,Act.put,List.setIfInBounds_toArray,List.set_cons_zero,List.set_cons_succ])
     refine wpAnyU_one (i:=4) rfl (by decide) (by kernel_rfl) (by rfl) (fun K' hK'=>?_)
     have HKP:=hid hK'
     clear hK'
     go_simp
     refine HKP.out _ _ HYa.out.c4 ?_
     clear HKP K'
     (try simp only [List.getElem_toArray,List.getElem_cons_zero,List.getElem_cons_succ,Act.put,List.setIfInBounds_toArray,List.set_cons_zero,List.set_cons_succ])
     refine wpAnyU_one (i:=5) rfl (by decide) (by kernel_rfl) (by rfl) (fun K' hK'=>?_)
     have HKP:=hid hK'
     clear hK'
     refine Lib.wp_append_run _ (.tmp 33) (.tmp 36) 53 53 rfl _ _ rfl rfl _ _ HRUN.out ?_
     refine HKP.out _ _ HY9.out.c4 ?_
     clear HKP K'
     (try simp only [List.getElem_toArray,List.getElem_cons_zero,List.getElem_cons_succ,Act.put,List.setIfInBounds_toArray,List.set_cons_zero,List.set_cons_succ])
     clear hHeld HRUN HYa
     have hHeld:=HY9.out.c4
     apply tkY 6
     refine wpAnyU_at (c:=7) rfl (by kernel_rfl) (by rfl) (fun K hK=>?_)
     have HK:=hid hK
     clear hK
     have k4:=HY9.out.c4
     have l4:=HY9.out.free 4
     go_simp
     refine HK.out _ _ ?_
     clear HK K
     (try simp only [List.getElem_toArray,List.getElem_cons_zero,List.getElem_cons_succ,Act.put,List.setIfInBounds_toArray,List.set_cons_zero,List.set_cons_succ])
     refine wpAny_done (by kernel_rfl) ?_ _
     refine NoPanic.normal ?_
     have hbn : Below y w9 (w9.setCell ⟨y,4,none⟩ (.slice A3 (n0 + 1) c3)):=(Below.refl y w9).setCell (p:=⟨y,4,none⟩) (Nat.le_refl _) _
     have hfn : ∀ g,g ≠ y → (w9.setCell ⟨y,4,none⟩ (.slice A3 (n0 + 1) c3)).heap[g]? = w9.heap[g]?:=fun g hg=>Below.heap_setCell w9 ⟨y,4,none⟩ _ g hg
     have HPn:=hid (HP9.out.below (show p < y by omega) hbn)
     have HYn:=hid (HY9.out.put4 (.slice A3 (n0 + 1) c3))
     have HEn:=hid (HE9.out.far (hfn z (by omega)))
     have HKn:=hid (HK9.out.trans (Kx.of hbn (by omega)))
     have HTLn:=hid (HTL9.out.keep hbn.size fun g hg _=>hfn g (by omega))
     have HLn:=hid (Nat.le_trans (show y + 1 ≤ w9.heap.size by omega) hbn.size)
     clear hbn hfn HP8 HY8 HE8 HK8 HP9 HY9 HE9 HK9 HTL9 hs8 hs9 hHeld hlw
     generalize w9.setCell ⟨y,4,none⟩ (.slice A3 (n0 + 1) c3) = wn at *
     have HBD:=hid (show n0 + 1 + s2.1.length ≤ 8002 by have:=HN0.out;have:=HPn.out.stm.bound;omega)
     clear hbd7
     go_wp2_with fail
     go_loopw [40] (fun _ wr=>∃ (l : List Ex) (s' : PS) (A : Option Addr) (n' c' : Nat),mu s' < n ∧ (s'.2 = 0 → k + 1 ≤ 12) ∧ n' + s'.1.length ≤ 8002 ∧ (∀ j s2,RunE (k + 1) (.args l s') j s2 → RunE k (.factor s) j (takeS s2 kRp)) ∧ TL exR 55 (y + 1) wr (.slice A n' c') n' l ∧ EB wr y (.string ⟨#[106,111,105,110]⟩) (.int .i64 0) (.string ⟨#[]⟩) (.int .i64 a) (.slice A n' c') ∧ EB wr z (.string ⟨#[]⟩) (.int .i64 0) (.string ⟨#[]⟩) (.int .i64 0) (.slice none 0 0) ∧ Ps wr p q s' b (k + 1) ∧ Kx q p z w wr ∧ y + 1 ≤ wr.heap.size) (fun _ wr=>mW q wr)
     case atStart=>
       exact ⟨[x2],s2,A3,n0 + 1,c3,Nat.lt_of_le_of_lt (mu_run HR2.out) HMU.out,fun h=>HKK.out (HR2.out.ok h),HBD.out,fun j s3 h=>RunE.fjoin hk4 hse (by rw [HOP.out];exact HR2.out) h,HTLn.out,HYn.out,HEn.out,HPn.out,HKn.out,HLn.out⟩
     case round=>
       obtain ⟨l,s1,A0,n1,c1,hmu1,hkk1,hbd1,hc1,htl1,hy1,he1,hp1,hkx1,hl1⟩:=hrel
       clear HMU HKK HTLn HYn HEn HPn HKn HLn HBD HR2 HN0 HP7 HY7 HE7 HK7 HTL7 HL7
       have HMU:=hid hmu1
       have HKK:=hid hkk1
       have HBD:=hid hbd1
       have HC:=hid hc1
       have HTL:=hid htl1
       have HY:=hid hy1
       have HE:=hid he1
       have HP:=hid hp1
       have HK:=hid hkx1
       have HL:=hid hl1
       have HMW:=hid (mW_of hp1.stm)
       clear hmu1 hkk1 hbd1 hc1 htl1 hy1 he1 hp1 hkx1
       have HAL:=hid (show Calls Tryd.prog 35 #[.pointer (some ⟨p,0,none⟩),.string ⟨#[44]⟩] wr _ from also_any p q b (k + 1) s1 kComma wr HP.out)
       have HAS:=hid (show alsoS s1 kComma = if sees s1 [kComma] then nx s1 else s1 from rfl)
       go_wp2_with fail
       refine HAL.out.mono ?_
       rintro e w14 ⟨rfl,hp4,hk4'⟩
       have HP4':=hid hp4
       have HY14:=hid (HY.out.far (hk4'.block y (by omega) (by omega) (by omega)))
       have HE14:=hid (HE.out.far (hk4'.block z (by omega) hzq hzp))
       have HTL14:=hid (HTL.out.kx hk4' (Nat.le_refl _) (show q < y + 1 by omega) (show p < y + 1 by omega))
       have HK14:=hid (HK.out.trans (hk4'.least (by omega)))
       have HL14:=hid (Nat.le_trans hl1 hk4'.size)
       clear hp4 hk4' HAL HTL HY HE HP HK HL hl1
       cases hsc : sees s1 [kComma] with
       | false=>
         have HSS:=hid (show alsoS s1 kComma = s1 by rw [HAS.out,hsc];rfl)
         rw [HSS.out] at HP4'
         go_wp2_with fail
         refine (shut_any p q b k s1 w14 HP4'.out).mono ?_
         rintro e w15 ⟨rfl,hp5',hk5'⟩
         have HP15:=hid hp5'
         have hl14:=HL14.out
         have HY15:=hid (HY14.out.far (hk5'.block y (by omega) (by omega) (by omega)))
         have HE15:=hid (HE14.out.far (hk5'.block z (by omega) hzq hzp))
         have HTL15:=hid (HTL14.out.kx hk5' (Nat.le_refl _) (show q < y + 1 by omega) (show p < y + 1 by omega))
         have HK15:=hid (HK14.out.trans (hk5'.least (by omega)))
         clear hp5' hk5'
         have g0:=HE15.out.c0
         have f0:=HE15.out.free 0
         have y0:=HY15.out.c0
         have g1:=HE15.out.c1
         have f1:=HE15.out.free 1
         have y1:=HY15.out.c1
         have g2:=HE15.out.c2
         have f2:=HE15.out.free 2
         have y2:=HY15.out.c2
         have g3:=HE15.out.c3
         have f3:=HE15.out.free 3
         have y3:=HY15.out.c3
         have g4:=HE15.out.c4
         have f4:=HE15.out.free 4
         have y4:=HY15.out.c4
         go_wp2_with fail
         refine bodyPost_ret (v:=.agg #[.string ⟨#[106,111,105,110]⟩,.int .i64 0,.string ⟨#[]⟩,.int .i64 a,.slice A0 n1 c1]) (results_c1 rfl _ _ _ ⟨z,0,none⟩ _ rfl (HE15.out.put _ _ _ _ _).load) rfl ?_
         obtain ⟨css,hrp,htv,hnc⟩:=HTL15.out.fin (z:=z) (y:=y) (by omega) (by omega)
         exact ExPost.gen (x:=.join l) (y:=y) (HC.out _ _ (RunE.argsStop hsc)) (TrV.cons (e:=.join l) htv hrp hnc .nil) HZ.out HP15.out hp HK15.out
       | true=>
         have HSS:=hid (show alsoS s1 kComma = nx s1 by rw [HAS.out,hsc];rfl)
         rw [HSS.out] at HP4'
         go_upto_region 10 with fail
         have HPd:=hid (show Ps w14.drew p q (nx s1) b (k + 1) from HP4'.out.drew)
         have HYd:=hid (show EB w14.drew y (.string ⟨#[106,111,105,110]⟩) (.int .i64 0) (.string ⟨#[]⟩) (.int .i64 a) (.slice A0 n1 c1) from HY14.out)
         have HTLd:=hid (show TL exR 55 (y + 1) w14.drew (.slice A0 n1 c1) n1 l from HTL14.out.keep (Nat.le_refl _) fun _ _ _=>rfl)
         have HEd:=hid (show EB w14.drew z (.string ⟨#[]⟩) (.int .i64 0) (.string ⟨#[]⟩) (.int .i64 0) (.slice none 0 0) from HE14.out)
         have HKd:=hid (show Kx q p z w w14.drew from HK14.out.drew)
         have hlw : y + 1 ≤ w14.drew.heap.size:=HL14.out
         refine wp_region_noPanic ?_
         refine wp_region_until (S:=fun X=>X.cell? ⟨y,4,none⟩ = some (.slice A0 n1 c1)) 7 (by kernel_rfl) ?_ (fun hHeld=>?_)
         · (try dsimp only)
           exact HYd.out.c4
         generalize w14.drew = wd at *
         apply tkY 0
         apply tkW 1
         apply tkY 2
         refine wpAnyU_one (i:=3) rfl (by decide) (by kernel_rfl) (by rfl) (fun K' hK'=>?_)
         have HKP:=hid hK'
         clear hK'
         go_simp
         refine (HX.out (mu (nx s1)) (Nat.lt_trans (mu_nx (seen_some hsc) (seen_ok hsc)) HMU.out) b (k + 1) (nx s1) wd (Nat.le_refl _) (fun _=>HKK.out (seen_ok hsc)) HPd.out).mono ?_
         rintro e w8 ⟨x2,s2,o2,t2,m2,a2,A2,n2,d2,hr2,rfl,htr2,hp8,hk8⟩
         have HP8:=hid hp8
         have HR2:=hid hr2
         have hs8:=hk8.size
         have HY8:=hid (HYd.out.far (hk8.block y (by omega) (by omega) (by omega)))
         have HE8:=hid (HEd.out.far (hk8.block z (by omega) hzq hzp))
         have HK8:=hid (HKd.out.trans (hk8.least (by omega)))
         obtain ⟨A3,c3,w9,hrun,htl9,hbl9,hs9⟩:=TL.push (K:=exR) (p:=p) (q:=q) 53 TTx (by decide) HTLd.out hk8 (show q < y + 1 by omega) (show p < y + 1 by omega) hlw (by have:=HBD.out;omega) htr2
         have HRUN:=hid (show (Builtin.append_ #[53,53] 53 #[.slice A0 n1 c1,.slice (some ⟨w8.heap.size,0,none⟩) 1 1]).run Tryd.prog (w8.alloc (.cells #[.string o2,.int .i64 m2,.string t2,.int .i64 a2,.slice A2 n2 d2] 55)) = .ok (.slice A3 (n1 + 1) c3) w9 from hrun)
         have HTL9:=hid htl9
         have HP9:=hid (HP8.out.below (show p < y + 1 by omega) hbl9)
         have HY9:=hid (HY8.out.far (hbl9.block y (Nat.lt_succ_self y)))
         have HE9:=hid (HE8.out.far (hbl9.block z (by omega)))
         have HK9:=hid (HK8.out.trans (Kx.of hbl9 (by omega)))
         have HYa:=hid (HY8.out.far (((Below.refl _ w8).alloc (Nat.le_refl _) (.cells #[.string o2,.int .i64 m2,.string t2,.int .i64 a2,.slice A2 n2 d2] 55)).block y (by omega)))
         clear hr2 htr2 hp8 hk8 hrun htl9 hbl9 HPd HYd HTLd HEd HKd
         (try dsimp only)
         refine HKP.out _ _ HY8.out.c4 ?_
         clear HKP K'
         (try simp only [List.getElem_toArray,List.getElem_cons_zero,List.getElem_cons_succ,Act.put,List.setIfInBounds_toArray,List.set_cons_zero,List.set_cons_succ])
         refine wpAnyU_one (i:=4) rfl (by decide) (by kernel_rfl) (by rfl) (fun K' hK'=>?_)
         have HKP:=hid hK'
         clear hK'
         go_simp
         refine HKP.out _ _ HYa.out.c4 ?_
         clear HKP K'
         (try simp only [List.getElem_toArray,List.getElem_cons_zero,List.getElem_cons_succ,Act.put,List.setIfInBounds_toArray,List.set_cons_zero,List.set_cons_succ])
         refine wpAnyU_one (i:=5) rfl (by decide) (by kernel_rfl) (by rfl) (fun K' hK'=>?_)
         have HKP:=hid hK'
         clear hK'
         refine Lib.wp_append_run _ (.tmp 42) (.tmp 45) 53 53 rfl _ _ rfl rfl _ _ HRUN.out ?_
         refine HKP.out _ _ HY9.out.c4 ?_
         clear HKP K'
         (try simp only [List.getElem_toArray,List.getElem_cons_zero,List.getElem_cons_succ,Act.put,List.setIfInBounds_toArray,List.set_cons_zero,List.set_cons_succ])
         clear hHeld HRUN HYa
         have hHeld:=HY9.out.c4
         apply tkY 6
         refine wpAnyU_at (c:=7) rfl (by kernel_rfl) (by rfl) (fun K hK=>?_)
         have HK:=hid hK
         clear hK
         have k4:=HY9.out.c4
         have l4:=HY9.out.free 4
         go_simp
         refine HK.out _ _ ?_
         clear HK K
         (try simp only [List.getElem_toArray,List.getElem_cons_zero,List.getElem_cons_succ,Act.put,List.setIfInBounds_toArray,List.set_cons_zero,List.set_cons_succ])
         refine wpAny_done (by kernel_rfl) ?_ _
         refine NoPanic.normal ?_
         have hbn : Below y w9 (w9.setCell ⟨y,4,none⟩ (.slice A3 (n1 + 1) c3)):=(Below.refl y w9).setCell (p:=⟨y,4,none⟩) (Nat.le_refl _) _
         have hfn : ∀ g,g ≠ y → (w9.setCell ⟨y,4,none⟩ (.slice A3 (n1 + 1) c3)).heap[g]? = w9.heap[g]?:=fun g hg=>Below.heap_setCell w9 ⟨y,4,none⟩ _ g hg
         have HPn:=hid (HP9.out.below (show p < y by omega) hbn)
         have HYn:=hid (HY9.out.put4 (.slice A3 (n1 + 1) c3))
         have HEn:=hid (HE9.out.far (hfn z (by omega)))
         have HKn:=hid (HK9.out.trans (Kx.of hbn (by omega)))
         have HTLn:=hid (HTL9.out.keep hbn.size fun g hg _=>hfn g (by omega))
         have HLn:=hid (Nat.le_trans (show y + 1 ≤ w9.heap.size by omega) hbn.size)
         clear hbn hfn HP8 HY8 HE8 HK8 HP9 HY9 HE9 HK9 HTL9 hs8 hs9 hHeld hlw
         generalize w9.setCell ⟨y,4,none⟩ (.slice A3 (n1 + 1) c3) = wn at *
         go_wp2_with fail
         have hlt:=suf_lt HR2.out.suf (seen_some hsc)
         refine ⟨⟨l ++ [x2],s2,A3,n1 + 1,c3,Nat.lt_of_le_of_lt (mu_run HR2.out) (Nat.lt_trans (mu_nx (seen_some hsc) (seen_ok hsc)) HMU.out),fun h=>HKK.out (seen_ok hsc),by have:=HBD.out;omega,fun j s3 h=>HC.out _ _ (RunE.argsGo hsc HR2.out h),HTLn.out,HYn.out,HEn.out,HPn.out,HKn.out,HLn.out⟩,?_⟩
         rw [mW_of HPn.out.stm,HMW.out]
         omega
theorem expr_all (p q : Nat) (n : Nat) : ExOK p q 33 .expr n:=by
 induction n using Nat.strongRecOn with
 | ind n ih=>exact expr_ok p q n (term_ok p q n (factor_ok p q n (atom_ok p q n ih) ih))
theorem expr_any (p q b k : Nat) (s : PS) (w : World) (h : Ps w p q s b k) (hk : s.2 = 0 → k ≤ 12) : Calls Tryd.prog 33 #[.pointer (some ⟨p,0,none⟩)] w (ExPost p q b k (.expr s) w):=expr_all p q (mu s) b k s w (Nat.le_refl _) hk h
theorem patom_any (p q b k : Nat) (s : PS) (w : World) (h : Ps w p q s b k) (hk : s.2 = 0 → k ≤ 12) : Calls Tryd.prog 56 #[.pointer (some ⟨p,0,none⟩)] w (ExPost p q b k (.atom s) w):=atom_ok p q (mu s) (fun m _=>expr_all p q m) b k s w (Nat.le_refl _) hk h
end
end Go.Proofs.YtgmjpnnblhkbpaaDoor
