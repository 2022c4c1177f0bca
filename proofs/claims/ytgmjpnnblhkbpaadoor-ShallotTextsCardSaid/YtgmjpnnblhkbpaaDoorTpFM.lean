/-
  The printer's expr at an operation; expr and operand at every expression in form. Conditions: the sizes that strings can have.
-/
import Derived.Test.YtgmjpnnblhkbpaaDoorTpEM
import Derived.Test.YtgmjpnnblhkbpaaDoorSqM
namespace Go.Proofs.YtgmjpnnblhkbpaaDoor
open Go Go.RowKit Go.Sh Tx
open Go.Lib (hid)
theorem TrV.two {X : Nat → Prop} {w : World} {x y : Ex} {ks : List (List Value)} (h : TrV X w [x,y] ks) : ∃ c1 c2,ks = [c1,c2] ∧ TrV X w [x] [c1] ∧ TrV X w [y] [c2]:=by
 cases h with
 | cons h1 h2 h3 h4=>
   cases h4 with
   | cons h5 h6 h7 h8=>
     cases h8
     exact ⟨_,_,rfl,.cons h1 h2 h3 .nil,.cons h5 h6 h7 .nil⟩
theorem sum_ex {X : Nat → Prop} {w : World} {e : Ex} {o t : ByteArray} {m a : Int} {A : Option Addr} {n d : Nat} (h : TrV X w [e] [[.string o,.int .i64 m,.string t,.int .i64 a,.slice A n d]]) (hw : e.wf) (W : World) :
   Calls Tryd.prog 67 #[.agg #[.string o,.int .i64 m,.string t,.int .i64 a,.slice A n d]] W fun en w'=>en = .returned (.bool e.isSum) ∧ Below W.heap.size W w':=by
 obtain ⟨rfl,rfl,rfl,ks,hk,hr,_⟩:=h.inv
 have hn : n = (exKids e).length:=by rw [← hr.1,hk.len]
 refine (sum_any (exOp e) (exNm e) a (sb (exTx e)) A n d W).mono ?_
 rintro en w' ⟨rfl,hb⟩
 refine ⟨?_,hb⟩
 rw [hn]
 cases e with
 | none=>cases hw
 | bin o x y=>simp [exOp,exKids,Ex.isSum]
 | join l=>simp [exOp,Ex.isSum,kJoin,kPlus,kMinus]
 | _=>simp [exOp,exKids,Ex.isSum]
theorem prod_ex {X : Nat → Prop} {w : World} {e : Ex} {o t : ByteArray} {m a : Int} {A : Option Addr} {n d : Nat} (h : TrV X w [e] [[.string o,.int .i64 m,.string t,.int .i64 a,.slice A n d]]) (hw : e.wf) (W : World) :
   Calls Tryd.prog 68 #[.agg #[.string o,.int .i64 m,.string t,.int .i64 a,.slice A n d]] W fun en w'=>en = .returned (.bool e.isProd) ∧ Below W.heap.size W w':=by
 obtain ⟨rfl,rfl,rfl,ks,hk,hr,_⟩:=h.inv
 have hn : n = (exKids e).length:=by rw [← hr.1,hk.len]
 refine (product_any (exOp e) (exNm e) a (sb (exTx e)) A n d W).mono ?_
 rintro en w' ⟨rfl,hb⟩
 refine ⟨?_,hb⟩
 rw [hn]
 cases e with
 | none=>cases hw
 | bin o x y=>simp [exOp,exKids,Ex.isProd]
 | join l=>simp [exOp,Ex.isProd,kJoin,kStar]
 | _=>simp [exOp,exKids,Ex.isProd]
theorem two_alloc (w1 : World) (c1 c2 : Array Value) (t : TypeId) : ((w1.alloc (.cells c1 t)).alloc (.cells c2 t)).drew.heap[w1.heap.size]? = some (.cells c1 t (0,0)) ∧ ((w1.alloc (.cells c1 t)).alloc (.cells c2 t)).drew.heap[w1.heap.size + 1]? = some (.cells c2 t (0,0)) ∧ Below w1.heap.size w1 ((w1.alloc (.cells c1 t)).alloc (.cells c2 t)).drew ∧ w1.heap.size + 2 ≤ ((w1.alloc (.cells c1 t)).alloc (.cells c2 t)).drew.heap.size:=by
 have e1 : (w1.alloc (.cells c1 t)).heap.size = w1.heap.size + 1:=Array.size_push _
 have e2 : ((w1.alloc (.cells c1 t)).alloc (.cells c2 t)).heap.size = (w1.alloc (.cells c1 t)).heap.size + 1:=Array.size_push _
 have b1:=(Below.refl w1.heap.size w1).alloc (Nat.le_refl _) (.cells c1 t)
 have b2:=(Below.refl (w1.alloc (.cells c1 t)).heap.size (w1.alloc (.cells c1 t))).alloc (Nat.le_refl _) (.cells c2 t)
 have h2:=heap_alloc_new (w1.alloc (.cells c1 t)) (.cells c2 t)
 rw [e1] at h2
 exact ⟨(b2.block w1.heap.size (by omega)).trans (heap_alloc_new w1 _),h2,(b1.trans (b2.mono (by omega))).drew,by show _ ≤ ((w1.alloc (.cells c1 t)).alloc (.cells c2 t)).heap.size;omega⟩
section
set_option maxHeartbeats 16000000
set_option maxRecDepth 100000
set_option maxRecDepth 100000 in
theorem px_bin_kPlus {ex ey : Ex} (h1 : PxP ex) (h2 : PxP ey) : PxP (.bin kPlus ex ey):=by
 intro b l w o t m a A n d X h hT ht hX hwf hlen
 have hbl:=h.lt
 obtain ⟨ho,hm,htt,ks,hk,hr,hnd⟩:=ht.inv
 rw [tE_bin] at hlen ⊢
 rw [show (kPlus == kStar) = false by decide,Bool.false_and,Bool.false_and,Bool.or_false] at hlen ⊢
 obtain rfl : o = ⟨#[43]⟩:=ho
 obtain ⟨_,hw1,hw2⟩:=hwf
 obtain ⟨k1,k2,rfl,ht1,ht2⟩:=TrV.two (show TrV X w [ex,ey] ks from hk)
 obtain rfl : 2 = n:=hr.1
 rcases hr.2.2 with hr0 | ⟨ab,rfl,hab,hrg⟩
 · cases hr0
 have hb1:=hrg 0 k1 rfl
 have hb2:=hrg 1 k2 rfl
 obtain ⟨a1,A1,n1,d1,hk1⟩:=ht1.one
 obtain ⟨a2,A2,n2,d2,hk2⟩:=ht2.one
 rw [exc] at hk1 hk2
 subst hk1 hk2
 have HSU1:=hid (fun (W : World)=>sum_ex ht1 hw1 W)
 have HSU2:=hid (fun (W : World)=>sum_ex ht2 hw2 W)
 have HPU2:=hid (fun (W : World)=>prod_ex ht2 hw2 W)
 generalize sb (exOp ex) = o1 at *
 generalize exNm ex = m1 at *
 generalize sb (exTx ex) = t1 at *
 generalize sb (exOp ey) = o2 at *
 generalize exNm ey = m2 at *
 generalize sb (exTx ey) = t2 at *
 have r10 : w.cell? ⟨ab,0,none⟩ = some (.string o1):=hb1 0 _ rfl
 have r11 : w.cell? ⟨ab,1,none⟩ = some (.int .i64 m1):=hb1 1 _ rfl
 have r12 : w.cell? ⟨ab,2,none⟩ = some (.string t1):=hb1 2 _ rfl
 have r13 : w.cell? ⟨ab,3,none⟩ = some (.int .i64 a1):=hb1 3 _ rfl
 have r14 : w.cell? ⟨ab,4,none⟩ = some (.slice A1 n1 d1):=hb1 4 _ rfl
 have r20 : w.cell? ⟨ab,5,none⟩ = some (.string o2):=hb2 0 _ rfl
 have r21 : w.cell? ⟨ab,6,none⟩ = some (.int .i64 m2):=hb2 1 _ rfl
 have r22 : w.cell? ⟨ab,7,none⟩ = some (.string t2):=hb2 2 _ rfl
 have r23 : w.cell? ⟨ab,8,none⟩ = some (.int .i64 a2):=hb2 3 _ rfl
 have r24 : w.cell? ⟨ab,9,none⟩ = some (.slice A2 n2 d2):=hb2 4 _ rfl
 have habb:=hX ab hab
 have HO1:=hid (operand_of h1)
 have HO2:=hid (operand_of h2)
 have HW1:=hid hw1
 have HW2:=hid hw2
 have HX:=hid hX
 have HN:=hid hlen
 have hba : Below w.heap.size w (w.alloc (.cells #[.string ⟨#[43]⟩,.int .i64 m,.string t,.int .i64 a,.slice (some ⟨ab,0,none⟩) 2 d] 55)):=(Below.refl _ w).alloc (Nat.le_refl _) _
 have HP1:=hid (h.later hba)
 have HF1:=hid (show Fb b w _ from Fb.of hba)
 have HE1:=hid (show EB (w.alloc (.cells #[.string ⟨#[43]⟩,.int .i64 m,.string t,.int .i64 a,.slice (some ⟨ab,0,none⟩) 2 d] 55)) w.heap.size (.string ⟨#[43]⟩) (.int .i64 m) (.string t) (.int .i64 a) (.slice (some ⟨ab,0,none⟩) 2 d) from heap_alloc_new w _)
 have hs1 : b < (w.alloc (.cells #[.string ⟨#[43]⟩,.int .i64 m,.string t,.int .i64 a,.slice (some ⟨ab,0,none⟩) 2 d] 55)).heap.size:=Nat.lt_of_lt_of_le hbl hba.size
 have HTB1:=hid (hT.on hba (Nat.le_of_lt hbl))
 have HTx1:=hid (ht1.keep fun g hg=>hba.block g (Nat.lt_trans (hX g hg) hbl))
 have s10:=(hba.cell (p:=⟨ab,0,none⟩) (Nat.lt_trans habb hbl)).trans r10
 have s11:=(hba.cell (p:=⟨ab,1,none⟩) (Nat.lt_trans habb hbl)).trans r11
 have s12:=(hba.cell (p:=⟨ab,2,none⟩) (Nat.lt_trans habb hbl)).trans r12
 have s13:=(hba.cell (p:=⟨ab,3,none⟩) (Nat.lt_trans habb hbl)).trans r13
 have s14:=(hba.cell (p:=⟨ab,4,none⟩) (Nat.lt_trans habb hbl)).trans r14
 have HTy1:=hid (ht2.keep fun g hg=>hba.block g (Nat.lt_trans (hX g hg) hbl))
 have s20:=(hba.cell (p:=⟨ab,5,none⟩) (Nat.lt_trans habb hbl)).trans r20
 have s21:=(hba.cell (p:=⟨ab,6,none⟩) (Nat.lt_trans habb hbl)).trans r21
 have s22:=(hba.cell (p:=⟨ab,7,none⟩) (Nat.lt_trans habb hbl)).trans r22
 have s23:=(hba.cell (p:=⟨ab,8,none⟩) (Nat.lt_trans habb hbl)).trans r23
 have s24:=(hba.cell (p:=⟨ab,9,none⟩) (Nat.lt_trans habb hbl)).trans r24
 clear h hT ht hX hlen hk hr hm htt hnd hrg hb1 hb2 ht1 ht2 hw1 hw2 h1 h2 r10 r11 r12 r13 r14 r20 r21 r22 r23 r24
 (try clear ho)
 go_enter Tryd.func49,Tryd.ntmps49
 go_upto_region 1 with fail
 obtain ⟨z,hz⟩ : ∃ z,w.heap.size = z:=⟨_,rfl⟩
 have hzb : b < z:=by rw [← hz];exact hbl
 have hz1 : z + 1 ≤ (w.alloc (.cells #[.string ⟨#[43]⟩,.int .i64 m,.string t,.int .i64 a,.slice (some ⟨ab,0,none⟩) 2 d] 55)).heap.size:=by rw [← hz];exact Nat.le_of_eq (Array.size_push _).symm
 rw [hz] at HE1 ⊢
 generalize (w.alloc (.cells #[.string ⟨#[43]⟩,.int .i64 m,.string t,.int .i64 a,.slice (some ⟨ab,0,none⟩) 2 d] 55)) = w1 at *
 clear hz hba
 have y0:=HE1.out.c0
 have y1:=HE1.out.c1
 have y2:=HE1.out.c2
 have y3:=HE1.out.c3
 have y4:=HE1.out.c4
 have hzl : z < w1.heap.size:=hz1
 have hal : ab < w1.heap.size:=by omega
 have hzn : z ≠ w1.heap.size:=by omega
 have han : ab ≠ w1.heap.size:=by omega
 have hzn2 : z ≠ w1.heap.size + 1:=by omega
 have han2 : ab ≠ w1.heap.size + 1:=by omega
 go_upto_region 24 with fail
 have HTA12:=hid (two_alloc w1 #[.string o1,.int .i64 m1,.string t1,.int .i64 a1,.slice A1 n1 d1] #[.string o2,.int .i64 m2,.string t2,.int .i64 a2,.slice A2 n2 d2] 55)
 have HTA21:=hid (two_alloc w1 #[.string o2,.int .i64 m2,.string t2,.int .i64 a2,.slice A2 n2 d2] #[.string o1,.int .i64 m1,.string t1,.int .i64 a1,.slice A1 n1 d1] 55)
 go_cut [6,7] (fun v6 v7 wx=>∃ x y : Nat,v6 = .pointer (some ⟨x,0,none⟩) ∧ v7 = .pointer (some ⟨y,0,none⟩) ∧ b < x ∧ b < y ∧ EB wx x (.string o1) (.int .i64 m1) (.string t1) (.int .i64 a1) (.slice A1 n1 d1) ∧ EB wx y (.string o2) (.int .i64 m2) (.string t2) (.int .i64 a2) (.slice A2 n2 d2) ∧ Below w1.heap.size w1 wx)
 case first=>
   go_region
   all_goals
     go_wp2_with fail
     go_meet
     first
       | exact ⟨_,_,rfl,rfl,by omega,by omega,HTA12.out.1,HTA12.out.2.1,HTA12.out.2.2.1⟩
       | exact ⟨_,_,rfl,rfl,by omega,by omega,HTA21.out.2.1,HTA21.out.1,HTA21.out.2.2.1⟩
 obtain ⟨u1,u2,rfl,rfl,hb1,hb2,q1,q2,q3⟩:=hcut
 obtain ⟨wq,hwq⟩ : ∃ wq,wq = wc:=⟨_,rfl⟩
 rw [← hwq] at q1 q2 q3 ⊢
 clear hwq HTA12 HTA21
 have HPq:=hid (HP1.out.later q3)
 have HFq:=hid (HF1.out.trans (Fb.of q3))
 have HTBq:=hid (HTB1.out.on q3 (Nat.le_of_lt hs1))
 have HZq:=hid (HE1.out.far (q3.block z hzl))
 have HTxq:=hid (HTx1.out.keep fun g hg=>q3.block g (Nat.lt_trans (HX.out g hg) hs1))
 have HTyq:=hid (HTy1.out.keep fun g hg=>q3.block g (Nat.lt_trans (HX.out g hg) hs1))
 have hsq : b < wq.heap.size:=Nat.lt_of_lt_of_le hs1 q3.size
 have HU1q:=hid (show EB wq u1 (.string o1) (.int .i64 m1) (.string t1) (.int .i64 a1) (.slice A1 n1 d1) from q1)
 have HU2q:=hid (show EB wq u2 (.string o2) (.int .i64 m2) (.string t2) (.int .i64 a2) (.slice A2 n2 d2) from q2)
 clear q1 q2 q3 hzl hal hzn han hzn2 han2 hz1 hs1 HP1 HF1 HTB1 HE1 HTx1 HTy1 y0 y1 y2 y3 y4 s10 s11 s12 s13 s14 s20 s21 s22 s23 s24
 go_upto_region 25 with fail
 have HPd:=hid (HPq.out.drew)
 have HFd:=hid HFq.out.drew
 have HTBd:=hid (HTBq.out.on ((Below.refl b wq).drew) (Nat.le_refl _))
 have HTxd:=hid (show TrV X wq.drew [ex] [_] from HTxq.out.keep fun _ _=>rfl)
 have HTyd:=hid (show TrV X wq.drew [ey] [_] from HTyq.out.keep fun _ _=>rfl)
 have HZd:=hid (show EB wq.drew z (.string ⟨#[43]⟩) (.int .i64 m) (.string t) (.int .i64 a) (.slice (some ⟨ab,0,none⟩) 2 d) from HZq.out)
 have HU1d:=hid (show EB wq.drew u1 (.string o1) (.int .i64 m1) (.string t1) (.int .i64 a1) (.slice A1 n1 d1) from HU1q.out)
 have HU2d:=hid (show EB wq.drew u2 (.string o2) (.int .i64 m2) (.string t2) (.int .i64 a2) (.slice A2 n2 d2) from HU2q.out)
 have hsd : b < wq.drew.heap.size:=hsq
 clear hsq HPq HFq HTBq HZq HTxq HTyq HU1q HU2q
 refine wp_region_noPanic ?_
 refine wp_region_held_drew (S:=fun W=>(W.cell? ⟨u1,0,none⟩ = some (.string o1) ∧ W.cell? ⟨u1,1,none⟩ = some (.int .i64 m1) ∧ W.cell? ⟨u1,2,none⟩ = some (.string t1) ∧ W.cell? ⟨u1,3,none⟩ = some (.int .i64 a1) ∧ W.cell? ⟨u1,4,none⟩ = some (.slice A1 n1 d1) ∧ W.cell? ⟨z,0,none⟩ = some (.string ⟨#[43]⟩))) (by kernel_rfl) ?_ (fun hHeld=>?_)
 · (try dsimp only)
   exact ⟨HU1d.out.c0,HU1d.out.c1,HU1d.out.c2,HU1d.out.c3,HU1d.out.c4,HZd.out.c0⟩
 generalize wq.drew = wd at *
 apply tkH 0
 apply tkH 1
 apply tkH 2
 apply tkH 3
 apply tkH 4
 apply tkH 5
 apply tkN 6
 apply tkN 7
 apply tkH 8
 refine wpAnyH_ready (rs:=[9]) (by kernel_rfl) (by simp) ?_
 refine AllReadyH.cons rfl (fun K hK=>?_) AllReadyH.nil
 go_simp
 refine (HO1.out false b l wd o1 t1 m1 a1 A1 n1 d1 X HPd.out HTBd.out HTxd.out HX.out HW1.out (by have h:=HN.out;first | (simp at h ⊢;omega) | omega | (simp at h;omega))).mono ?_
 rintro e wf ⟨rfl,hp,hf⟩
 have HPf:=hid hp
 have HFf:=hid (HFd.out.trans hf)
 have HTBf:=hid (HTBd.out.fb hf (Nat.le_of_lt hsd))
 have HTxf:=hid (HTxd.out.keep fun g hg=>(hf.low (Nat.le_of_lt hsd)).block g (HX.out g hg))
 have HTyf:=hid (HTyd.out.keep fun g hg=>(hf.low (Nat.le_of_lt hsd)).block g (HX.out g hg))
 have HZf:=hid (show EB wf z (.string ⟨#[43]⟩) (.int .i64 m) (.string t) (.int .i64 a) (.slice (some ⟨ab,0,none⟩) 2 d) from hf.keep HZd.out (by decide) (by omega))
 have HU1f:=hid (show EB wf u1 (.string o1) (.int .i64 m1) (.string t1) (.int .i64 a1) (.slice A1 n1 d1) from hf.keep HU1d.out (by decide) (by omega))
 have HU2f:=hid (show EB wf u2 (.string o2) (.int .i64 m2) (.string t2) (.int .i64 a2) (.slice A2 n2 d2) from hf.keep HU2d.out (by decide) (by omega))
 have hsf : b < wf.heap.size:=Nat.lt_of_lt_of_le hsd hf.size
 clear hp hf hsd HPd HFd HTBd HZd HTxd HTyd HU1d HU2d
 (try dsimp only)
 first | (refine hK.out _ _ ?_ (fun hHeld=>?_)) | (go_wp2_with fail;refine hK.out _ _ ?_ (fun hHeld=>?_))
 · (try dsimp only)
   exact ⟨HU1f.out.c0,HU1f.out.c1,HU1f.out.c2,HU1f.out.c3,HU1f.out.c4,HZf.out.c0⟩
 clear hK K
 (try simp only [List.getElem_toArray,List.getElem_cons_zero,List.getElem_cons_succ,Act.put,List.setIfInBounds_toArray,List.set_cons_zero,List.set_cons_succ])
 refine wpAnyH_done (by kernel_rfl) ?_ _
 refine NoPanic.normal ?_
 (try clear hHeld)
 have k0:=HZf.out.c0
 go_wp2_with fail
 refine (write3 b (l ++ rend (parP false (pcE ex))) [32] kPlus [32] ⟨#[32]⟩ ⟨#[43]⟩ ⟨#[32]⟩ wf rfl rfl rfl HPf.out (by have h:=HN.out;first | (simp at h ⊢;omega) | omega | (simp at h;omega))).mono ?_
 rintro e wg ⟨rfl,hp,hf⟩
 have HPg:=hid hp
 have HFg:=hid (HFf.out.trans hf)
 have HTBg:=hid (HTBf.out.fb hf (Nat.le_of_lt hsf))
 have HTxg:=hid (HTxf.out.keep fun g hg=>(hf.low (Nat.le_of_lt hsf)).block g (HX.out g hg))
 have HTyg:=hid (HTyf.out.keep fun g hg=>(hf.low (Nat.le_of_lt hsf)).block g (HX.out g hg))
 have HZg:=hid (show EB wg z (.string ⟨#[43]⟩) (.int .i64 m) (.string t) (.int .i64 a) (.slice (some ⟨ab,0,none⟩) 2 d) from hf.keep HZf.out (by decide) (by omega))
 have HU1g:=hid (show EB wg u1 (.string o1) (.int .i64 m1) (.string t1) (.int .i64 a1) (.slice A1 n1 d1) from hf.keep HU1f.out (by decide) (by omega))
 have HU2g:=hid (show EB wg u2 (.string o2) (.int .i64 m2) (.string t2) (.int .i64 a2) (.slice A2 n2 d2) from hf.keep HU2f.out (by decide) (by omega))
 have hsg : b < wg.heap.size:=Nat.lt_of_lt_of_le hsf hf.size
 clear hp hf hsf HPf HFf HTBf HZf HTxf HTyf HU1f HU2f
 clear k0
 go_upto_region 27 with fail
 have HPh:=hid (HPg.out.drew)
 have HFh:=hid HFg.out.drew
 have HTBh:=hid (HTBg.out.on ((Below.refl b wg).drew) (Nat.le_refl _))
 have HTxh:=hid (show TrV X wg.drew [ex] [_] from HTxg.out.keep fun _ _=>rfl)
 have HTyh:=hid (show TrV X wg.drew [ey] [_] from HTyg.out.keep fun _ _=>rfl)
 have HZh:=hid (show EB wg.drew z (.string ⟨#[43]⟩) (.int .i64 m) (.string t) (.int .i64 a) (.slice (some ⟨ab,0,none⟩) 2 d) from HZg.out)
 have HU1h:=hid (show EB wg.drew u1 (.string o1) (.int .i64 m1) (.string t1) (.int .i64 a1) (.slice A1 n1 d1) from HU1g.out)
 have HU2h:=hid (show EB wg.drew u2 (.string o2) (.int .i64 m2) (.string t2) (.int .i64 a2) (.slice A2 n2 d2) from HU2g.out)
 have hsh : b < wg.drew.heap.size:=hsg
 clear hsg HPg HFg HTBg HZg HTxg HTyg HU1g HU2g
 cases hsy : ey.isSum with
 | false=>
   have HSV:=hid (fun W=>HSU2.out W)
   rw [hsy] at HSV
   rw [hsy] at HN
   have HSY:=hid hsy
   clear hsy
   have HN2:=hid (show ((l ++ rend (parP false (pcE ex)) ++ ([32] ++ kPlus ++ [32])) ++ rend (parP false (pcE ey))).length ≤ 10000000000000 by have h:=HN.out;first | (simpa [Bool.true_or,Bool.false_or] using h))
   refine wp_region_noPanic ?_
   refine wp_region_held_drew (S:=fun W=>(W.cell? ⟨u2,0,none⟩ = some (.string o2) ∧ W.cell? ⟨u2,1,none⟩ = some (.int .i64 m2) ∧ W.cell? ⟨u2,2,none⟩ = some (.string t2) ∧ W.cell? ⟨u2,3,none⟩ = some (.int .i64 a2) ∧ W.cell? ⟨u2,4,none⟩ = some (.slice A2 n2 d2) ∧ W.cell? ⟨z,0,none⟩ = some (.string ⟨#[43]⟩))) (by kernel_rfl) ?_ (fun hHeld=>?_)
   · (try dsimp only)
     exact ⟨HU2h.out.c0,HU2h.out.c1,HU2h.out.c2,HU2h.out.c3,HU2h.out.c4,HZh.out.c0⟩
   generalize wg.drew = wh at *
   apply tkH 0
   apply tkH 1
   apply tkH 2
   refine wpAnyH_ready (rs:=[3]) (by kernel_rfl) (by simp) ?_
   refine AllReadyH.cons rfl (fun K hK=>?_) AllReadyH.nil
   go_simp
   refine (HSV.out wh).mono ?_
   rintro e wi ⟨rfl,hbg⟩
   have HPi:=hid (HPh.out.later hbg)
   have HFi:=hid (HFh.out.trans (Fb.of hbg))
   have HTBi:=hid (HTBh.out.on hbg (Nat.le_of_lt hsh))
   have HTxi:=hid (HTxh.out.keep fun g hg=>hbg.block g (Nat.lt_trans (HX.out g hg) hsh))
   have HTyi:=hid (HTyh.out.keep fun g hg=>hbg.block g (Nat.lt_trans (HX.out g hg) hsh))
   have HZi:=hid (HZh.out.far (hbg.block z (Array.getElem?_eq_some_iff.1 HZh.out).1))
   have HU1i:=hid (HU1h.out.far (hbg.block u1 (Array.getElem?_eq_some_iff.1 HU1h.out).1))
   have HU2i:=hid (HU2h.out.far (hbg.block u2 (Array.getElem?_eq_some_iff.1 HU2h.out).1))
   have hsi:=Nat.lt_of_lt_of_le hsh hbg.size
   clear hbg hsh HPh HFh HTBh HZh HTxh HTyh HU1h HU2h
   (try dsimp only)
   first | (refine hK.out _ _ ?_ (fun hHeld=>?_)) | (go_wp2_with fail;refine hK.out _ _ ?_ (fun hHeld=>?_))
   · (try dsimp only)
     exact ⟨HU2i.out.c0,HU2i.out.c1,HU2i.out.c2,HU2i.out.c3,HU2i.out.c4,HZi.out.c0⟩
   clear hK K
   (try simp only [List.getElem_toArray,List.getElem_cons_zero,List.getElem_cons_succ,Act.put,List.setIfInBounds_toArray,List.set_cons_zero,List.set_cons_succ])
   apply tkH 4
   apply tkH 5
   apply tkH 6
   apply tkH 7
   apply tkH 8
   apply tkN 9
   apply tkN 10
   apply tkH 11
   apply tkH 12
   refine wpAnyH_ready (rs:=[13]) (by kernel_rfl) (by simp) ?_
   refine AllReadyH.cons rfl (fun K hK=>?_) AllReadyH.nil
   go_simp
   refine (HO2.out false b (l ++ rend (parP false (pcE ex)) ++ ([32] ++ kPlus ++ [32])) wi o2 t2 m2 a2 A2 n2 d2 X HPi.out HTBi.out HTyi.out HX.out HW2.out HN2.out).mono ?_
   rintro e wk ⟨rfl,hp,hf⟩
   have HPk:=hid hp
   have HFk:=hid (HFi.out.trans hf)
   have HTBk:=hid (HTBi.out.fb hf (Nat.le_of_lt hsi))
   have HTxk:=hid (HTxi.out.keep fun g hg=>(hf.low (Nat.le_of_lt hsi)).block g (HX.out g hg))
   have HTyk:=hid (HTyi.out.keep fun g hg=>(hf.low (Nat.le_of_lt hsi)).block g (HX.out g hg))
   have HZk:=hid (show EB wk z (.string ⟨#[43]⟩) (.int .i64 m) (.string t) (.int .i64 a) (.slice (some ⟨ab,0,none⟩) 2 d) from hf.keep HZi.out (by decide) (by omega))
   have HU1k:=hid (show EB wk u1 (.string o1) (.int .i64 m1) (.string t1) (.int .i64 a1) (.slice A1 n1 d1) from hf.keep HU1i.out (by decide) (by omega))
   have HU2k:=hid (show EB wk u2 (.string o2) (.int .i64 m2) (.string t2) (.int .i64 a2) (.slice A2 n2 d2) from hf.keep HU2i.out (by decide) (by omega))
   have hsk : b < wk.heap.size:=Nat.lt_of_lt_of_le hsi hf.size
   clear hp hf hsi HPi HFi HTBi HZi HTxi HTyi HU1i HU2i
   (try dsimp only)
   first | (refine hK.out _ _ ?_ (fun hHeld=>?_)) | (go_wp2_with fail;refine hK.out _ _ ?_ (fun hHeld=>?_))
   · (try dsimp only)
     exact ⟨HU2k.out.c0,HU2k.out.c1,HU2k.out.c2,HU2k.out.c3,HU2k.out.c4,HZk.out.c0⟩
   clear hK K
   (try simp only [List.getElem_toArray,List.getElem_cons_zero,List.getElem_cons_succ,Act.put,List.setIfInBounds_toArray,List.set_cons_zero,List.set_cons_succ])
   refine wpAnyH_done (by kernel_rfl) ?_ _
   refine NoPanic.normal ?_
   go_wp2_with fail
   go_end0
   exact ⟨rfl,cast (congrArg (Pr wk b) (by simp only [List.append_assoc,List.cons_append,List.nil_append])) HPk.out,HFk.out⟩
 | true=>
   have HSV:=hid (fun W=>HSU2.out W)
   rw [hsy] at HSV
   rw [hsy] at HN
   have HSY:=hid hsy
   clear hsy
   have HN2:=hid (show ((l ++ rend (parP false (pcE ex)) ++ ([32] ++ kPlus ++ [32])) ++ rend (parP true (pcE ey))).length ≤ 10000000000000 by have h:=HN.out;first | (simpa [Bool.true_or,Bool.false_or] using h))
   refine wp_region_noPanic ?_
   refine wp_region_held_drew (S:=fun W=>(W.cell? ⟨u2,0,none⟩ = some (.string o2) ∧ W.cell? ⟨u2,1,none⟩ = some (.int .i64 m2) ∧ W.cell? ⟨u2,2,none⟩ = some (.string t2) ∧ W.cell? ⟨u2,3,none⟩ = some (.int .i64 a2) ∧ W.cell? ⟨u2,4,none⟩ = some (.slice A2 n2 d2) ∧ W.cell? ⟨z,0,none⟩ = some (.string ⟨#[43]⟩))) (by kernel_rfl) ?_ (fun hHeld=>?_)
   · (try dsimp only)
     exact ⟨HU2h.out.c0,HU2h.out.c1,HU2h.out.c2,HU2h.out.c3,HU2h.out.c4,HZh.out.c0⟩
   generalize wg.drew = wh at *
   apply tkH 0
   apply tkH 1
   apply tkH 2
   refine wpAnyH_ready (rs:=[3]) (by kernel_rfl) (by simp) ?_
   refine AllReadyH.cons rfl (fun K hK=>?_) AllReadyH.nil
   go_simp
   refine (HSV.out wh).mono ?_
   rintro e wi ⟨rfl,hbg⟩
   have HPi:=hid (HPh.out.later hbg)
   have HFi:=hid (HFh.out.trans (Fb.of hbg))
   have HTBi:=hid (HTBh.out.on hbg (Nat.le_of_lt hsh))
   have HTxi:=hid (HTxh.out.keep fun g hg=>hbg.block g (Nat.lt_trans (HX.out g hg) hsh))
   have HTyi:=hid (HTyh.out.keep fun g hg=>hbg.block g (Nat.lt_trans (HX.out g hg) hsh))
   have HZi:=hid (HZh.out.far (hbg.block z (Array.getElem?_eq_some_iff.1 HZh.out).1))
   have HU1i:=hid (HU1h.out.far (hbg.block u1 (Array.getElem?_eq_some_iff.1 HU1h.out).1))
   have HU2i:=hid (HU2h.out.far (hbg.block u2 (Array.getElem?_eq_some_iff.1 HU2h.out).1))
   have hsi:=Nat.lt_of_lt_of_le hsh hbg.size
   clear hbg hsh HPh HFh HTBh HZh HTxh HTyh HU1h HU2h
   (try dsimp only)
   first | (refine hK.out _ _ ?_ (fun hHeld=>?_)) | (go_wp2_with fail;refine hK.out _ _ ?_ (fun hHeld=>?_))
   · (try dsimp only)
     exact ⟨HU2i.out.c0,HU2i.out.c1,HU2i.out.c2,HU2i.out.c3,HU2i.out.c4,HZi.out.c0⟩
   clear hK K
   (try simp only [List.getElem_toArray,List.getElem_cons_zero,List.getElem_cons_succ,Act.put,List.setIfInBounds_toArray,List.set_cons_zero,List.set_cons_succ])
   apply tkH 4
   apply tkN 5
   apply tkN 6
   apply tkN 7
   apply tkN 8
   apply tkN 9
   apply tkN 10
   apply tkN 11
   apply tkH 12
   refine wpAnyH_ready (rs:=[13]) (by kernel_rfl) (by simp) ?_
   refine AllReadyH.cons rfl (fun K hK=>?_) AllReadyH.nil
   go_simp
   refine (HO2.out true b (l ++ rend (parP false (pcE ex)) ++ ([32] ++ kPlus ++ [32])) wi o2 t2 m2 a2 A2 n2 d2 X HPi.out HTBi.out HTyi.out HX.out HW2.out HN2.out).mono ?_
   rintro e wk ⟨rfl,hp,hf⟩
   have HPk:=hid hp
   have HFk:=hid (HFi.out.trans hf)
   have HTBk:=hid (HTBi.out.fb hf (Nat.le_of_lt hsi))
   have HTxk:=hid (HTxi.out.keep fun g hg=>(hf.low (Nat.le_of_lt hsi)).block g (HX.out g hg))
   have HTyk:=hid (HTyi.out.keep fun g hg=>(hf.low (Nat.le_of_lt hsi)).block g (HX.out g hg))
   have HZk:=hid (show EB wk z (.string ⟨#[43]⟩) (.int .i64 m) (.string t) (.int .i64 a) (.slice (some ⟨ab,0,none⟩) 2 d) from hf.keep HZi.out (by decide) (by omega))
   have HU1k:=hid (show EB wk u1 (.string o1) (.int .i64 m1) (.string t1) (.int .i64 a1) (.slice A1 n1 d1) from hf.keep HU1i.out (by decide) (by omega))
   have HU2k:=hid (show EB wk u2 (.string o2) (.int .i64 m2) (.string t2) (.int .i64 a2) (.slice A2 n2 d2) from hf.keep HU2i.out (by decide) (by omega))
   have hsk : b < wk.heap.size:=Nat.lt_of_lt_of_le hsi hf.size
   clear hp hf hsi HPi HFi HTBi HZi HTxi HTyi HU1i HU2i
   (try dsimp only)
   first | (refine hK.out _ _ ?_ (fun hHeld=>?_)) | (go_wp2_with fail;refine hK.out _ _ ?_ (fun hHeld=>?_))
   · (try dsimp only)
     exact ⟨HU2k.out.c0,HU2k.out.c1,HU2k.out.c2,HU2k.out.c3,HU2k.out.c4,HZk.out.c0⟩
   clear hK K
   (try simp only [List.getElem_toArray,List.getElem_cons_zero,List.getElem_cons_succ,Act.put,List.setIfInBounds_toArray,List.set_cons_zero,List.set_cons_succ])
   refine wpAnyH_done (by kernel_rfl) ?_ _
   refine NoPanic.normal ?_
   go_wp2_with fail
   go_end0
   exact ⟨rfl,cast (congrArg (Pr wk b) (by simp only [List.append_assoc,List.cons_append,List.nil_append])) HPk.out,HFk.out⟩
set_option maxRecDepth 100000 in
theorem px_bin_kMinus {ex ey : Ex} (h1 : PxP ex) (h2 : PxP ey) : PxP (.bin kMinus ex ey):=by
 intro b l w o t m a A n d X h hT ht hX hwf hlen
 have hbl:=h.lt
 obtain ⟨ho,hm,htt,ks,hk,hr,hnd⟩:=ht.inv
 rw [tE_bin] at hlen ⊢
 rw [show (kMinus == kStar) = false by decide,Bool.false_and,Bool.false_and,Bool.or_false] at hlen ⊢
 obtain rfl : o = ⟨#[45]⟩:=ho
 obtain ⟨_,hw1,hw2⟩:=hwf
 obtain ⟨k1,k2,rfl,ht1,ht2⟩:=TrV.two (show TrV X w [ex,ey] ks from hk)
 obtain rfl : 2 = n:=hr.1
 rcases hr.2.2 with hr0 | ⟨ab,rfl,hab,hrg⟩
 · cases hr0
 have hb1:=hrg 0 k1 rfl
 have hb2:=hrg 1 k2 rfl
 obtain ⟨a1,A1,n1,d1,hk1⟩:=ht1.one
 obtain ⟨a2,A2,n2,d2,hk2⟩:=ht2.one
 rw [exc] at hk1 hk2
 subst hk1 hk2
 have HSU1:=hid (fun (W : World)=>sum_ex ht1 hw1 W)
 have HSU2:=hid (fun (W : World)=>sum_ex ht2 hw2 W)
 have HPU2:=hid (fun (W : World)=>prod_ex ht2 hw2 W)
 generalize sb (exOp ex) = o1 at *
 generalize exNm ex = m1 at *
 generalize sb (exTx ex) = t1 at *
 generalize sb (exOp ey) = o2 at *
 generalize exNm ey = m2 at *
 generalize sb (exTx ey) = t2 at *
 have r10 : w.cell? ⟨ab,0,none⟩ = some (.string o1):=hb1 0 _ rfl
 have r11 : w.cell? ⟨ab,1,none⟩ = some (.int .i64 m1):=hb1 1 _ rfl
 have r12 : w.cell? ⟨ab,2,none⟩ = some (.string t1):=hb1 2 _ rfl
 have r13 : w.cell? ⟨ab,3,none⟩ = some (.int .i64 a1):=hb1 3 _ rfl
 have r14 : w.cell? ⟨ab,4,none⟩ = some (.slice A1 n1 d1):=hb1 4 _ rfl
 have r20 : w.cell? ⟨ab,5,none⟩ = some (.string o2):=hb2 0 _ rfl
 have r21 : w.cell? ⟨ab,6,none⟩ = some (.int .i64 m2):=hb2 1 _ rfl
 have r22 : w.cell? ⟨ab,7,none⟩ = some (.string t2):=hb2 2 _ rfl
 have r23 : w.cell? ⟨ab,8,none⟩ = some (.int .i64 a2):=hb2 3 _ rfl
 have r24 : w.cell? ⟨ab,9,none⟩ = some (.slice A2 n2 d2):=hb2 4 _ rfl
 have habb:=hX ab hab
 have HO1:=hid (operand_of h1)
 have HO2:=hid (operand_of h2)
 have HW1:=hid hw1
 have HW2:=hid hw2
 have HX:=hid hX
 have HN:=hid hlen
 have hba : Below w.heap.size w (w.alloc (.cells #[.string ⟨#[45]⟩,.int .i64 m,.string t,.int .i64 a,.slice (some ⟨ab,0,none⟩) 2 d] 55)):=(Below.refl _ w).alloc (Nat.le_refl _) _
 have HP1:=hid (h.later hba)
 have HF1:=hid (show Fb b w _ from Fb.of hba)
 have HE1:=hid (show EB (w.alloc (.cells #[.string ⟨#[45]⟩,.int .i64 m,.string t,.int .i64 a,.slice (some ⟨ab,0,none⟩) 2 d] 55)) w.heap.size (.string ⟨#[45]⟩) (.int .i64 m) (.string t) (.int .i64 a) (.slice (some ⟨ab,0,none⟩) 2 d) from heap_alloc_new w _)
 have hs1 : b < (w.alloc (.cells #[.string ⟨#[45]⟩,.int .i64 m,.string t,.int .i64 a,.slice (some ⟨ab,0,none⟩) 2 d] 55)).heap.size:=Nat.lt_of_lt_of_le hbl hba.size
 have HTB1:=hid (hT.on hba (Nat.le_of_lt hbl))
 have HTx1:=hid (ht1.keep fun g hg=>hba.block g (Nat.lt_trans (hX g hg) hbl))
 have s10:=(hba.cell (p:=⟨ab,0,none⟩) (Nat.lt_trans habb hbl)).trans r10
 have s11:=(hba.cell (p:=⟨ab,1,none⟩) (Nat.lt_trans habb hbl)).trans r11
 have s12:=(hba.cell (p:=⟨ab,2,none⟩) (Nat.lt_trans habb hbl)).trans r12
 have s13:=(hba.cell (p:=⟨ab,3,none⟩) (Nat.lt_trans habb hbl)).trans r13
 have s14:=(hba.cell (p:=⟨ab,4,none⟩) (Nat.lt_trans habb hbl)).trans r14
 have HTy1:=hid (ht2.keep fun g hg=>hba.block g (Nat.lt_trans (hX g hg) hbl))
 have s20:=(hba.cell (p:=⟨ab,5,none⟩) (Nat.lt_trans habb hbl)).trans r20
 have s21:=(hba.cell (p:=⟨ab,6,none⟩) (Nat.lt_trans habb hbl)).trans r21
 have s22:=(hba.cell (p:=⟨ab,7,none⟩) (Nat.lt_trans habb hbl)).trans r22
 have s23:=(hba.cell (p:=⟨ab,8,none⟩) (Nat.lt_trans habb hbl)).trans r23
 have s24:=(hba.cell (p:=⟨ab,9,none⟩) (Nat.lt_trans habb hbl)).trans r24
 clear h hT ht hX hlen hk hr hm htt hnd hrg hb1 hb2 ht1 ht2 hw1 hw2 h1 h2 r10 r11 r12 r13 r14 r20 r21 r22 r23 r24
 (try clear ho)
 go_enter Tryd.func49,Tryd.ntmps49
 go_upto_region 1 with fail
 obtain ⟨z,hz⟩ : ∃ z,w.heap.size = z:=⟨_,rfl⟩
 have hzb : b < z:=by rw [← hz];exact hbl
 have hz1 : z + 1 ≤ (w.alloc (.cells #[.string ⟨#[45]⟩,.int .i64 m,.string t,.int .i64 a,.slice (some ⟨ab,0,none⟩) 2 d] 55)).heap.size:=by rw [← hz];exact Nat.le_of_eq (Array.size_push _).symm
 rw [hz] at HE1 ⊢
 generalize (w.alloc (.cells #[.string ⟨#[45]⟩,.int .i64 m,.string t,.int .i64 a,.slice (some ⟨ab,0,none⟩) 2 d] 55)) = w1 at *
 clear hz hba
 have y0:=HE1.out.c0
 have y1:=HE1.out.c1
 have y2:=HE1.out.c2
 have y3:=HE1.out.c3
 have y4:=HE1.out.c4
 have hzl : z < w1.heap.size:=hz1
 have hal : ab < w1.heap.size:=by omega
 have hzn : z ≠ w1.heap.size:=by omega
 have han : ab ≠ w1.heap.size:=by omega
 have hzn2 : z ≠ w1.heap.size + 1:=by omega
 have han2 : ab ≠ w1.heap.size + 1:=by omega
 go_upto_region 24 with fail
 have HTA12:=hid (two_alloc w1 #[.string o1,.int .i64 m1,.string t1,.int .i64 a1,.slice A1 n1 d1] #[.string o2,.int .i64 m2,.string t2,.int .i64 a2,.slice A2 n2 d2] 55)
 have HTA21:=hid (two_alloc w1 #[.string o2,.int .i64 m2,.string t2,.int .i64 a2,.slice A2 n2 d2] #[.string o1,.int .i64 m1,.string t1,.int .i64 a1,.slice A1 n1 d1] 55)
 go_cut [6,7] (fun v6 v7 wx=>∃ x y : Nat,v6 = .pointer (some ⟨x,0,none⟩) ∧ v7 = .pointer (some ⟨y,0,none⟩) ∧ b < x ∧ b < y ∧ EB wx x (.string o1) (.int .i64 m1) (.string t1) (.int .i64 a1) (.slice A1 n1 d1) ∧ EB wx y (.string o2) (.int .i64 m2) (.string t2) (.int .i64 a2) (.slice A2 n2 d2) ∧ Below w1.heap.size w1 wx)
 case first=>
   go_region
   all_goals
     go_wp2_with fail
     go_meet
     first
       | exact ⟨_,_,rfl,rfl,by omega,by omega,HTA12.out.1,HTA12.out.2.1,HTA12.out.2.2.1⟩
       | exact ⟨_,_,rfl,rfl,by omega,by omega,HTA21.out.2.1,HTA21.out.1,HTA21.out.2.2.1⟩
 obtain ⟨u1,u2,rfl,rfl,hb1,hb2,q1,q2,q3⟩:=hcut
 obtain ⟨wq,hwq⟩ : ∃ wq,wq = wc:=⟨_,rfl⟩
 rw [← hwq] at q1 q2 q3 ⊢
 clear hwq HTA12 HTA21
 have HPq:=hid (HP1.out.later q3)
 have HFq:=hid (HF1.out.trans (Fb.of q3))
 have HTBq:=hid (HTB1.out.on q3 (Nat.le_of_lt hs1))
 have HZq:=hid (HE1.out.far (q3.block z hzl))
 have HTxq:=hid (HTx1.out.keep fun g hg=>q3.block g (Nat.lt_trans (HX.out g hg) hs1))
 have HTyq:=hid (HTy1.out.keep fun g hg=>q3.block g (Nat.lt_trans (HX.out g hg) hs1))
 have hsq : b < wq.heap.size:=Nat.lt_of_lt_of_le hs1 q3.size
 have HU1q:=hid (show EB wq u1 (.string o1) (.int .i64 m1) (.string t1) (.int .i64 a1) (.slice A1 n1 d1) from q1)
 have HU2q:=hid (show EB wq u2 (.string o2) (.int .i64 m2) (.string t2) (.int .i64 a2) (.slice A2 n2 d2) from q2)
 clear q1 q2 q3 hzl hal hzn han hzn2 han2 hz1 hs1 HP1 HF1 HTB1 HE1 HTx1 HTy1 y0 y1 y2 y3 y4 s10 s11 s12 s13 s14 s20 s21 s22 s23 s24
 go_upto_region 25 with fail
 have HPd:=hid (HPq.out.drew)
 have HFd:=hid HFq.out.drew
 have HTBd:=hid (HTBq.out.on ((Below.refl b wq).drew) (Nat.le_refl _))
 have HTxd:=hid (show TrV X wq.drew [ex] [_] from HTxq.out.keep fun _ _=>rfl)
 have HTyd:=hid (show TrV X wq.drew [ey] [_] from HTyq.out.keep fun _ _=>rfl)
 have HZd:=hid (show EB wq.drew z (.string ⟨#[45]⟩) (.int .i64 m) (.string t) (.int .i64 a) (.slice (some ⟨ab,0,none⟩) 2 d) from HZq.out)
 have HU1d:=hid (show EB wq.drew u1 (.string o1) (.int .i64 m1) (.string t1) (.int .i64 a1) (.slice A1 n1 d1) from HU1q.out)
 have HU2d:=hid (show EB wq.drew u2 (.string o2) (.int .i64 m2) (.string t2) (.int .i64 a2) (.slice A2 n2 d2) from HU2q.out)
 have hsd : b < wq.drew.heap.size:=hsq
 clear hsq HPq HFq HTBq HZq HTxq HTyq HU1q HU2q
 refine wp_region_noPanic ?_
 refine wp_region_held_drew (S:=fun W=>(W.cell? ⟨u1,0,none⟩ = some (.string o1) ∧ W.cell? ⟨u1,1,none⟩ = some (.int .i64 m1) ∧ W.cell? ⟨u1,2,none⟩ = some (.string t1) ∧ W.cell? ⟨u1,3,none⟩ = some (.int .i64 a1) ∧ W.cell? ⟨u1,4,none⟩ = some (.slice A1 n1 d1) ∧ W.cell? ⟨z,0,none⟩ = some (.string ⟨#[45]⟩))) (by kernel_rfl) ?_ (fun hHeld=>?_)
 · (try dsimp only)
   exact ⟨HU1d.out.c0,HU1d.out.c1,HU1d.out.c2,HU1d.out.c3,HU1d.out.c4,HZd.out.c0⟩
 generalize wq.drew = wd at *
 apply tkH 0
 apply tkH 1
 apply tkH 2
 apply tkH 3
 apply tkH 4
 apply tkH 5
 apply tkN 6
 apply tkN 7
 apply tkH 8
 refine wpAnyH_ready (rs:=[9]) (by kernel_rfl) (by simp) ?_
 refine AllReadyH.cons rfl (fun K hK=>?_) AllReadyH.nil
 go_simp
 refine (HO1.out false b l wd o1 t1 m1 a1 A1 n1 d1 X HPd.out HTBd.out HTxd.out HX.out HW1.out (by have h:=HN.out;first | (simp at h ⊢;omega) | omega | (simp at h;omega))).mono ?_
 rintro e wf ⟨rfl,hp,hf⟩
 have HPf:=hid hp
 have HFf:=hid (HFd.out.trans hf)
 have HTBf:=hid (HTBd.out.fb hf (Nat.le_of_lt hsd))
 have HTxf:=hid (HTxd.out.keep fun g hg=>(hf.low (Nat.le_of_lt hsd)).block g (HX.out g hg))
 have HTyf:=hid (HTyd.out.keep fun g hg=>(hf.low (Nat.le_of_lt hsd)).block g (HX.out g hg))
 have HZf:=hid (show EB wf z (.string ⟨#[45]⟩) (.int .i64 m) (.string t) (.int .i64 a) (.slice (some ⟨ab,0,none⟩) 2 d) from hf.keep HZd.out (by decide) (by omega))
 have HU1f:=hid (show EB wf u1 (.string o1) (.int .i64 m1) (.string t1) (.int .i64 a1) (.slice A1 n1 d1) from hf.keep HU1d.out (by decide) (by omega))
 have HU2f:=hid (show EB wf u2 (.string o2) (.int .i64 m2) (.string t2) (.int .i64 a2) (.slice A2 n2 d2) from hf.keep HU2d.out (by decide) (by omega))
 have hsf : b < wf.heap.size:=Nat.lt_of_lt_of_le hsd hf.size
 clear hp hf hsd HPd HFd HTBd HZd HTxd HTyd HU1d HU2d
 (try dsimp only)
 first | (refine hK.out _ _ ?_ (fun hHeld=>?_)) | (go_wp2_with fail;refine hK.out _ _ ?_ (fun hHeld=>?_))
 · (try dsimp only)
   exact ⟨HU1f.out.c0,HU1f.out.c1,HU1f.out.c2,HU1f.out.c3,HU1f.out.c4,HZf.out.c0⟩
 clear hK K
 (try simp only [List.getElem_toArray,List.getElem_cons_zero,List.getElem_cons_succ,Act.put,List.setIfInBounds_toArray,List.set_cons_zero,List.set_cons_succ])
 refine wpAnyH_done (by kernel_rfl) ?_ _
 refine NoPanic.normal ?_
 (try clear hHeld)
 have k0:=HZf.out.c0
 go_wp2_with fail
 refine (write3 b (l ++ rend (parP false (pcE ex))) [32] kMinus [32] ⟨#[32]⟩ ⟨#[45]⟩ ⟨#[32]⟩ wf rfl rfl rfl HPf.out (by have h:=HN.out;first | (simp at h ⊢;omega) | omega | (simp at h;omega))).mono ?_
 rintro e wg ⟨rfl,hp,hf⟩
 have HPg:=hid hp
 have HFg:=hid (HFf.out.trans hf)
 have HTBg:=hid (HTBf.out.fb hf (Nat.le_of_lt hsf))
 have HTxg:=hid (HTxf.out.keep fun g hg=>(hf.low (Nat.le_of_lt hsf)).block g (HX.out g hg))
 have HTyg:=hid (HTyf.out.keep fun g hg=>(hf.low (Nat.le_of_lt hsf)).block g (HX.out g hg))
 have HZg:=hid (show EB wg z (.string ⟨#[45]⟩) (.int .i64 m) (.string t) (.int .i64 a) (.slice (some ⟨ab,0,none⟩) 2 d) from hf.keep HZf.out (by decide) (by omega))
 have HU1g:=hid (show EB wg u1 (.string o1) (.int .i64 m1) (.string t1) (.int .i64 a1) (.slice A1 n1 d1) from hf.keep HU1f.out (by decide) (by omega))
 have HU2g:=hid (show EB wg u2 (.string o2) (.int .i64 m2) (.string t2) (.int .i64 a2) (.slice A2 n2 d2) from hf.keep HU2f.out (by decide) (by omega))
 have hsg : b < wg.heap.size:=Nat.lt_of_lt_of_le hsf hf.size
 clear hp hf hsf HPf HFf HTBf HZf HTxf HTyf HU1f HU2f
 clear k0
 go_upto_region 27 with fail
 have HPh:=hid (HPg.out.drew)
 have HFh:=hid HFg.out.drew
 have HTBh:=hid (HTBg.out.on ((Below.refl b wg).drew) (Nat.le_refl _))
 have HTxh:=hid (show TrV X wg.drew [ex] [_] from HTxg.out.keep fun _ _=>rfl)
 have HTyh:=hid (show TrV X wg.drew [ey] [_] from HTyg.out.keep fun _ _=>rfl)
 have HZh:=hid (show EB wg.drew z (.string ⟨#[45]⟩) (.int .i64 m) (.string t) (.int .i64 a) (.slice (some ⟨ab,0,none⟩) 2 d) from HZg.out)
 have HU1h:=hid (show EB wg.drew u1 (.string o1) (.int .i64 m1) (.string t1) (.int .i64 a1) (.slice A1 n1 d1) from HU1g.out)
 have HU2h:=hid (show EB wg.drew u2 (.string o2) (.int .i64 m2) (.string t2) (.int .i64 a2) (.slice A2 n2 d2) from HU2g.out)
 have hsh : b < wg.drew.heap.size:=hsg
 clear hsg HPg HFg HTBg HZg HTxg HTyg HU1g HU2g
 cases hsy : ey.isSum with
 | false=>
   have HSV:=hid (fun W=>HSU2.out W)
   rw [hsy] at HSV
   rw [hsy] at HN
   have HSY:=hid hsy
   clear hsy
   have HN2:=hid (show ((l ++ rend (parP false (pcE ex)) ++ ([32] ++ kMinus ++ [32])) ++ rend (parP false (pcE ey))).length ≤ 10000000000000 by have h:=HN.out;first | (simpa [Bool.true_or,Bool.false_or] using h))
   refine wp_region_noPanic ?_
   refine wp_region_held_drew (S:=fun W=>(W.cell? ⟨u2,0,none⟩ = some (.string o2) ∧ W.cell? ⟨u2,1,none⟩ = some (.int .i64 m2) ∧ W.cell? ⟨u2,2,none⟩ = some (.string t2) ∧ W.cell? ⟨u2,3,none⟩ = some (.int .i64 a2) ∧ W.cell? ⟨u2,4,none⟩ = some (.slice A2 n2 d2) ∧ W.cell? ⟨z,0,none⟩ = some (.string ⟨#[45]⟩))) (by kernel_rfl) ?_ (fun hHeld=>?_)
   · (try dsimp only)
     exact ⟨HU2h.out.c0,HU2h.out.c1,HU2h.out.c2,HU2h.out.c3,HU2h.out.c4,HZh.out.c0⟩
   generalize wg.drew = wh at *
   apply tkH 0
   apply tkH 1
   apply tkH 2
   refine wpAnyH_ready (rs:=[3]) (by kernel_rfl) (by simp) ?_
   refine AllReadyH.cons rfl (fun K hK=>?_) AllReadyH.nil
   go_simp
   refine (HSV.out wh).mono ?_
   rintro e wi ⟨rfl,hbg⟩
   have HPi:=hid (HPh.out.later hbg)
   have HFi:=hid (HFh.out.trans (Fb.of hbg))
   have HTBi:=hid (HTBh.out.on hbg (Nat.le_of_lt hsh))
   have HTxi:=hid (HTxh.out.keep fun g hg=>hbg.block g (Nat.lt_trans (HX.out g hg) hsh))
   have HTyi:=hid (HTyh.out.keep fun g hg=>hbg.block g (Nat.lt_trans (HX.out g hg) hsh))
   have HZi:=hid (HZh.out.far (hbg.block z (Array.getElem?_eq_some_iff.1 HZh.out).1))
   have HU1i:=hid (HU1h.out.far (hbg.block u1 (Array.getElem?_eq_some_iff.1 HU1h.out).1))
   have HU2i:=hid (HU2h.out.far (hbg.block u2 (Array.getElem?_eq_some_iff.1 HU2h.out).1))
   have hsi:=Nat.lt_of_lt_of_le hsh hbg.size
   clear hbg hsh HPh HFh HTBh HZh HTxh HTyh HU1h HU2h
   (try dsimp only)
   first | (refine hK.out _ _ ?_ (fun hHeld=>?_)) | (go_wp2_with fail;refine hK.out _ _ ?_ (fun hHeld=>?_))
   · (try dsimp only)
     exact ⟨HU2i.out.c0,HU2i.out.c1,HU2i.out.c2,HU2i.out.c3,HU2i.out.c4,HZi.out.c0⟩
   clear hK K
   (try simp only [List.getElem_toArray,List.getElem_cons_zero,List.getElem_cons_succ,Act.put,List.setIfInBounds_toArray,List.set_cons_zero,List.set_cons_succ])
   apply tkH 4
   apply tkH 5
   apply tkH 6
   apply tkH 7
   apply tkH 8
   apply tkN 9
   apply tkN 10
   apply tkH 11
   apply tkH 12
   refine wpAnyH_ready (rs:=[13]) (by kernel_rfl) (by simp) ?_
   refine AllReadyH.cons rfl (fun K hK=>?_) AllReadyH.nil
   go_simp
   refine (HO2.out false b (l ++ rend (parP false (pcE ex)) ++ ([32] ++ kMinus ++ [32])) wi o2 t2 m2 a2 A2 n2 d2 X HPi.out HTBi.out HTyi.out HX.out HW2.out HN2.out).mono ?_
   rintro e wk ⟨rfl,hp,hf⟩
   have HPk:=hid hp
   have HFk:=hid (HFi.out.trans hf)
   have HTBk:=hid (HTBi.out.fb hf (Nat.le_of_lt hsi))
   have HTxk:=hid (HTxi.out.keep fun g hg=>(hf.low (Nat.le_of_lt hsi)).block g (HX.out g hg))
   have HTyk:=hid (HTyi.out.keep fun g hg=>(hf.low (Nat.le_of_lt hsi)).block g (HX.out g hg))
   have HZk:=hid (show EB wk z (.string ⟨#[45]⟩) (.int .i64 m) (.string t) (.int .i64 a) (.slice (some ⟨ab,0,none⟩) 2 d) from hf.keep HZi.out (by decide) (by omega))
   have HU1k:=hid (show EB wk u1 (.string o1) (.int .i64 m1) (.string t1) (.int .i64 a1) (.slice A1 n1 d1) from hf.keep HU1i.out (by decide) (by omega))
   have HU2k:=hid (show EB wk u2 (.string o2) (.int .i64 m2) (.string t2) (.int .i64 a2) (.slice A2 n2 d2) from hf.keep HU2i.out (by decide) (by omega))
   have hsk : b < wk.heap.size:=Nat.lt_of_lt_of_le hsi hf.size
   clear hp hf hsi HPi HFi HTBi HZi HTxi HTyi HU1i HU2i
   (try dsimp only)
   first | (refine hK.out _ _ ?_ (fun hHeld=>?_)) | (go_wp2_with fail;refine hK.out _ _ ?_ (fun hHeld=>?_))
   · (try dsimp only)
     exact ⟨HU2k.out.c0,HU2k.out.c1,HU2k.out.c2,HU2k.out.c3,HU2k.out.c4,HZk.out.c0⟩
   clear hK K
   (try simp only [List.getElem_toArray,List.getElem_cons_zero,List.getElem_cons_succ,Act.put,List.setIfInBounds_toArray,List.set_cons_zero,List.set_cons_succ])
   refine wpAnyH_done (by kernel_rfl) ?_ _
   refine NoPanic.normal ?_
   go_wp2_with fail
   go_end0
   exact ⟨rfl,cast (congrArg (Pr wk b) (by simp only [List.append_assoc,List.cons_append,List.nil_append])) HPk.out,HFk.out⟩
 | true=>
   have HSV:=hid (fun W=>HSU2.out W)
   rw [hsy] at HSV
   rw [hsy] at HN
   have HSY:=hid hsy
   clear hsy
   have HN2:=hid (show ((l ++ rend (parP false (pcE ex)) ++ ([32] ++ kMinus ++ [32])) ++ rend (parP true (pcE ey))).length ≤ 10000000000000 by have h:=HN.out;first | (simpa [Bool.true_or,Bool.false_or] using h))
   refine wp_region_noPanic ?_
   refine wp_region_held_drew (S:=fun W=>(W.cell? ⟨u2,0,none⟩ = some (.string o2) ∧ W.cell? ⟨u2,1,none⟩ = some (.int .i64 m2) ∧ W.cell? ⟨u2,2,none⟩ = some (.string t2) ∧ W.cell? ⟨u2,3,none⟩ = some (.int .i64 a2) ∧ W.cell? ⟨u2,4,none⟩ = some (.slice A2 n2 d2) ∧ W.cell? ⟨z,0,none⟩ = some (.string ⟨#[45]⟩))) (by kernel_rfl) ?_ (fun hHeld=>?_)
   · (try dsimp only)
     exact ⟨HU2h.out.c0,HU2h.out.c1,HU2h.out.c2,HU2h.out.c3,HU2h.out.c4,HZh.out.c0⟩
   generalize wg.drew = wh at *
   apply tkH 0
   apply tkH 1
   apply tkH 2
   refine wpAnyH_ready (rs:=[3]) (by kernel_rfl) (by simp) ?_
   refine AllReadyH.cons rfl (fun K hK=>?_) AllReadyH.nil
   go_simp
   refine (HSV.out wh).mono ?_
   rintro e wi ⟨rfl,hbg⟩
   have HPi:=hid (HPh.out.later hbg)
   have HFi:=hid (HFh.out.trans (Fb.of hbg))
   have HTBi:=hid (HTBh.out.on hbg (Nat.le_of_lt hsh))
   have HTxi:=hid (HTxh.out.keep fun g hg=>hbg.block g (Nat.lt_trans (HX.out g hg) hsh))
   have HTyi:=hid (HTyh.out.keep fun g hg=>hbg.block g (Nat.lt_trans (HX.out g hg) hsh))
   have HZi:=hid (HZh.out.far (hbg.block z (Array.getElem?_eq_some_iff.1 HZh.out).1))
   have HU1i:=hid (HU1h.out.far (hbg.block u1 (Array.getElem?_eq_some_iff.1 HU1h.out).1))
   have HU2i:=hid (HU2h.out.far (hbg.block u2 (Array.getElem?_eq_some_iff.1 HU2h.out).1))
   have hsi:=Nat.lt_of_lt_of_le hsh hbg.size
   clear hbg hsh HPh HFh HTBh HZh HTxh HTyh HU1h HU2h
   (try dsimp only)
   first | (refine hK.out _ _ ?_ (fun hHeld=>?_)) | (go_wp2_with fail;refine hK.out _ _ ?_ (fun hHeld=>?_))
   · (try dsimp only)
     exact ⟨HU2i.out.c0,HU2i.out.c1,HU2i.out.c2,HU2i.out.c3,HU2i.out.c4,HZi.out.c0⟩
   clear hK K
   (try simp only [List.getElem_toArray,List.getElem_cons_zero,List.getElem_cons_succ,Act.put,List.setIfInBounds_toArray,List.set_cons_zero,List.set_cons_succ])
   apply tkH 4
   apply tkN 5
   apply tkN 6
   apply tkN 7
   apply tkN 8
   apply tkN 9
   apply tkN 10
   apply tkN 11
   apply tkH 12
   refine wpAnyH_ready (rs:=[13]) (by kernel_rfl) (by simp) ?_
   refine AllReadyH.cons rfl (fun K hK=>?_) AllReadyH.nil
   go_simp
   refine (HO2.out true b (l ++ rend (parP false (pcE ex)) ++ ([32] ++ kMinus ++ [32])) wi o2 t2 m2 a2 A2 n2 d2 X HPi.out HTBi.out HTyi.out HX.out HW2.out HN2.out).mono ?_
   rintro e wk ⟨rfl,hp,hf⟩
   have HPk:=hid hp
   have HFk:=hid (HFi.out.trans hf)
   have HTBk:=hid (HTBi.out.fb hf (Nat.le_of_lt hsi))
   have HTxk:=hid (HTxi.out.keep fun g hg=>(hf.low (Nat.le_of_lt hsi)).block g (HX.out g hg))
   have HTyk:=hid (HTyi.out.keep fun g hg=>(hf.low (Nat.le_of_lt hsi)).block g (HX.out g hg))
   have HZk:=hid (show EB wk z (.string ⟨#[45]⟩) (.int .i64 m) (.string t) (.int .i64 a) (.slice (some ⟨ab,0,none⟩) 2 d) from hf.keep HZi.out (by decide) (by omega))
   have HU1k:=hid (show EB wk u1 (.string o1) (.int .i64 m1) (.string t1) (.int .i64 a1) (.slice A1 n1 d1) from hf.keep HU1i.out (by decide) (by omega))
   have HU2k:=hid (show EB wk u2 (.string o2) (.int .i64 m2) (.string t2) (.int .i64 a2) (.slice A2 n2 d2) from hf.keep HU2i.out (by decide) (by omega))
   have hsk : b < wk.heap.size:=Nat.lt_of_lt_of_le hsi hf.size
   clear hp hf hsi HPi HFi HTBi HZi HTxi HTyi HU1i HU2i
   (try dsimp only)
   first | (refine hK.out _ _ ?_ (fun hHeld=>?_)) | (go_wp2_with fail;refine hK.out _ _ ?_ (fun hHeld=>?_))
   · (try dsimp only)
     exact ⟨HU2k.out.c0,HU2k.out.c1,HU2k.out.c2,HU2k.out.c3,HU2k.out.c4,HZk.out.c0⟩
   clear hK K
   (try simp only [List.getElem_toArray,List.getElem_cons_zero,List.getElem_cons_succ,Act.put,List.setIfInBounds_toArray,List.set_cons_zero,List.set_cons_succ])
   refine wpAnyH_done (by kernel_rfl) ?_ _
   refine NoPanic.normal ?_
   go_wp2_with fail
   go_end0
   exact ⟨rfl,cast (congrArg (Pr wk b) (by simp only [List.append_assoc,List.cons_append,List.nil_append])) HPk.out,HFk.out⟩
set_option maxRecDepth 100000 in
theorem px_bin_kStar {ex ey : Ex} (h1 : PxP ex) (h2 : PxP ey) : PxP (.bin kStar ex ey):=by
 intro b l w o t m a A n d X h hT ht hX hwf hlen
 have hbl:=h.lt
 obtain ⟨ho,hm,htt,ks,hk,hr,hnd⟩:=ht.inv
 rw [tE_bin] at hlen ⊢
 rw [show (kStar == kStar) = true by decide,Bool.true_and,Bool.true_and] at hlen ⊢
 obtain rfl : o = ⟨#[42]⟩:=ho
 obtain ⟨_,hw1,hw2⟩:=hwf
 obtain ⟨k1,k2,rfl,ht1,ht2⟩:=TrV.two (show TrV X w [ex,ey] ks from hk)
 obtain rfl : 2 = n:=hr.1
 rcases hr.2.2 with hr0 | ⟨ab,rfl,hab,hrg⟩
 · cases hr0
 have hb1:=hrg 0 k1 rfl
 have hb2:=hrg 1 k2 rfl
 obtain ⟨a1,A1,n1,d1,hk1⟩:=ht1.one
 obtain ⟨a2,A2,n2,d2,hk2⟩:=ht2.one
 rw [exc] at hk1 hk2
 subst hk1 hk2
 have HSU1:=hid (fun (W : World)=>sum_ex ht1 hw1 W)
 have HSU2:=hid (fun (W : World)=>sum_ex ht2 hw2 W)
 have HPU2:=hid (fun (W : World)=>prod_ex ht2 hw2 W)
 generalize sb (exOp ex) = o1 at *
 generalize exNm ex = m1 at *
 generalize sb (exTx ex) = t1 at *
 generalize sb (exOp ey) = o2 at *
 generalize exNm ey = m2 at *
 generalize sb (exTx ey) = t2 at *
 have r10 : w.cell? ⟨ab,0,none⟩ = some (.string o1):=hb1 0 _ rfl
 have r11 : w.cell? ⟨ab,1,none⟩ = some (.int .i64 m1):=hb1 1 _ rfl
 have r12 : w.cell? ⟨ab,2,none⟩ = some (.string t1):=hb1 2 _ rfl
 have r13 : w.cell? ⟨ab,3,none⟩ = some (.int .i64 a1):=hb1 3 _ rfl
 have r14 : w.cell? ⟨ab,4,none⟩ = some (.slice A1 n1 d1):=hb1 4 _ rfl
 have r20 : w.cell? ⟨ab,5,none⟩ = some (.string o2):=hb2 0 _ rfl
 have r21 : w.cell? ⟨ab,6,none⟩ = some (.int .i64 m2):=hb2 1 _ rfl
 have r22 : w.cell? ⟨ab,7,none⟩ = some (.string t2):=hb2 2 _ rfl
 have r23 : w.cell? ⟨ab,8,none⟩ = some (.int .i64 a2):=hb2 3 _ rfl
 have r24 : w.cell? ⟨ab,9,none⟩ = some (.slice A2 n2 d2):=hb2 4 _ rfl
 have habb:=hX ab hab
 have HO1:=hid (operand_of h1)
 have HO2:=hid (operand_of h2)
 have HW1:=hid hw1
 have HW2:=hid hw2
 have HX:=hid hX
 have HN:=hid hlen
 have hba : Below w.heap.size w (w.alloc (.cells #[.string ⟨#[42]⟩,.int .i64 m,.string t,.int .i64 a,.slice (some ⟨ab,0,none⟩) 2 d] 55)):=(Below.refl _ w).alloc (Nat.le_refl _) _
 have HP1:=hid (h.later hba)
 have HF1:=hid (show Fb b w _ from Fb.of hba)
 have HE1:=hid (show EB (w.alloc (.cells #[.string ⟨#[42]⟩,.int .i64 m,.string t,.int .i64 a,.slice (some ⟨ab,0,none⟩) 2 d] 55)) w.heap.size (.string ⟨#[42]⟩) (.int .i64 m) (.string t) (.int .i64 a) (.slice (some ⟨ab,0,none⟩) 2 d) from heap_alloc_new w _)
 have hs1 : b < (w.alloc (.cells #[.string ⟨#[42]⟩,.int .i64 m,.string t,.int .i64 a,.slice (some ⟨ab,0,none⟩) 2 d] 55)).heap.size:=Nat.lt_of_lt_of_le hbl hba.size
 have HTB1:=hid (hT.on hba (Nat.le_of_lt hbl))
 have HTx1:=hid (ht1.keep fun g hg=>hba.block g (Nat.lt_trans (hX g hg) hbl))
 have s10:=(hba.cell (p:=⟨ab,0,none⟩) (Nat.lt_trans habb hbl)).trans r10
 have s11:=(hba.cell (p:=⟨ab,1,none⟩) (Nat.lt_trans habb hbl)).trans r11
 have s12:=(hba.cell (p:=⟨ab,2,none⟩) (Nat.lt_trans habb hbl)).trans r12
 have s13:=(hba.cell (p:=⟨ab,3,none⟩) (Nat.lt_trans habb hbl)).trans r13
 have s14:=(hba.cell (p:=⟨ab,4,none⟩) (Nat.lt_trans habb hbl)).trans r14
 have HTy1:=hid (ht2.keep fun g hg=>hba.block g (Nat.lt_trans (hX g hg) hbl))
 have s20:=(hba.cell (p:=⟨ab,5,none⟩) (Nat.lt_trans habb hbl)).trans r20
 have s21:=(hba.cell (p:=⟨ab,6,none⟩) (Nat.lt_trans habb hbl)).trans r21
 have s22:=(hba.cell (p:=⟨ab,7,none⟩) (Nat.lt_trans habb hbl)).trans r22
 have s23:=(hba.cell (p:=⟨ab,8,none⟩) (Nat.lt_trans habb hbl)).trans r23
 have s24:=(hba.cell (p:=⟨ab,9,none⟩) (Nat.lt_trans habb hbl)).trans r24
 clear h hT ht hX hlen hk hr hm htt hnd hrg hb1 hb2 ht1 ht2 hw1 hw2 h1 h2 r10 r11 r12 r13 r14 r20 r21 r22 r23 r24
 (try clear ho)
 go_enter Tryd.func49,Tryd.ntmps49
 go_upto_region 1 with fail
 obtain ⟨z,hz⟩ : ∃ z,w.heap.size = z:=⟨_,rfl⟩
 have hzb : b < z:=by rw [← hz];exact hbl
 have hz1 : z + 1 ≤ (w.alloc (.cells #[.string ⟨#[42]⟩,.int .i64 m,.string t,.int .i64 a,.slice (some ⟨ab,0,none⟩) 2 d] 55)).heap.size:=by rw [← hz];exact Nat.le_of_eq (Array.size_push _).symm
 rw [hz] at HE1 ⊢
 generalize (w.alloc (.cells #[.string ⟨#[42]⟩,.int .i64 m,.string t,.int .i64 a,.slice (some ⟨ab,0,none⟩) 2 d] 55)) = w1 at *
 clear hz hba
 have y0:=HE1.out.c0
 have y1:=HE1.out.c1
 have y2:=HE1.out.c2
 have y3:=HE1.out.c3
 have y4:=HE1.out.c4
 have hzl : z < w1.heap.size:=hz1
 have hal : ab < w1.heap.size:=by omega
 have hzn : z ≠ w1.heap.size:=by omega
 have han : ab ≠ w1.heap.size:=by omega
 have hzn2 : z ≠ w1.heap.size + 1:=by omega
 have han2 : ab ≠ w1.heap.size + 1:=by omega
 go_upto_region 24 with fail
 have HTA12:=hid (two_alloc w1 #[.string o1,.int .i64 m1,.string t1,.int .i64 a1,.slice A1 n1 d1] #[.string o2,.int .i64 m2,.string t2,.int .i64 a2,.slice A2 n2 d2] 55)
 have HTA21:=hid (two_alloc w1 #[.string o2,.int .i64 m2,.string t2,.int .i64 a2,.slice A2 n2 d2] #[.string o1,.int .i64 m1,.string t1,.int .i64 a1,.slice A1 n1 d1] 55)
 go_cut [6,7] (fun v6 v7 wx=>∃ x y : Nat,v6 = .pointer (some ⟨x,0,none⟩) ∧ v7 = .pointer (some ⟨y,0,none⟩) ∧ b < x ∧ b < y ∧ EB wx x (.string o1) (.int .i64 m1) (.string t1) (.int .i64 a1) (.slice A1 n1 d1) ∧ EB wx y (.string o2) (.int .i64 m2) (.string t2) (.int .i64 a2) (.slice A2 n2 d2) ∧ Below w1.heap.size w1 wx)
 case first=>
   go_region
   all_goals
     go_wp2_with fail
     go_meet
     first
       | exact ⟨_,_,rfl,rfl,by omega,by omega,HTA12.out.1,HTA12.out.2.1,HTA12.out.2.2.1⟩
       | exact ⟨_,_,rfl,rfl,by omega,by omega,HTA21.out.2.1,HTA21.out.1,HTA21.out.2.2.1⟩
 obtain ⟨u1,u2,rfl,rfl,hb1,hb2,q1,q2,q3⟩:=hcut
 obtain ⟨wq,hwq⟩ : ∃ wq,wq = wc:=⟨_,rfl⟩
 rw [← hwq] at q1 q2 q3 ⊢
 clear hwq HTA12 HTA21
 have HPq:=hid (HP1.out.later q3)
 have HFq:=hid (HF1.out.trans (Fb.of q3))
 have HTBq:=hid (HTB1.out.on q3 (Nat.le_of_lt hs1))
 have HZq:=hid (HE1.out.far (q3.block z hzl))
 have HTxq:=hid (HTx1.out.keep fun g hg=>q3.block g (Nat.lt_trans (HX.out g hg) hs1))
 have HTyq:=hid (HTy1.out.keep fun g hg=>q3.block g (Nat.lt_trans (HX.out g hg) hs1))
 have hsq : b < wq.heap.size:=Nat.lt_of_lt_of_le hs1 q3.size
 have HU1q:=hid (show EB wq u1 (.string o1) (.int .i64 m1) (.string t1) (.int .i64 a1) (.slice A1 n1 d1) from q1)
 have HU2q:=hid (show EB wq u2 (.string o2) (.int .i64 m2) (.string t2) (.int .i64 a2) (.slice A2 n2 d2) from q2)
 clear q1 q2 q3 hzl hal hzn han hzn2 han2 hz1 hs1 HP1 HF1 HTB1 HE1 HTx1 HTy1 y0 y1 y2 y3 y4 s10 s11 s12 s13 s14 s20 s21 s22 s23 s24
 go_upto_region 25 with fail
 have HPd:=hid (HPq.out.drew)
 have HFd:=hid HFq.out.drew
 have HTBd:=hid (HTBq.out.on ((Below.refl b wq).drew) (Nat.le_refl _))
 have HTxd:=hid (show TrV X wq.drew [ex] [_] from HTxq.out.keep fun _ _=>rfl)
 have HTyd:=hid (show TrV X wq.drew [ey] [_] from HTyq.out.keep fun _ _=>rfl)
 have HZd:=hid (show EB wq.drew z (.string ⟨#[42]⟩) (.int .i64 m) (.string t) (.int .i64 a) (.slice (some ⟨ab,0,none⟩) 2 d) from HZq.out)
 have HU1d:=hid (show EB wq.drew u1 (.string o1) (.int .i64 m1) (.string t1) (.int .i64 a1) (.slice A1 n1 d1) from HU1q.out)
 have HU2d:=hid (show EB wq.drew u2 (.string o2) (.int .i64 m2) (.string t2) (.int .i64 a2) (.slice A2 n2 d2) from HU2q.out)
 have hsd : b < wq.drew.heap.size:=hsq
 clear hsq HPq HFq HTBq HZq HTxq HTyq HU1q HU2q
 refine wp_region_noPanic ?_
 refine wp_region_held_drew (S:=fun W=>(W.cell? ⟨u1,0,none⟩ = some (.string o1) ∧ W.cell? ⟨u1,1,none⟩ = some (.int .i64 m1) ∧ W.cell? ⟨u1,2,none⟩ = some (.string t1) ∧ W.cell? ⟨u1,3,none⟩ = some (.int .i64 a1) ∧ W.cell? ⟨u1,4,none⟩ = some (.slice A1 n1 d1) ∧ W.cell? ⟨z,0,none⟩ = some (.string ⟨#[42]⟩))) (by kernel_rfl) ?_ (fun hHeld=>?_)
 · (try dsimp only)
   exact ⟨HU1d.out.c0,HU1d.out.c1,HU1d.out.c2,HU1d.out.c3,HU1d.out.c4,HZd.out.c0⟩
 generalize wq.drew = wd at *
 apply tkH 0
 apply tkH 1
 apply tkH 2
 apply tkH 3
 apply tkH 4
 apply tkH 5
 apply tkH 6
 refine wpAnyH_ready (rs:=[7]) (by kernel_rfl) (by simp) ?_
 refine AllReadyH.cons rfl (fun K hK=>?_) AllReadyH.nil
 go_simp
 refine (HSU1.out wd).mono ?_
 rintro e we ⟨rfl,hbg⟩
 have HPe:=hid (HPd.out.later hbg)
 have HFe:=hid (HFd.out.trans (Fb.of hbg))
 have HTBe:=hid (HTBd.out.on hbg (Nat.le_of_lt hsd))
 have HTxe:=hid (HTxd.out.keep fun g hg=>hbg.block g (Nat.lt_trans (HX.out g hg) hsd))
 have HTye:=hid (HTyd.out.keep fun g hg=>hbg.block g (Nat.lt_trans (HX.out g hg) hsd))
 have HZe:=hid (HZd.out.far (hbg.block z (Array.getElem?_eq_some_iff.1 HZd.out).1))
 have HU1e:=hid (HU1d.out.far (hbg.block u1 (Array.getElem?_eq_some_iff.1 HU1d.out).1))
 have HU2e:=hid (HU2d.out.far (hbg.block u2 (Array.getElem?_eq_some_iff.1 HU2d.out).1))
 have hse:=Nat.lt_of_lt_of_le hsd hbg.size
 clear hbg hsd HPd HFd HTBd HZd HTxd HTyd HU1d HU2d
 (try dsimp only)
 first | (refine hK.out _ _ ?_ (fun hHeld=>?_)) | (go_wp2_with fail;refine hK.out _ _ ?_ (fun hHeld=>?_))
 · (try dsimp only)
   exact ⟨HU1e.out.c0,HU1e.out.c1,HU1e.out.c2,HU1e.out.c3,HU1e.out.c4,HZe.out.c0⟩
 clear hK K
 (try simp only [List.getElem_toArray,List.getElem_cons_zero,List.getElem_cons_succ,Act.put,List.setIfInBounds_toArray,List.set_cons_zero,List.set_cons_succ])
 apply tkH 8
 refine wpAnyH_ready (rs:=[9]) (by kernel_rfl) (by simp) ?_
 refine AllReadyH.cons rfl (fun K hK=>?_) AllReadyH.nil
 go_simp
 refine (HO1.out ex.isSum b l we o1 t1 m1 a1 A1 n1 d1 X HPe.out HTBe.out HTxe.out HX.out HW1.out (by have h:=HN.out;first | (simp at h ⊢;omega) | omega | (simp at h;omega))).mono ?_
 rintro e wf ⟨rfl,hp,hf⟩
 have HPf:=hid hp
 have HFf:=hid (HFe.out.trans hf)
 have HTBf:=hid (HTBe.out.fb hf (Nat.le_of_lt hse))
 have HTxf:=hid (HTxe.out.keep fun g hg=>(hf.low (Nat.le_of_lt hse)).block g (HX.out g hg))
 have HTyf:=hid (HTye.out.keep fun g hg=>(hf.low (Nat.le_of_lt hse)).block g (HX.out g hg))
 have HZf:=hid (show EB wf z (.string ⟨#[42]⟩) (.int .i64 m) (.string t) (.int .i64 a) (.slice (some ⟨ab,0,none⟩) 2 d) from hf.keep HZe.out (by decide) (by omega))
 have HU1f:=hid (show EB wf u1 (.string o1) (.int .i64 m1) (.string t1) (.int .i64 a1) (.slice A1 n1 d1) from hf.keep HU1e.out (by decide) (by omega))
 have HU2f:=hid (show EB wf u2 (.string o2) (.int .i64 m2) (.string t2) (.int .i64 a2) (.slice A2 n2 d2) from hf.keep HU2e.out (by decide) (by omega))
 have hsf : b < wf.heap.size:=Nat.lt_of_lt_of_le hse hf.size
 clear hp hf hse HPe HFe HTBe HZe HTxe HTye HU1e HU2e
 (try dsimp only)
 first | (refine hK.out _ _ ?_ (fun hHeld=>?_)) | (go_wp2_with fail;refine hK.out _ _ ?_ (fun hHeld=>?_))
 · (try dsimp only)
   exact ⟨HU1f.out.c0,HU1f.out.c1,HU1f.out.c2,HU1f.out.c3,HU1f.out.c4,HZf.out.c0⟩
 clear hK K
 (try simp only [List.getElem_toArray,List.getElem_cons_zero,List.getElem_cons_succ,Act.put,List.setIfInBounds_toArray,List.set_cons_zero,List.set_cons_succ])
 refine wpAnyH_done (by kernel_rfl) ?_ _
 refine NoPanic.normal ?_
 (try clear hHeld)
 have k0:=HZf.out.c0
 go_wp2_with fail
 refine (write3 b (l ++ rend (parP ex.isSum (pcE ex))) [32] kStar [32] ⟨#[32]⟩ ⟨#[42]⟩ ⟨#[32]⟩ wf rfl rfl rfl HPf.out (by have h:=HN.out;first | (simp at h ⊢;omega) | omega | (simp at h;omega))).mono ?_
 rintro e wg ⟨rfl,hp,hf⟩
 have HPg:=hid hp
 have HFg:=hid (HFf.out.trans hf)
 have HTBg:=hid (HTBf.out.fb hf (Nat.le_of_lt hsf))
 have HTxg:=hid (HTxf.out.keep fun g hg=>(hf.low (Nat.le_of_lt hsf)).block g (HX.out g hg))
 have HTyg:=hid (HTyf.out.keep fun g hg=>(hf.low (Nat.le_of_lt hsf)).block g (HX.out g hg))
 have HZg:=hid (show EB wg z (.string ⟨#[42]⟩) (.int .i64 m) (.string t) (.int .i64 a) (.slice (some ⟨ab,0,none⟩) 2 d) from hf.keep HZf.out (by decide) (by omega))
 have HU1g:=hid (show EB wg u1 (.string o1) (.int .i64 m1) (.string t1) (.int .i64 a1) (.slice A1 n1 d1) from hf.keep HU1f.out (by decide) (by omega))
 have HU2g:=hid (show EB wg u2 (.string o2) (.int .i64 m2) (.string t2) (.int .i64 a2) (.slice A2 n2 d2) from hf.keep HU2f.out (by decide) (by omega))
 have hsg : b < wg.heap.size:=Nat.lt_of_lt_of_le hsf hf.size
 clear hp hf hsf HPf HFf HTBf HZf HTxf HTyf HU1f HU2f
 clear k0
 go_upto_region 27 with fail
 have HPh:=hid (HPg.out.drew)
 have HFh:=hid HFg.out.drew
 have HTBh:=hid (HTBg.out.on ((Below.refl b wg).drew) (Nat.le_refl _))
 have HTxh:=hid (show TrV X wg.drew [ex] [_] from HTxg.out.keep fun _ _=>rfl)
 have HTyh:=hid (show TrV X wg.drew [ey] [_] from HTyg.out.keep fun _ _=>rfl)
 have HZh:=hid (show EB wg.drew z (.string ⟨#[42]⟩) (.int .i64 m) (.string t) (.int .i64 a) (.slice (some ⟨ab,0,none⟩) 2 d) from HZg.out)
 have HU1h:=hid (show EB wg.drew u1 (.string o1) (.int .i64 m1) (.string t1) (.int .i64 a1) (.slice A1 n1 d1) from HU1g.out)
 have HU2h:=hid (show EB wg.drew u2 (.string o2) (.int .i64 m2) (.string t2) (.int .i64 a2) (.slice A2 n2 d2) from HU2g.out)
 have hsh : b < wg.drew.heap.size:=hsg
 clear hsg HPg HFg HTBg HZg HTxg HTyg HU1g HU2g
 cases hsy : ey.isSum with
 | false=>
   have HSV:=hid (fun W=>HSU2.out W)
   rw [hsy] at HSV
   rw [hsy] at HN
   have HSY:=hid hsy
   clear hsy
   have HN2:=hid (show ((l ++ rend (parP ex.isSum (pcE ex)) ++ ([32] ++ kStar ++ [32])) ++ rend (parP ey.isProd (pcE ey))).length ≤ 10000000000000 by have h:=HN.out;first | (simpa [Bool.true_or,Bool.false_or] using h))
   refine wp_region_noPanic ?_
   refine wp_region_held_drew (S:=fun W=>(W.cell? ⟨u2,0,none⟩ = some (.string o2) ∧ W.cell? ⟨u2,1,none⟩ = some (.int .i64 m2) ∧ W.cell? ⟨u2,2,none⟩ = some (.string t2) ∧ W.cell? ⟨u2,3,none⟩ = some (.int .i64 a2) ∧ W.cell? ⟨u2,4,none⟩ = some (.slice A2 n2 d2) ∧ W.cell? ⟨z,0,none⟩ = some (.string ⟨#[42]⟩))) (by kernel_rfl) ?_ (fun hHeld=>?_)
   · (try dsimp only)
     exact ⟨HU2h.out.c0,HU2h.out.c1,HU2h.out.c2,HU2h.out.c3,HU2h.out.c4,HZh.out.c0⟩
   generalize wg.drew = wh at *
   apply tkH 0
   apply tkH 1
   apply tkH 2
   refine wpAnyH_ready (rs:=[3]) (by kernel_rfl) (by simp) ?_
   refine AllReadyH.cons rfl (fun K hK=>?_) AllReadyH.nil
   go_simp
   refine (HSV.out wh).mono ?_
   rintro e wi ⟨rfl,hbg⟩
   have HPi:=hid (HPh.out.later hbg)
   have HFi:=hid (HFh.out.trans (Fb.of hbg))
   have HTBi:=hid (HTBh.out.on hbg (Nat.le_of_lt hsh))
   have HTxi:=hid (HTxh.out.keep fun g hg=>hbg.block g (Nat.lt_trans (HX.out g hg) hsh))
   have HTyi:=hid (HTyh.out.keep fun g hg=>hbg.block g (Nat.lt_trans (HX.out g hg) hsh))
   have HZi:=hid (HZh.out.far (hbg.block z (Array.getElem?_eq_some_iff.1 HZh.out).1))
   have HU1i:=hid (HU1h.out.far (hbg.block u1 (Array.getElem?_eq_some_iff.1 HU1h.out).1))
   have HU2i:=hid (HU2h.out.far (hbg.block u2 (Array.getElem?_eq_some_iff.1 HU2h.out).1))
   have hsi:=Nat.lt_of_lt_of_le hsh hbg.size
   clear hbg hsh HPh HFh HTBh HZh HTxh HTyh HU1h HU2h
   (try dsimp only)
   first | (refine hK.out _ _ ?_ (fun hHeld=>?_)) | (go_wp2_with fail;refine hK.out _ _ ?_ (fun hHeld=>?_))
   · (try dsimp only)
     exact ⟨HU2i.out.c0,HU2i.out.c1,HU2i.out.c2,HU2i.out.c3,HU2i.out.c4,HZi.out.c0⟩
   clear hK K
   (try simp only [List.getElem_toArray,List.getElem_cons_zero,List.getElem_cons_succ,Act.put,List.setIfInBounds_toArray,List.set_cons_zero,List.set_cons_succ])
   apply tkH 4
   apply tkH 5
   apply tkH 6
   apply tkH 7
   apply tkH 8
   apply tkH 9
   refine wpAnyH_ready (rs:=[10]) (by kernel_rfl) (by simp) ?_
   refine AllReadyH.cons rfl (fun K hK=>?_) AllReadyH.nil
   go_simp
   refine (HPU2.out wi).mono ?_
   rintro e wj ⟨rfl,hbg⟩
   have HPj:=hid (HPi.out.later hbg)
   have HFj:=hid (HFi.out.trans (Fb.of hbg))
   have HTBj:=hid (HTBi.out.on hbg (Nat.le_of_lt hsi))
   have HTxj:=hid (HTxi.out.keep fun g hg=>hbg.block g (Nat.lt_trans (HX.out g hg) hsi))
   have HTyj:=hid (HTyi.out.keep fun g hg=>hbg.block g (Nat.lt_trans (HX.out g hg) hsi))
   have HZj:=hid (HZi.out.far (hbg.block z (Array.getElem?_eq_some_iff.1 HZi.out).1))
   have HU1j:=hid (HU1i.out.far (hbg.block u1 (Array.getElem?_eq_some_iff.1 HU1i.out).1))
   have HU2j:=hid (HU2i.out.far (hbg.block u2 (Array.getElem?_eq_some_iff.1 HU2i.out).1))
   have hsj:=Nat.lt_of_lt_of_le hsi hbg.size
   clear hbg hsi HPi HFi HTBi HZi HTxi HTyi HU1i HU2i
   (try dsimp only)
   first | (refine hK.out _ _ ?_ (fun hHeld=>?_)) | (go_wp2_with fail;refine hK.out _ _ ?_ (fun hHeld=>?_))
   · (try dsimp only)
     exact ⟨HU2j.out.c0,HU2j.out.c1,HU2j.out.c2,HU2j.out.c3,HU2j.out.c4,HZj.out.c0⟩
   clear hK K
   (try simp only [List.getElem_toArray,List.getElem_cons_zero,List.getElem_cons_succ,Act.put,List.setIfInBounds_toArray,List.set_cons_zero,List.set_cons_succ])
   apply tkH 11
   apply tkH 12
   refine wpAnyH_ready (rs:=[13]) (by kernel_rfl) (by simp) ?_
   refine AllReadyH.cons rfl (fun K hK=>?_) AllReadyH.nil
   go_simp
   refine (HO2.out ey.isProd b (l ++ rend (parP ex.isSum (pcE ex)) ++ ([32] ++ kStar ++ [32])) wj o2 t2 m2 a2 A2 n2 d2 X HPj.out HTBj.out HTyj.out HX.out HW2.out HN2.out).mono ?_
   rintro e wk ⟨rfl,hp,hf⟩
   have HPk:=hid hp
   have HFk:=hid (HFj.out.trans hf)
   have HTBk:=hid (HTBj.out.fb hf (Nat.le_of_lt hsj))
   have HTxk:=hid (HTxj.out.keep fun g hg=>(hf.low (Nat.le_of_lt hsj)).block g (HX.out g hg))
   have HTyk:=hid (HTyj.out.keep fun g hg=>(hf.low (Nat.le_of_lt hsj)).block g (HX.out g hg))
   have HZk:=hid (show EB wk z (.string ⟨#[42]⟩) (.int .i64 m) (.string t) (.int .i64 a) (.slice (some ⟨ab,0,none⟩) 2 d) from hf.keep HZj.out (by decide) (by omega))
   have HU1k:=hid (show EB wk u1 (.string o1) (.int .i64 m1) (.string t1) (.int .i64 a1) (.slice A1 n1 d1) from hf.keep HU1j.out (by decide) (by omega))
   have HU2k:=hid (show EB wk u2 (.string o2) (.int .i64 m2) (.string t2) (.int .i64 a2) (.slice A2 n2 d2) from hf.keep HU2j.out (by decide) (by omega))
   have hsk : b < wk.heap.size:=Nat.lt_of_lt_of_le hsj hf.size
   clear hp hf hsj HPj HFj HTBj HZj HTxj HTyj HU1j HU2j
   (try dsimp only)
   first | (refine hK.out _ _ ?_ (fun hHeld=>?_)) | (go_wp2_with fail;refine hK.out _ _ ?_ (fun hHeld=>?_))
   · (try dsimp only)
     exact ⟨HU2k.out.c0,HU2k.out.c1,HU2k.out.c2,HU2k.out.c3,HU2k.out.c4,HZk.out.c0⟩
   clear hK K
   (try simp only [List.getElem_toArray,List.getElem_cons_zero,List.getElem_cons_succ,Act.put,List.setIfInBounds_toArray,List.set_cons_zero,List.set_cons_succ])
   refine wpAnyH_done (by kernel_rfl) ?_ _
   refine NoPanic.normal ?_
   go_wp2_with fail
   go_end0
   exact ⟨rfl,cast (congrArg (Pr wk b) (by simp only [List.append_assoc,List.cons_append,List.nil_append,Bool.false_or])) HPk.out,HFk.out⟩
 | true=>
   have HSV:=hid (fun W=>HSU2.out W)
   rw [hsy] at HSV
   rw [hsy] at HN
   have HSY:=hid hsy
   clear hsy
   have HN2:=hid (show ((l ++ rend (parP ex.isSum (pcE ex)) ++ ([32] ++ kStar ++ [32])) ++ rend (parP true (pcE ey))).length ≤ 10000000000000 by have h:=HN.out;first | (simpa [Bool.true_or,Bool.false_or] using h))
   refine wp_region_noPanic ?_
   refine wp_region_held_drew (S:=fun W=>(W.cell? ⟨u2,0,none⟩ = some (.string o2) ∧ W.cell? ⟨u2,1,none⟩ = some (.int .i64 m2) ∧ W.cell? ⟨u2,2,none⟩ = some (.string t2) ∧ W.cell? ⟨u2,3,none⟩ = some (.int .i64 a2) ∧ W.cell? ⟨u2,4,none⟩ = some (.slice A2 n2 d2) ∧ W.cell? ⟨z,0,none⟩ = some (.string ⟨#[42]⟩))) (by kernel_rfl) ?_ (fun hHeld=>?_)
   · (try dsimp only)
     exact ⟨HU2h.out.c0,HU2h.out.c1,HU2h.out.c2,HU2h.out.c3,HU2h.out.c4,HZh.out.c0⟩
   generalize wg.drew = wh at *
   apply tkH 0
   apply tkH 1
   apply tkH 2
   refine wpAnyH_ready (rs:=[3]) (by kernel_rfl) (by simp) ?_
   refine AllReadyH.cons rfl (fun K hK=>?_) AllReadyH.nil
   go_simp
   refine (HSV.out wh).mono ?_
   rintro e wi ⟨rfl,hbg⟩
   have HPi:=hid (HPh.out.later hbg)
   have HFi:=hid (HFh.out.trans (Fb.of hbg))
   have HTBi:=hid (HTBh.out.on hbg (Nat.le_of_lt hsh))
   have HTxi:=hid (HTxh.out.keep fun g hg=>hbg.block g (Nat.lt_trans (HX.out g hg) hsh))
   have HTyi:=hid (HTyh.out.keep fun g hg=>hbg.block g (Nat.lt_trans (HX.out g hg) hsh))
   have HZi:=hid (HZh.out.far (hbg.block z (Array.getElem?_eq_some_iff.1 HZh.out).1))
   have HU1i:=hid (HU1h.out.far (hbg.block u1 (Array.getElem?_eq_some_iff.1 HU1h.out).1))
   have HU2i:=hid (HU2h.out.far (hbg.block u2 (Array.getElem?_eq_some_iff.1 HU2h.out).1))
   have hsi:=Nat.lt_of_lt_of_le hsh hbg.size
   clear hbg hsh HPh HFh HTBh HZh HTxh HTyh HU1h HU2h
   (try dsimp only)
   first | (refine hK.out _ _ ?_ (fun hHeld=>?_)) | (go_wp2_with fail;refine hK.out _ _ ?_ (fun hHeld=>?_))
   · (try dsimp only)
     exact ⟨HU2i.out.c0,HU2i.out.c1,HU2i.out.c2,HU2i.out.c3,HU2i.out.c4,HZi.out.c0⟩
   clear hK K
   (try simp only [List.getElem_toArray,List.getElem_cons_zero,List.getElem_cons_succ,Act.put,List.setIfInBounds_toArray,List.set_cons_zero,List.set_cons_succ])
   apply tkH 4
   apply tkN 5
   apply tkN 6
   apply tkN 7
   apply tkN 8
   apply tkN 9
   apply tkN 10
   apply tkN 11
   apply tkH 12
   refine wpAnyH_ready (rs:=[13]) (by kernel_rfl) (by simp) ?_
   refine AllReadyH.cons rfl (fun K hK=>?_) AllReadyH.nil
   go_simp
   refine (HO2.out true b (l ++ rend (parP ex.isSum (pcE ex)) ++ ([32] ++ kStar ++ [32])) wi o2 t2 m2 a2 A2 n2 d2 X HPi.out HTBi.out HTyi.out HX.out HW2.out HN2.out).mono ?_
   rintro e wk ⟨rfl,hp,hf⟩
   have HPk:=hid hp
   have HFk:=hid (HFi.out.trans hf)
   have HTBk:=hid (HTBi.out.fb hf (Nat.le_of_lt hsi))
   have HTxk:=hid (HTxi.out.keep fun g hg=>(hf.low (Nat.le_of_lt hsi)).block g (HX.out g hg))
   have HTyk:=hid (HTyi.out.keep fun g hg=>(hf.low (Nat.le_of_lt hsi)).block g (HX.out g hg))
   have HZk:=hid (show EB wk z (.string ⟨#[42]⟩) (.int .i64 m) (.string t) (.int .i64 a) (.slice (some ⟨ab,0,none⟩) 2 d) from hf.keep HZi.out (by decide) (by omega))
   have HU1k:=hid (show EB wk u1 (.string o1) (.int .i64 m1) (.string t1) (.int .i64 a1) (.slice A1 n1 d1) from hf.keep HU1i.out (by decide) (by omega))
   have HU2k:=hid (show EB wk u2 (.string o2) (.int .i64 m2) (.string t2) (.int .i64 a2) (.slice A2 n2 d2) from hf.keep HU2i.out (by decide) (by omega))
   have hsk : b < wk.heap.size:=Nat.lt_of_lt_of_le hsi hf.size
   clear hp hf hsi HPi HFi HTBi HZi HTxi HTyi HU1i HU2i
   (try dsimp only)
   first | (refine hK.out _ _ ?_ (fun hHeld=>?_)) | (go_wp2_with fail;refine hK.out _ _ ?_ (fun hHeld=>?_))
   · (try dsimp only)
     exact ⟨HU2k.out.c0,HU2k.out.c1,HU2k.out.c2,HU2k.out.c3,HU2k.out.c4,HZk.out.c0⟩
   clear hK K
   (try simp only [List.getElem_toArray,List.getElem_cons_zero,List.getElem_cons_succ,Act.put,List.setIfInBounds_toArray,List.set_cons_zero,List.set_cons_succ])
   refine wpAnyH_done (by kernel_rfl) ?_ _
   refine NoPanic.normal ?_
   go_wp2_with fail
   go_end0
   exact ⟨rfl,cast (congrArg (Pr wk b) (by simp only [List.append_assoc,List.cons_append,List.nil_append,Bool.true_or])) HPk.out,HFk.out⟩
theorem expr_pr (e : Ex) : PxP e:=by
 suffices h : ∀ n (e : Ex),SizeOf.sizeOf e ≤ n → PxP e from h (SizeOf.sizeOf e) e (Nat.le_refl _)
 intro n
 induction n with
 | zero=>intro e he;cases e <;> simp at he
 | succ n ih=>
   intro e he
   cases e with
   | none=>intro b l w o t m a A n d X _ _ _ _ hw;cases hw
   | num v=>exact px_num v
   | name x=>exact px_name x
   | text x=>exact px_text x
   | join l=>exact px_join fun e hm=>ih e (by have:=List.sizeOf_lt_of_mem hm;simp at he;omega)
   | bin o x y=>
     intro b l w o' t m a A n' d X h hT ht hX hw hl
     have h1:=ih x (by simp at he;omega)
     have h2:=ih y (by simp at he;omega)
     rcases hw.1 with rfl | rfl | rfl
     · exact px_bin_kPlus h1 h2 b l w o' t m a A n' d X h hT ht hX hw hl
     · exact px_bin_kMinus h1 h2 b l w o' t m a A n' d X h hT ht hX hw hl
     · exact px_bin_kStar h1 h2 b l w o' t m a A n' d X h hT ht hX hw hl
theorem operand_pr (e : Ex) : PoP e:=operand_of (expr_pr e)
end
end Go.Proofs.YtgmjpnnblhkbpaaDoor
