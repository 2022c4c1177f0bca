/-
  The parser's body, given stmt for what is left. No conditions.
-/
import Derived.Test.YtgmjpnnblhkbpaaDoorTwYM
namespace Go.Proofs.YtgmjpnnblhkbpaaDoor
open Go Go.RowKit Go.Sh Tx
theorem mu_le {s s1 : PS} (hs : Suf s1.1 s.1) (ho : s1.2 = 0 → s.2 = 0) : mu s1 ≤ mu s:=by
 obtain ⟨x,hx⟩:=hs
 unfold mu
 by_cases h0 : s1.2 = 0
 · rw [if_pos h0,if_pos (ho h0),hx,List.length_append];omega
 · rw [if_neg h0];exact Nat.zero_le _
theorem mu_runS {b : Nat} {c : CallS} {l : List St} {s : PS} (h : RunS b c l s) : mu s ≤ mu c.st:=mu_le h.suf h.ok
theorem mu_ref (s : PS) : mu (refS s).2 ≤ mu s:=mu_le refS_suf fun h=>(refS_ok h).1
theorem mu_line {k : Bs} {s s2 : PS} {t : St} (h : LineR k s t s2) : mu s2 ≤ mu s:=mu_le h.suf h.ok
theorem mu_pos {s : PS} (h : s.2 = 0) : 0 < mu s:=by rw [mu,if_pos h];exact Nat.succ_pos _
theorem mu_bad {s : PS} (h : s.2 ≠ 0) : mu s = 0:=by rw [mu,if_neg h]
theorem stmt_lt {b : Nat} {s s1 : PS} {l : List St} (h : RunS b (.stmt s) l s1) (h0 : s.2 = 0) : mu s1 < mu s:=by
 have key : ∀ s',sees s kinds = true → mu s' ≤ mu (nx s) → mu s' < mu s:=fun s' h1 h2=>Nat.lt_of_le_of_lt h2 (mu_nx (seen_some h1) (seen_ok h1))
 cases h with
 | bad _=>rw [mu_bad (mu_fail s (by decide)).2];exact mu_pos h0
 | after h1 _ a l=>exact key _ h1 (Nat.le_trans (mu_runS l) (mu_run a))
 | rpt h1 _ a l=>exact key _ h1 (Nat.le_trans (mu_runS l) (Nat.le_trans (mu_run a) (mu_ref _)))
 | ifOne h1 _ l _=>exact key _ h1 (Nat.le_trans (mu_runS l) (Nat.le_trans (mu_ref _) (mu_take _ _)))
 | ifTwo h1 _ l h4 m=>
   refine key _ h1 (Nat.le_trans (mu_runS m) (Nat.le_trans (Nat.le_of_lt (mu_nx (seen_some h4) (seen_ok h4))) (Nat.le_trans (mu_runS l) (Nat.le_trans (mu_ref _) (mu_take _ _)))))
 | line h1 _ _ _ a=>exact key _ h1 (Nat.le_trans (mu_take _ _) (mu_line a))
theorem mu_body_lt {b : Nat} {s : PS} (h : (bodyS b s).2 = 0) : mu (bodyS b s) < mu s:=by
 obtain ⟨h1,h2,_,h4⟩:=bodyS_ok h
 rw [h4]
 have hs : sees s [kLb] = true:=by rw [sees,decide_eq_true h1,h2];rfl
 exact mu_nx (seen_some hs) h1
def StmtPost (p q b : Nat) (s : PS) (w : World) (e : Ending) (w' : World) : Prop:=
 ∃ (t : St) (s' : PS) (cs : List Value),RunS b (.stmt s) [t] s' ∧ e = .returned (.agg cs.toArray) ∧ StV (Fr w w') w' [t] [cs] ∧ Ps w' p q s' b 0 ∧ Kx q p w.heap.size w w'
def StmtOK (p q n : Nat) : Prop:=∀ (b : Nat) (s : PS) (w : World),mu s ≤ n → (s.2 = 0 → b ≤ 12) → Ps w p q s b 0 → Calls Tryd.prog 17 #[.pointer (some ⟨p,0,none⟩)] w (StmtPost p q b s w)
def BodyPost (p q b : Nat) (s : PS) (w : World) (e : Ending) (w' : World) : Prop:=
 ∃ (l : List St) (s' : PS) (A : Option Addr) (n d : Nat) (css : List (List Value)),RunS b (.body s) l s' ∧ e = .returned (.slice A n d) ∧ StV (Fr w w') w' l css ∧ RP (Fr w w') w' 26 A n css ∧ n ≤ d ∧ Ps w' p q s' b 0 ∧ Kx q p w.heap.size w w'
def BodyOK (p q n : Nat) : Prop:=∀ (b : Nat) (s : PS) (w : World),mu s ≤ n → (s.2 = 0 → b ≤ 12) → b ≤ 12 → Ps w p q s b 0 → Calls Tryd.prog 38 #[.pointer (some ⟨p,0,none⟩)] w (BodyPost p q b s w)
def mF (p q : Nat) (w : World) : Nat:=
 match w.cell? ⟨p,1,none⟩ with
 | some (.int _ e)=>if e = 0 then mW q w else 0
 | _=>0
theorem mF_of {w : World} {p q b k : Nat} {s : PS} (h : Ps w p q s b k) : mF p q w = mu s:=by
 unfold mF mu
 rw [h.c1]
 simp only
 rw [mW_of h.stm]
set_option maxRecDepth 100000 in
theorem TTs : STy Tryd.prog 23 64 (.agg #[.string .empty,.int .i64 0,.string .empty,.int .i64 0,.string .empty,.int .i64 0,.string .empty,.int .i64 0,.slice none 0 0,.string .empty,.int .i64 0,.string .empty,.int .i64 0,.slice none 0 0,.string .empty,.int .i64 0,.string .empty,.int .i64 0,.slice none 0 0,.slice none 0 0,.string .empty,.int .i64 0,.string .empty,.int .i64 0,.slice none 0 0,.slice none 0 0]) 26 384:=⟨Tryd.underlying23,by kernel_rfl,rfl,by decide⟩
end Go.Proofs.YtgmjpnnblhkbpaaDoor
namespace Go.Proofs.YtgmjpnnblhkbpaaDoor
open Go Go.RowKit Go.Sh Tx
open Go.Lib (hid)
section
set_option maxHeartbeats 16000000
set_option maxRecDepth 100000
set_option maxRecDepth 100000 in
theorem body_ok (p q n : Nat) (hst : ∀ m,m < n → StmtOK p q m) : BodyOK p q n:=by
 intro b s w hmu hb0 hb12 h
 have hp:=h.size
 have hqp:=h.lt
 have HPS:=hid h
 have HMU:=hid hmu
 have HST:=hid hst
 have hb1 : Below w.heap.size w (w.alloc (.cells #[.string ⟨#[123]⟩] 9)):=(Below.refl _ w).alloc (Nat.le_refl _) _
 have HSE:=hid (show Calls Tryd.prog 13 #[.pointer (some ⟨p,0,none⟩),.slice (some ⟨w.heap.size,0,none⟩) 1 1] (w.alloc (.cells #[.string ⟨#[123]⟩] 9)) (fun e w'=>e = .returned (.bool (sees s [kLb])) ∧ Below (w.alloc (.cells #[.string ⟨#[123]⟩] 9)).heap.size (w.alloc (.cells #[.string ⟨#[123]⟩] 9)) w') from sees_any p q b 0 s (some ⟨w.heap.size,0,none⟩) 1 [kLb] _ (h.below hp hb1) (RS.new w [kLb]) (Nat.le_add_left 1 99))
 have HZ1:=hid (show (w.alloc (.cells #[.string ⟨#[123]⟩] 9)).heap.size = w.heap.size + 1 from Array.size_push _)
 have HB1:=hid hb1
 have HTK:=hid (fun (s : PS) W (hs : Ps W p q s b 0)=>(show Calls Tryd.prog 32 #[.pointer (some ⟨p,0,none⟩),.string ⟨#[123]⟩] W _ from take_any p q b 0 s kLb W hs))
 have HFA:=hid (fun W (hs : Ps W p q s b 0)=>fail_any p q b 0 s 11 W hs)
 have HOS:=hid (show bodyS b s = takeS (if sees s [kLb] && decide (b = 12) then failS s 11 else s) kLb from rfl)
 have hw : IntKind.i64.wrap ((b : Int) + 1) = ((b + 1 : Nat) : Int):=by rw [IntKind.wrap_i64];omega
 have hw2 : IntKind.i64.wrap (((b + 1 : Nat) : Int) - 1) = (b : Int):=by rw [IntKind.wrap_i64];omega
 have HB12:=hid hb12
 clear h hb1 hmu hst hb0
 obtain ⟨R,hR⟩ : ∃ R,sees s [kLb] = R:=⟨_,rfl⟩
 rw [hR] at HSE HOS
 clear hR
 cases hc : (R && decide (b = 12)) with
 | true=>
   rw [Bool.and_eq_true,decide_eq_true_eq] at hc
   obtain ⟨hR,hk⟩:=hc
   have HE:=hid (show bodyS b s = takeS (failS s 11) kLb by rw [HOS.out,hR,decide_eq_true hk];rfl)
   have hk2 : ((b : Int) == 12) = true:=beq_iff_eq.2 (by omega)
   clear hk HOS
   rw [hR] at HSE
   clear hR
   go_enter Tryd.func38,Tryd.ntmps38
   go_wp2_with fail
   refine HSE.out.mono ?_
   rintro e w2 ⟨rfl,hb2⟩
   have HB2:=hid (HB1.out.trans (bl_least hb2 (by rw [HZ1.out];omega)))
   have HP2:=hid (HPS.out.below hp HB2.out)
   have c3:=HP2.out.c3
   clear hb2
   go_wp2_with fail
   refine (HFA.out w2 HP2.out).mono ?_
   rintro e w3 ⟨rfl,hp3,hk3⟩
   have HP3:=hid hp3
   have HK3:=hid ((Kx.of HB2.out (Nat.le_refl _)).trans (hk3.least HB2.out.size))
   clear hp3 hk3 c3 HP2
   go_wp2_with fail
   refine (HTK.out _ w3 HP3.out).mono ?_
   rintro e w4 ⟨rfl,hp4,hk4⟩
   have HP4:=hid hp4
   have HK4:=hid (HK3.out.trans (hk4.least HK3.out.size))
   have d4:=hp4.c3
   have f4:=hp4.free 3
   clear hp4 hk4 HP3 HK3
   have HLT:=hid (fun h=>mu_body_lt (b:=b) (s:=s) h)
   have HOK:=hid (fun h=>bodyS_ok (b:=b) (s:=s) h)
   rw [← HE.out] at HP4
   obtain ⟨s4,hs4⟩ : ∃ s4,bodyS b s = s4:=⟨_,rfl⟩
   rw [hs4] at HP4 HLT HOK
   have HS4:=hid hs4
   clear hs4
   go_upto_region 5 with fail
   have HP5:=hid (show Ps (w4.setCell ⟨p,3,none⟩ (.int .i64 ((b : Int) + 1))) p q s4 (b + 1) 0 from HP4.out.bodies (b + 1) (by omega))
   have HK5:=hid (HK4.out.set (p:=p) (i:=3) (.inr (.inl rfl)) (.int .i64 ((b : Int) + 1)))
   have hz5 : w.heap.size ≤ (w4.setCell ⟨p,3,none⟩ (.int .i64 ((b : Int) + 1))).heap.size:=HK5.out.size
   clear HP4 HK4 d4 f4
   generalize w4.setCell ⟨p,3,none⟩ (.int .i64 ((b : Int) + 1)) = w5 at *
   go_wp2_with fail
   go_loopw [3] (fun v wr=>∃ (l : List St) (s' : PS) (A : Option Addr) (n' c' : Nat),v = .slice A n' c' ∧ (s'.2 = 0 → mu s' < n ∧ b + 1 ≤ 12) ∧ n' + mu s' ≤ 8002 ∧ (∀ l2 s2,RunS (b + 1) (.stmts l s') l2 s2 → RunS b (.body s) l2 (takeS s2 kRb)) ∧ TL stR 64 w.heap.size wr (.slice A n' c') n' l ∧ Ps wr p q s' (b + 1) 0 ∧ Kx q p w.heap.size w wr ∧ w.heap.size ≤ wr.heap.size) (fun _ wr=>mF p q wr)
   case atStart=>
     have hbd:=HP5.out.stm.bound
     refine ⟨[],s4,none,0,0,rfl,fun h=>⟨Nat.lt_of_lt_of_le (HLT.out h) HMU.out,by have:=(HOK.out h).2.2.1;have:=HB12.out;omega⟩,?_,fun l2 s2 h=>.body (by rw [HS4.out];exact h),TL.nil,HP5.out,HK5.out,hz5⟩
     rw [mu]
     split <;> omega
   case round=>
     obtain ⟨l,s1,A,n',c',hv,hok,hbd,hc,htl,hp1,hk1,hz⟩:=hrel
     subst hv
     have HON:=hid hok
     have HBD:=hid hbd
     have HC:=hid hc
     have HTL:=hid htl
     have HP:=hid hp1
     have HK:=hid hk1
     have HZR:=hid hz
     have HMF:=hid (mF_of hp1)
     have HOKC:=hid (ok_any p q (b + 1) 0 s1 wr hp1)
     clear hok hbd hc htl hp1 hk1 hz HP5 HK5 hz5 HLT HOK HS4
     cases hs0 : (s1.2 == 0) with
     | false=>
       rw [hs0] at HOKC
       have hne : s1.2 ≠ 0:=beq_eq_false_iff_ne.1 hs0
       have HNE:=hid hne
       clear hs0 hne
       go_wp2_with (go_at_call 15;refine HOKC.out.mono ?_;rintro e w6 ⟨rfl,rfl⟩)
       go_wp2_with fail
       refine (show Calls Tryd.prog 32 #[.pointer (some ⟨p,0,none⟩),.string ⟨#[125]⟩] w6 _ from take_any p q (b + 1) 0 s1 kRb w6 HP.out).mono ?_
       rintro e w8 ⟨rfl,hp8,hk8⟩
       have HP8:=hid hp8
       have c8:=hp8.c3
       have f8:=hp8.free 3
       have HTL8:=hid (HTL.out.kx hk8 (Nat.le_refl _) (show q < w.heap.size by omega) hp)
       have HK8:=hid (HK.out.trans (hk8.least HZR.out))
       clear hp8 hk8
       go_wp2_with fail
       go_ret
       have htl9:=HTL8.out.keep (w1:=w8.setCell ⟨p,3,none⟩ (.int .i64 (b : Int))) (by exact ((Below.refl p w8).setCell (p:=⟨p,3,none⟩) (Nat.le_refl _) _).size) (fun g hg _=>Below.heap_setCell w8 ⟨p,3,none⟩ _ g (by show g ≠ p;omega))
       obtain ⟨css,hrp,hrv,hnc⟩:=htl9.done (w0:=w) (Nat.le_refl _)
       exact ⟨l,_,A,n',c',css,HC.out _ _ (.stmtsBad HNE.out),rfl,hrv,hrp,hnc,HP8.out.bodies b (by have:=HB12.out;omega),HK8.out.set (p:=p) (i:=3) (.inr (.inl rfl)) _⟩
     | true=>
       rw [hs0] at HOKC
       have hne : s1.2 = 0:=beq_iff_eq.1 hs0
       have HNE:=hid hne
       clear hs0 hne
       have hb1 : Below wr.heap.size wr (wr.alloc (.cells #[.string ⟨#[125]⟩] 9)):=(Below.refl _ wr).alloc (Nat.le_refl _) _
       have hl1 : (wr.alloc (.cells #[.string ⟨#[125]⟩] 9)).heap.size = wr.heap.size + 1:=Array.size_push _
       have HB1':=hid hb1
       have HSE':=hid (show Calls Tryd.prog 13 #[.pointer (some ⟨p,0,none⟩),.slice (some ⟨wr.heap.size,0,none⟩) 1 1] (wr.alloc (.cells #[.string ⟨#[125]⟩] 9)) (fun e w'=>e = .returned (.bool (sees s1 [kRb])) ∧ Below (wr.alloc (.cells #[.string ⟨#[125]⟩] 9)).heap.size (wr.alloc (.cells #[.string ⟨#[125]⟩] 9)) w') from sees_any p q (b + 1) 0 s1 (some ⟨wr.heap.size,0,none⟩) 1 [kRb] _ (HP.out.below HP.out.size hb1) (RS.new wr [kRb]) (Nat.le_add_left 1 99))
       clear hb1
       go_wp2_with (go_at_call 15;refine HOKC.out.mono ?_;rintro e w6 ⟨rfl,rfl⟩)
       refine HSE'.out.mono ?_
       rintro e w7 ⟨rfl,hb7⟩
       have HB7:=hid (HB1'.out.trans (bl_least hb7 (by rw [hl1];omega)))
       have HP7:=hid (HP.out.below HP.out.size HB7.out)
       have HTL7:=hid (HTL.out.keep HB7.out.size fun g _ hg=>HB7.out.block g hg)
       have HK7:=hid (HK.out.trans (Kx.of HB7.out HZR.out))
       have HZ7:=hid (Nat.le_trans HZR.out HB7.out.size)
       clear hb7 HB7 HB1' HSE' hl1
       cases hse : sees s1 [kRb] with
       | true=>
         go_wp2_with fail
         refine (show Calls Tryd.prog 32 #[.pointer (some ⟨p,0,none⟩),.string ⟨#[125]⟩] w7 _ from take_any p q (b + 1) 0 s1 kRb w7 HP7.out).mono ?_
         rintro e w8 ⟨rfl,hp8,hk8⟩
         have HP8:=hid hp8
         have c8:=hp8.c3
         have f8:=hp8.free 3
         have HTL8:=hid (HTL7.out.kx hk8 (Nat.le_refl _) (show q < w.heap.size by omega) hp)
         have HK8:=hid (HK7.out.trans (hk8.least HZ7.out))
         clear hp8 hk8
         go_wp2_with fail
         go_ret
         have htl9:=HTL8.out.keep (w1:=w8.setCell ⟨p,3,none⟩ (.int .i64 (b : Int))) (by exact ((Below.refl p w8).setCell (p:=⟨p,3,none⟩) (Nat.le_refl _) _).size) (fun g hg _=>Below.heap_setCell w8 ⟨p,3,none⟩ _ g (by show g ≠ p;omega))
         obtain ⟨css,hrp,hrv,hnc⟩:=htl9.done (w0:=w) (Nat.le_refl _)
         exact ⟨l,_,A,n',c',css,HC.out _ _ (.stmtsEnd HNE.out hse),rfl,hrv,hrp,hnc,HP8.out.bodies b (by have:=HB12.out;omega),HK8.out.set (p:=p) (i:=3) (.inr (.inl rfl)) _⟩
       | false=>
         have HSC:=hid (HST.out (mu s1) (HON.out HNE.out).1 (b + 1) s1 w7 (Nat.le_refl _) (fun h=>(HON.out h).2) HP7.out)
         go_wp2_with fail
         refine HSC.out.mono ?_
         rintro e w9 ⟨t,s2,cs,hr,rfl,hst9,hp9,hk9⟩
         have hcl : cs.length = 26:=hst9.size cs (List.mem_singleton.2 rfl)
         obtain ⟨A3,c3,w10,hrun,htl10,hbl10,hs10⟩:=TL.push (K:=stR) (p:=p) (q:=q) 23 TTs (by decide) HTL7.out hk9 (show q < w.heap.size by omega) hp HZ7.out (by have:=HBD.out;omega) hst9
         have HR:=hid hr
         have HP10:=hid (hp9.below hp hbl10)
         have HK10:=hid ((HK7.out.trans (hk9.least HZ7.out)).trans (Kx.of hbl10 (Nat.le_refl _)))
         have HTL10:=hid htl10
         have HZ10:=hid (show w.heap.size ≤ w10.heap.size from Nat.le_trans (Nat.le_trans HZ7.out hk9.size) hs10)
         have HRUN:=hid hrun
         have HLT:=hid (stmt_lt hr HNE.out)
         clear hr hst9 hp9 hk9 htl10 hbl10 hs10 hrun HP7 HTL7 HK7 HTL HP HK HSC
         go_wp2_with (first | (refine wl_bs1 TTs rfl (.tmp 35) rfl cs.toArray rfl (by rw [List.size_toArray,hcl]) (by decide) ?_) | (refine wl_step (by rfl) fun _ hK=>Lib.wp_append_run _ (.tmp 33) (.tmp 36) 23 23 rfl _ _ rfl rfl _ _ HRUN.out (hK _ _ ?_)))
         refine ⟨⟨l ++ [t],s2,A3,n' + 1,c3,rfl,fun h=>⟨Nat.lt_trans HLT.out (HON.out HNE.out).1,(HON.out HNE.out).2⟩,by have:=HBD.out;have:=HLT.out;omega,fun l2 s3 h=>HC.out _ _ (.stmtsGo HNE.out hse HR.out h),HTL10.out,HP10.out,HK10.out,HZ10.out⟩,?_⟩
         rw [mF_of HP10.out,HMF.out]
         exact HLT.out
 | false=>
   have HE:=hid (show bodyS b s = takeS s kLb by rw [HOS.out,hc];rfl)
   clear HOS
   have rest : ∀ (Q : Prop),((R = false) → Q) → ((R = true ∧ ((b : Int) == 12) = false) → Q) → Q:=fun Q h1 h2=>by
     cases R with
     | false=>exact h1 rfl
     | true=>
       rw [Bool.true_and,decide_eq_false_iff_not] at hc
       exact h2 ⟨rfl,beq_eq_false_iff_ne.2 (by omega)⟩
   clear hc
   refine rest _ (fun hR=>?_) (fun hR=>?_)
   · rw [hR] at HSE
     clear hR rest
     go_enter Tryd.func38,Tryd.ntmps38
     go_wp2_with fail
     refine HSE.out.mono ?_
     rintro e w2 ⟨rfl,hb2⟩
     have HB2:=hid (HB1.out.trans (bl_least hb2 (by rw [HZ1.out];omega)))
     have HP2:=hid (HPS.out.below hp HB2.out)
     clear hb2
     go_wp2_with fail
     refine (HTK.out _ w2 HP2.out).mono ?_
     rintro e w4 ⟨rfl,hp4,hk4⟩
     have HP4:=hid hp4
     have HK4:=hid ((Kx.of HB2.out (Nat.le_refl _)).trans (hk4.least HB2.out.size))
     have d4:=hp4.c3
     have f4:=hp4.free 3
     clear hp4 hk4 HP2
     have HLT:=hid (fun h=>mu_body_lt (b:=b) (s:=s) h)
     have HOK:=hid (fun h=>bodyS_ok (b:=b) (s:=s) h)
     rw [← HE.out] at HP4
     obtain ⟨s4,hs4⟩ : ∃ s4,bodyS b s = s4:=⟨_,rfl⟩
     rw [hs4] at HP4 HLT HOK
     have HS4:=hid hs4
     clear hs4
     go_upto_region 5 with fail
     have HP5:=hid (show Ps (w4.setCell ⟨p,3,none⟩ (.int .i64 ((b : Int) + 1))) p q s4 (b + 1) 0 from HP4.out.bodies (b + 1) (by omega))
     have HK5:=hid (HK4.out.set (p:=p) (i:=3) (.inr (.inl rfl)) (.int .i64 ((b : Int) + 1)))
     have hz5 : w.heap.size ≤ (w4.setCell ⟨p,3,none⟩ (.int .i64 ((b : Int) + 1))).heap.size:=HK5.out.size
     clear HP4 HK4 d4 f4
     generalize w4.setCell ⟨p,3,none⟩ (.int .i64 ((b : Int) + 1)) = w5 at *
     go_wp2_with fail
     go_loopw [3] (fun v wr=>∃ (l : List St) (s' : PS) (A : Option Addr) (n' c' : Nat),v = .slice A n' c' ∧ (s'.2 = 0 → mu s' < n ∧ b + 1 ≤ 12) ∧ n' + mu s' ≤ 8002 ∧ (∀ l2 s2,RunS (b + 1) (.stmts l s') l2 s2 → RunS b (.body s) l2 (takeS s2 kRb)) ∧ TL stR 64 w.heap.size wr (.slice A n' c') n' l ∧ Ps wr p q s' (b + 1) 0 ∧ Kx q p w.heap.size w wr ∧ w.heap.size ≤ wr.heap.size) (fun _ wr=>mF p q wr)
     case atStart=>
       have hbd:=HP5.out.stm.bound
       refine ⟨[],s4,none,0,0,rfl,fun h=>⟨Nat.lt_of_lt_of_le (HLT.out h) HMU.out,by have:=(HOK.out h).2.2.1;have:=HB12.out;omega⟩,?_,fun l2 s2 h=>.body (by rw [HS4.out];exact h),TL.nil,HP5.out,HK5.out,hz5⟩
       rw [mu]
       split <;> omega
     case round=>
       obtain ⟨l,s1,A,n',c',hv,hok,hbd,hc,htl,hp1,hk1,hz⟩:=hrel
       subst hv
       have HON:=hid hok
       have HBD:=hid hbd
       have HC:=hid hc
       have HTL:=hid htl
       have HP:=hid hp1
       have HK:=hid hk1
       have HZR:=hid hz
       have HMF:=hid (mF_of hp1)
       have HOKC:=hid (ok_any p q (b + 1) 0 s1 wr hp1)
       clear hok hbd hc htl hp1 hk1 hz HP5 HK5 hz5 HLT HOK HS4
       cases hs0 : (s1.2 == 0) with
       | false=>
         rw [hs0] at HOKC
         have hne : s1.2 ≠ 0:=beq_eq_false_iff_ne.1 hs0
         have HNE:=hid hne
         clear hs0 hne
         go_wp2_with (go_at_call 15;refine HOKC.out.mono ?_;rintro e w6 ⟨rfl,rfl⟩)
         go_wp2_with fail
         refine (show Calls Tryd.prog 32 #[.pointer (some ⟨p,0,none⟩),.string ⟨#[125]⟩] w6 _ from take_any p q (b + 1) 0 s1 kRb w6 HP.out).mono ?_
         rintro e w8 ⟨rfl,hp8,hk8⟩
         have HP8:=hid hp8
         have c8:=hp8.c3
         have f8:=hp8.free 3
         have HTL8:=hid (HTL.out.kx hk8 (Nat.le_refl _) (show q < w.heap.size by omega) hp)
         have HK8:=hid (HK.out.trans (hk8.least HZR.out))
         clear hp8 hk8
         go_wp2_with fail
         go_ret
         have htl9:=HTL8.out.keep (w1:=w8.setCell ⟨p,3,none⟩ (.int .i64 (b : Int))) (by exact ((Below.refl p w8).setCell (p:=⟨p,3,none⟩) (Nat.le_refl _) _).size) (fun g hg _=>Below.heap_setCell w8 ⟨p,3,none⟩ _ g (by show g ≠ p;omega))
         obtain ⟨css,hrp,hrv,hnc⟩:=htl9.done (w0:=w) (Nat.le_refl _)
         exact ⟨l,_,A,n',c',css,HC.out _ _ (.stmtsBad HNE.out),rfl,hrv,hrp,hnc,HP8.out.bodies b (by have:=HB12.out;omega),HK8.out.set (p:=p) (i:=3) (.inr (.inl rfl)) _⟩
       | true=>
         rw [hs0] at HOKC
         have hne : s1.2 = 0:=beq_iff_eq.1 hs0
         have HNE:=hid hne
         clear hs0 hne
         have hb1 : Below wr.heap.size wr (wr.alloc (.cells #[.string ⟨#[125]⟩] 9)):=(Below.refl _ wr).alloc (Nat.le_refl _) _
         have hl1 : (wr.alloc (.cells #[.string ⟨#[125]⟩] 9)).heap.size = wr.heap.size + 1:=Array.size_push _
         have HB1':=hid hb1
         have HSE':=hid (show Calls Tryd.prog 13 #[.pointer (some ⟨p,0,none⟩),.slice (some ⟨wr.heap.size,0,none⟩) 1 1] (wr.alloc (.cells #[.string ⟨#[125]⟩] 9)) (fun e w'=>e = .returned (.bool (sees s1 [kRb])) ∧ Below (wr.alloc (.cells #[.string ⟨#[125]⟩] 9)).heap.size (wr.alloc (.cells #[.string ⟨#[125]⟩] 9)) w') from sees_any p q (b + 1) 0 s1 (some ⟨wr.heap.size,0,none⟩) 1 [kRb] _ (HP.out.below HP.out.size hb1) (RS.new wr [kRb]) (Nat.le_add_left 1 99))
         clear hb1
         go_wp2_with (go_at_call 15;refine HOKC.out.mono ?_;rintro e w6 ⟨rfl,rfl⟩)
         refine HSE'.out.mono ?_
         rintro e w7 ⟨rfl,hb7⟩
         have HB7:=hid (HB1'.out.trans (bl_least hb7 (by rw [hl1];omega)))
         have HP7:=hid (HP.out.below HP.out.size HB7.out)
         have HTL7:=hid (HTL.out.keep HB7.out.size fun g _ hg=>HB7.out.block g hg)
         have HK7:=hid (HK.out.trans (Kx.of HB7.out HZR.out))
         have HZ7:=hid (Nat.le_trans HZR.out HB7.out.size)
         clear hb7 HB7 HB1' HSE' hl1
         cases hse : sees s1 [kRb] with
         | true=>
           go_wp2_with fail
           refine (show Calls Tryd.prog 32 #[.pointer (some ⟨p,0,none⟩),.string ⟨#[125]⟩] w7 _ from take_any p q (b + 1) 0 s1 kRb w7 HP7.out).mono ?_
           rintro e w8 ⟨rfl,hp8,hk8⟩
           have HP8:=hid hp8
           have c8:=hp8.c3
           have f8:=hp8.free 3
           have HTL8:=hid (HTL7.out.kx hk8 (Nat.le_refl _) (show q < w.heap.size by omega) hp)
           have HK8:=hid (HK7.out.trans (hk8.least HZ7.out))
           clear hp8 hk8
           go_wp2_with fail
           go_ret
           have htl9:=HTL8.out.keep (w1:=w8.setCell ⟨p,3,none⟩ (.int .i64 (b : Int))) (by exact ((Below.refl p w8).setCell (p:=⟨p,3,none⟩) (Nat.le_refl _) _).size) (fun g hg _=>Below.heap_setCell w8 ⟨p,3,none⟩ _ g (by show g ≠ p;omega))
           obtain ⟨css,hrp,hrv,hnc⟩:=htl9.done (w0:=w) (Nat.le_refl _)
           exact ⟨l,_,A,n',c',css,HC.out _ _ (.stmtsEnd HNE.out hse),rfl,hrv,hrp,hnc,HP8.out.bodies b (by have:=HB12.out;omega),HK8.out.set (p:=p) (i:=3) (.inr (.inl rfl)) _⟩
         | false=>
           have HSC:=hid (HST.out (mu s1) (HON.out HNE.out).1 (b + 1) s1 w7 (Nat.le_refl _) (fun h=>(HON.out h).2) HP7.out)
           go_wp2_with fail
           refine HSC.out.mono ?_
           rintro e w9 ⟨t,s2,cs,hr,rfl,hst9,hp9,hk9⟩
           have hcl : cs.length = 26:=hst9.size cs (List.mem_singleton.2 rfl)
           obtain ⟨A3,c3,w10,hrun,htl10,hbl10,hs10⟩:=TL.push (K:=stR) (p:=p) (q:=q) 23 TTs (by decide) HTL7.out hk9 (show q < w.heap.size by omega) hp HZ7.out (by have:=HBD.out;omega) hst9
           have HR:=hid hr
           have HP10:=hid (hp9.below hp hbl10)
           have HK10:=hid ((HK7.out.trans (hk9.least HZ7.out)).trans (Kx.of hbl10 (Nat.le_refl _)))
           have HTL10:=hid htl10
           have HZ10:=hid (show w.heap.size ≤ w10.heap.size from Nat.le_trans (Nat.le_trans HZ7.out hk9.size) hs10)
           have HRUN:=hid hrun
           have HLT:=hid (stmt_lt hr HNE.out)
           clear hr hst9 hp9 hk9 htl10 hbl10 hs10 hrun HP7 HTL7 HK7 HTL HP HK HSC
           go_wp2_with (first | (refine wl_bs1 TTs rfl (.tmp 35) rfl cs.toArray rfl (by rw [List.size_toArray,hcl]) (by decide) ?_) | (refine wl_step (by rfl) fun _ hK=>Lib.wp_append_run _ (.tmp 33) (.tmp 36) 23 23 rfl _ _ rfl rfl _ _ HRUN.out (hK _ _ ?_)))
           refine ⟨⟨l ++ [t],s2,A3,n' + 1,c3,rfl,fun h=>⟨Nat.lt_trans HLT.out (HON.out HNE.out).1,(HON.out HNE.out).2⟩,by have:=HBD.out;have:=HLT.out;omega,fun l2 s3 h=>HC.out _ _ (.stmtsGo HNE.out hse HR.out h),HTL10.out,HP10.out,HK10.out,HZ10.out⟩,?_⟩
           rw [mF_of HP10.out,HMF.out]
           exact HLT.out
   · obtain ⟨hR,hk2⟩:=hR
     rw [hR] at HSE
     clear hR rest
     go_enter Tryd.func38,Tryd.ntmps38
     go_wp2_with fail
     refine HSE.out.mono ?_
     rintro e w2 ⟨rfl,hb2⟩
     have HB2:=hid (HB1.out.trans (bl_least hb2 (by rw [HZ1.out];omega)))
     have HP2:=hid (HPS.out.below hp HB2.out)
     have c3:=HP2.out.c3
     clear hb2
     go_wp2_with fail
     refine (HTK.out _ w2 HP2.out).mono ?_
     rintro e w4 ⟨rfl,hp4,hk4⟩
     have HP4:=hid hp4
     have HK4:=hid ((Kx.of HB2.out (Nat.le_refl _)).trans (hk4.least HB2.out.size))
     have d4:=hp4.c3
     have f4:=hp4.free 3
     clear hp4 hk4 HP2 c3
     have HLT:=hid (fun h=>mu_body_lt (b:=b) (s:=s) h)
     have HOK:=hid (fun h=>bodyS_ok (b:=b) (s:=s) h)
     rw [← HE.out] at HP4
     obtain ⟨s4,hs4⟩ : ∃ s4,bodyS b s = s4:=⟨_,rfl⟩
     rw [hs4] at HP4 HLT HOK
     have HS4:=hid hs4
     clear hs4
     go_upto_region 5 with fail
     have HP5:=hid (show Ps (w4.setCell ⟨p,3,none⟩ (.int .i64 ((b : Int) + 1))) p q s4 (b + 1) 0 from HP4.out.bodies (b + 1) (by omega))
     have HK5:=hid (HK4.out.set (p:=p) (i:=3) (.inr (.inl rfl)) (.int .i64 ((b : Int) + 1)))
     have hz5 : w.heap.size ≤ (w4.setCell ⟨p,3,none⟩ (.int .i64 ((b : Int) + 1))).heap.size:=HK5.out.size
     clear HP4 HK4 d4 f4
     generalize w4.setCell ⟨p,3,none⟩ (.int .i64 ((b : Int) + 1)) = w5 at *
     go_wp2_with fail
     go_loopw [3] (fun v wr=>∃ (l : List St) (s' : PS) (A : Option Addr) (n' c' : Nat),v = .slice A n' c' ∧ (s'.2 = 0 → mu s' < n ∧ b + 1 ≤ 12) ∧ n' + mu s' ≤ 8002 ∧ (∀ l2 s2,RunS (b + 1) (.stmts l s') l2 s2 → RunS b (.body s) l2 (takeS s2 kRb)) ∧ TL stR 64 w.heap.size wr (.slice A n' c') n' l ∧ Ps wr p q s' (b + 1) 0 ∧ Kx q p w.heap.size w wr ∧ w.heap.size ≤ wr.heap.size) (fun _ wr=>mF p q wr)
     case atStart=>
       have hbd:=HP5.out.stm.bound
       refine ⟨[],s4,none,0,0,rfl,fun h=>⟨Nat.lt_of_lt_of_le (HLT.out h) HMU.out,by have:=(HOK.out h).2.2.1;have:=HB12.out;omega⟩,?_,fun l2 s2 h=>.body (by rw [HS4.out];exact h),TL.nil,HP5.out,HK5.out,hz5⟩
       rw [mu]
       split <;> omega
     case round=>
       obtain ⟨l,s1,A,n',c',hv,hok,hbd,hc,htl,hp1,hk1,hz⟩:=hrel
       subst hv
       have HON:=hid hok
       have HBD:=hid hbd
       have HC:=hid hc
       have HTL:=hid htl
       have HP:=hid hp1
       have HK:=hid hk1
       have HZR:=hid hz
       have HMF:=hid (mF_of hp1)
       have HOKC:=hid (ok_any p q (b + 1) 0 s1 wr hp1)
       clear hok hbd hc htl hp1 hk1 hz HP5 HK5 hz5 HLT HOK HS4
       cases hs0 : (s1.2 == 0) with
       | false=>
         rw [hs0] at HOKC
         have hne : s1.2 ≠ 0:=beq_eq_false_iff_ne.1 hs0
         have HNE:=hid hne
         clear hs0 hne
         go_wp2_with (go_at_call 15;refine HOKC.out.mono ?_;rintro e w6 ⟨rfl,rfl⟩)
         go_wp2_with fail
         refine (show Calls Tryd.prog 32 #[.pointer (some ⟨p,0,none⟩),.string ⟨#[125]⟩] w6 _ from take_any p q (b + 1) 0 s1 kRb w6 HP.out).mono ?_
         rintro e w8 ⟨rfl,hp8,hk8⟩
         have HP8:=hid hp8
         have c8:=hp8.c3
         have f8:=hp8.free 3
         have HTL8:=hid (HTL.out.kx hk8 (Nat.le_refl _) (show q < w.heap.size by omega) hp)
         have HK8:=hid (HK.out.trans (hk8.least HZR.out))
         clear hp8 hk8
         go_wp2_with fail
         go_ret
         have htl9:=HTL8.out.keep (w1:=w8.setCell ⟨p,3,none⟩ (.int .i64 (b : Int))) (by exact ((Below.refl p w8).setCell (p:=⟨p,3,none⟩) (Nat.le_refl _) _).size) (fun g hg _=>Below.heap_setCell w8 ⟨p,3,none⟩ _ g (by show g ≠ p;omega))
         obtain ⟨css,hrp,hrv,hnc⟩:=htl9.done (w0:=w) (Nat.le_refl _)
         exact ⟨l,_,A,n',c',css,HC.out _ _ (.stmtsBad HNE.out),rfl,hrv,hrp,hnc,HP8.out.bodies b (by have:=HB12.out;omega),HK8.out.set (p:=p) (i:=3) (.inr (.inl rfl)) _⟩
       | true=>
         rw [hs0] at HOKC
         have hne : s1.2 = 0:=beq_iff_eq.1 hs0
         have HNE:=hid hne
         clear hs0 hne
         have hb1 : Below wr.heap.size wr (wr.alloc (.cells #[.string ⟨#[125]⟩] 9)):=(Below.refl _ wr).alloc (Nat.le_refl _) _
         have hl1 : (wr.alloc (.cells #[.string ⟨#[125]⟩] 9)).heap.size = wr.heap.size + 1:=Array.size_push _
         have HB1':=hid hb1
         have HSE':=hid (show Calls Tryd.prog 13 #[.pointer (some ⟨p,0,none⟩),.slice (some ⟨wr.heap.size,0,none⟩) 1 1] (wr.alloc (.cells #[.string ⟨#[125]⟩] 9)) (fun e w'=>e = .returned (.bool (sees s1 [kRb])) ∧ Below (wr.alloc (.cells #[.string ⟨#[125]⟩] 9)).heap.size (wr.alloc (.cells #[.string ⟨#[125]⟩] 9)) w') from sees_any p q (b + 1) 0 s1 (some ⟨wr.heap.size,0,none⟩) 1 [kRb] _ (HP.out.below HP.out.size hb1) (RS.new wr [kRb]) (Nat.le_add_left 1 99))
         clear hb1
         go_wp2_with (go_at_call 15;refine HOKC.out.mono ?_;rintro e w6 ⟨rfl,rfl⟩)
         refine HSE'.out.mono ?_
         rintro e w7 ⟨rfl,hb7⟩
         have HB7:=hid (HB1'.out.trans (bl_least hb7 (by rw [hl1];omega)))
         have HP7:=hid (HP.out.below HP.out.size HB7.out)
         have HTL7:=hid (HTL.out.keep HB7.out.size fun g _ hg=>HB7.out.block g hg)
         have HK7:=hid (HK.out.trans (Kx.of HB7.out HZR.out))
         have HZ7:=hid (Nat.le_trans HZR.out HB7.out.size)
         clear hb7 HB7 HB1' HSE' hl1
         cases hse : sees s1 [kRb] with
         | true=>
           go_wp2_with fail
           refine (show Calls Tryd.prog 32 #[.pointer (some ⟨p,0,none⟩),.string ⟨#[125]⟩] w7 _ from take_any p q (b + 1) 0 s1 kRb w7 HP7.out).mono ?_
           rintro e w8 ⟨rfl,hp8,hk8⟩
           have HP8:=hid hp8
           have c8:=hp8.c3
           have f8:=hp8.free 3
           have HTL8:=hid (HTL7.out.kx hk8 (Nat.le_refl _) (show q < w.heap.size by omega) hp)
           have HK8:=hid (HK7.out.trans (hk8.least HZ7.out))
           clear hp8 hk8
           go_wp2_with fail
           go_ret
           have htl9:=HTL8.out.keep (w1:=w8.setCell ⟨p,3,none⟩ (.int .i64 (b : Int))) (by exact ((Below.refl p w8).setCell (p:=⟨p,3,none⟩) (Nat.le_refl _) _).size) (fun g hg _=>Below.heap_setCell w8 ⟨p,3,none⟩ _ g (by show g ≠ p;omega))
           obtain ⟨css,hrp,hrv,hnc⟩:=htl9.done (w0:=w) (Nat.le_refl _)
           exact ⟨l,_,A,n',c',css,HC.out _ _ (.stmtsEnd HNE.out hse),rfl,hrv,hrp,hnc,HP8.out.bodies b (by have:=HB12.out;omega),HK8.out.set (p:=p) (i:=3) (.inr (.inl rfl)) _⟩
         | false=>
           have HSC:=hid (HST.out (mu s1) (HON.out HNE.out).1 (b + 1) s1 w7 (Nat.le_refl _) (fun h=>(HON.out h).2) HP7.out)
           go_wp2_with fail
           refine HSC.out.mono ?_
           rintro e w9 ⟨t,s2,cs,hr,rfl,hst9,hp9,hk9⟩
           have hcl : cs.length = 26:=hst9.size cs (List.mem_singleton.2 rfl)
           obtain ⟨A3,c3,w10,hrun,htl10,hbl10,hs10⟩:=TL.push (K:=stR) (p:=p) (q:=q) 23 TTs (by decide) HTL7.out hk9 (show q < w.heap.size by omega) hp HZ7.out (by have:=HBD.out;omega) hst9
           have HR:=hid hr
           have HP10:=hid (hp9.below hp hbl10)
           have HK10:=hid ((HK7.out.trans (hk9.least HZ7.out)).trans (Kx.of hbl10 (Nat.le_refl _)))
           have HTL10:=hid htl10
           have HZ10:=hid (show w.heap.size ≤ w10.heap.size from Nat.le_trans (Nat.le_trans HZ7.out hk9.size) hs10)
           have HRUN:=hid hrun
           have HLT:=hid (stmt_lt hr HNE.out)
           clear hr hst9 hp9 hk9 htl10 hbl10 hs10 hrun HP7 HTL7 HK7 HTL HP HK HSC
           go_wp2_with (first | (refine wl_bs1 TTs rfl (.tmp 35) rfl cs.toArray rfl (by rw [List.size_toArray,hcl]) (by decide) ?_) | (refine wl_step (by rfl) fun _ hK=>Lib.wp_append_run _ (.tmp 33) (.tmp 36) 23 23 rfl _ _ rfl rfl _ _ HRUN.out (hK _ _ ?_)))
           refine ⟨⟨l ++ [t],s2,A3,n' + 1,c3,rfl,fun h=>⟨Nat.lt_trans HLT.out (HON.out HNE.out).1,(HON.out HNE.out).2⟩,by have:=HBD.out;have:=HLT.out;omega,fun l2 s3 h=>HC.out _ _ (.stmtsGo HNE.out hse HR.out h),HTL10.out,HP10.out,HK10.out,HZ10.out⟩,?_⟩
           rw [mF_of HP10.out,HMF.out]
           exact HLT.out
end
end Go.Proofs.YtgmjpnnblhkbpaaDoor
