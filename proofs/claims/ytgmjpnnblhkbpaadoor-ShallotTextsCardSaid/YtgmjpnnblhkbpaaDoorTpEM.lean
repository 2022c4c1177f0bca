/-
  The printer's expr at join and at an operation; expr and operand at every expression in form. Conditions: the sizes that strings can have.
-/
import Derived.Test.YtgmjpnnblhkbpaaDoorTpCM
import Derived.Test.YtgmjpnnblhkbpaaDoorTwWM
namespace Go.Proofs.YtgmjpnnblhkbpaaDoor
open Go Go.RowKit Go.Sh Tx
open Go.Lib (hid)
def PrPost (b : Nat) (l : Bs) (w : World) (e : Ending) (w' : World) : Prop:=e = .returned (.tuple #[]) ∧ Pr w' b l ∧ Fb b w w'
theorem write1 (b : Nat) (l x : Bs) (V : ByteArray) (w : World) (hV : sb x = V) (h : Pr w b l) (hlen : (l ++ x).length ≤ 10000000000000) :
   Calls Tryd.prog 48 #[.pointer (some ⟨b,0,none⟩),.slice (some ⟨w.heap.size,0,none⟩) 1 1] (w.alloc (.cells #[.string V] 9)) (PrPost b (l ++ x) w):=by
 subst hV
 have:=write_lit b l [x] w h (by simp at hlen ⊢;omega)
 rw [show [x].flatten = x by simp] at this
 exact this
theorem write2 (b : Nat) (l x y : Bs) (V U : ByteArray) (w : World) (hV : sb x = V) (hU : sb y = U) (h : Pr w b l) (hlen : (l ++ (x ++ y)).length ≤ 10000000000000) :
   Calls Tryd.prog 48 #[.pointer (some ⟨b,0,none⟩),.slice (some ⟨w.heap.size,0,none⟩) 2 2] (w.alloc (.cells #[.string V,.string U] 9)) (PrPost b (l ++ (x ++ y)) w):=by
 subst hV hU
 have:=write_lit b l [x,y] w h (by simp at hlen ⊢;omega)
 rw [show [x,y].flatten = x ++ y by simp] at this
 exact this
theorem write3 (b : Nat) (l x y z : Bs) (V U Z : ByteArray) (w : World) (hV : sb x = V) (hU : sb y = U) (hZ : sb z = Z) (h : Pr w b l) (hlen : (l ++ (x ++ y ++ z)).length ≤ 10000000000000) :
   Calls Tryd.prog 48 #[.pointer (some ⟨b,0,none⟩),.slice (some ⟨w.heap.size,0,none⟩) 3 3] (w.alloc (.cells #[.string V,.string U,.string Z] 9)) (PrPost b (l ++ (x ++ y ++ z)) w):=by
 subst hV hU hZ
 have:=write_lit b l [x,y,z] w h (by simp at hlen ⊢;omega)
 rw [show [x,y,z].flatten = x ++ y ++ z by simp] at this
 exact this
def tE (e : Ex) : Bs:=rend (pcE e)
theorem rend_par (p : Bool) (e : Ex) : rend (parP p (pcE e)) = if p then [40] ++ tE e ++ [41] else tE e:=by
 cases p
 · rfl
 · simp [parP,rend,rend_app,spell,tMark,kLp,kRp,tE]
theorem tE_num (v : Int) : tE (.num v) = decN v.toNat:=by simp [tE,pcE,rend,spell,tNum]
theorem tE_name (x : Bs) : tE (.name x) = x:=by simp [tE,pcE,rend,spell,tName]
theorem tE_text (x : Bs) : tE (.text x) = quoteB x:=by simp [tE,pcE,rend,spell,tText]
theorem tE_join (l : List Ex) : tE (.join l) = [106,111,105,110,40] ++ (rend (pcJ l) ++ [41]):=by simp [tE,pcE,rend,rend_app,spell,tWord,tMark,kJoin,kLp,kRp]
theorem tE_bin (o : Bs) (x y : Ex) : tE (.bin o x y) = rend (parP (o == kStar && x.isSum) (pcE x)) ++ (([32] ++ o ++ [32]) ++ rend (parP (y.isSum || (o == kStar && y.isProd)) (pcE y))):=by simp [tE,pcE,rend,rend_app,spell,tMark]
theorem TrV.inv {X : Nat → Prop} {w : World} {e : Ex} {o t : ByteArray} {m a : Int} {A : Option Addr} {n d : Nat} (h : TrV X w [e] [[.string o,.int .i64 m,.string t,.int .i64 a,.slice A n d]]) :
   o = sb (exOp e) ∧ m = exNm e ∧ t = sb (exTx e) ∧ ∃ ks,TrV X w (exKids e) ks ∧ RP X w 5 A n ks ∧ n ≤ d:=by
 generalize hl : [[Value.string o,.int .i64 m,.string t,.int .i64 a,.slice A n d]] = L at h
 cases h with
 | cons h1 h2 h3 h4=>
   simp only [exc,List.cons.injEq,Value.string.injEq,Value.int.injEq,Value.slice.injEq,true_and,and_true] at hl
   obtain ⟨⟨rfl,rfl,rfl,rfl,rfl,rfl,rfl⟩,_⟩:=hl
   exact ⟨rfl,rfl,rfl,_,h1,h2,h3⟩
def PxP (e : Ex) : Prop:=∀ (b : Nat) (l : Bs) (w : World) (o t : ByteArray) (m a : Int) (A : Option Addr) (n d : Nat) (X : Nat → Prop),Pr w b l → TabX b w → TrV X w [e] [[.string o,.int .i64 m,.string t,.int .i64 a,.slice A n d]] → (∀ g,X g → g < b) → e.wf → (l ++ tE e).length ≤ 10000000000000 →
 Calls Tryd.prog 49 #[.pointer (some ⟨b,0,none⟩),.agg #[.string o,.int .i64 m,.string t,.int .i64 a,.slice A n d]] w (PrPost b (l ++ tE e) w)
def PoP (e : Ex) : Prop:=∀ (p : Bool) (b : Nat) (l : Bs) (w : World) (o t : ByteArray) (m a : Int) (A : Option Addr) (n d : Nat) (X : Nat → Prop),Pr w b l → TabX b w → TrV X w [e] [[.string o,.int .i64 m,.string t,.int .i64 a,.slice A n d]] → (∀ g,X g → g < b) → e.wf → (l ++ rend (parP p (pcE e))).length ≤ 10000000000000 →
 Calls Tryd.prog 66 #[.pointer (some ⟨b,0,none⟩),.agg #[.string o,.int .i64 m,.string t,.int .i64 a,.slice A n d],.bool p] w (PrPost b (l ++ rend (parP p (pcE e))) w)
section
set_option maxHeartbeats 8000000
set_option maxRecDepth 100000
theorem qflat_ge (b : Bs) : b.length ≤ (b.flatMap qb).length:=by
 induction b with
 | nil=>exact Nat.le_refl _
 | cons c b ih=>
   rw [List.flatMap_cons,List.length_append,List.length_cons]
   have : 1 ≤ (qb c).length:=by
     unfold qb
     split
     · exact (by decide : 1 ≤ 2)
     · split
       · exact (by decide : 1 ≤ 2)
       · split
         · exact (by decide : 1 ≤ 4)
         · exact Nat.le_refl _
   omega
theorem quoteB_ge (b : Bs) : b.length ≤ (quoteB b).length:=by
 have:=qflat_ge b
 rw [quoteB,List.length_cons,List.length_append]
 omega
set_option maxRecDepth 100000 in
theorem sum_any (o : Bs) (m a : Int) (t : ByteArray) (A : Option Addr) (n d : Nat) (w : World) :
   Calls Tryd.prog 67 #[.agg #[.string (sb o),.int .i64 m,.string t,.int .i64 a,.slice A n d]] w fun e w'=>e = .returned (.bool ((o == kPlus || o == kMinus) && decide (n = 2))) ∧ Below w.heap.size w w':=by
 have hba:=(Below.refl w.heap.size w).alloc (Nat.le_refl _) (.cells #[.string (sb o),.int .i64 m,.string t,.int .i64 a,.slice A n d] 55)
 have HB:=hid hba
 clear hba
 obtain ⟨R,hR⟩ : ∃ R,((o == kPlus || o == kMinus) && decide (n = 2)) = R:=⟨_,rfl⟩
 rw [hR]
 have HR:=hid hR
 clear hR
 by_cases h43 : o = kPlus
 · subst h43
   rw [show sb kPlus = ⟨#[43]⟩ from rfl] at *
   by_cases hn : n = 2
   · subst hn
     have HE:=hid (show R = true by rw [← HR.out];rfl)
     clear HR
     go_enter Tryd.func67,Tryd.ntmps67
     go_wp2_with fail
     go_ret
     exact ⟨by rw [HE.out];rfl,HB.out⟩
   · have hn2 : ((n : Int) == 2) = false:=by rw [beq_eq_false_iff_ne];omega
     have HE:=hid (show R = false by rw [← HR.out];rw [decide_eq_false hn,Bool.and_false])
     clear HR
     go_enter Tryd.func67,Tryd.ntmps67
     go_wp2_with fail
     go_ret
     exact ⟨by rw [HE.out];rfl,HB.out⟩
 have e43 : ((sb o).toList == [43]) = false:=by rw [toList_sb];exact beq_eq_false_iff_ne.2 h43
 by_cases h45 : o = kMinus
 · subst h45
   rw [show sb kMinus = ⟨#[45]⟩ from rfl] at *
   by_cases hn : n = 2
   · subst hn
     have HE:=hid (show R = true by rw [← HR.out];rfl)
     clear HR
     go_enter Tryd.func67,Tryd.ntmps67
     go_wp2_with fail
     go_ret
     exact ⟨by rw [HE.out];rfl,HB.out⟩
   · have hn2 : ((n : Int) == 2) = false:=by rw [beq_eq_false_iff_ne];omega
     have HE:=hid (show R = false by rw [← HR.out];rw [decide_eq_false hn,Bool.and_false])
     clear HR
     go_enter Tryd.func67,Tryd.ntmps67
     go_wp2_with fail
     go_ret
     exact ⟨by rw [HE.out];rfl,HB.out⟩
 have e45 : ((sb o).toList == [45]) = false:=by rw [toList_sb];exact beq_eq_false_iff_ne.2 h45
 have HO:=hid (show (o == kPlus || o == kMinus) = false by simp [h43,h45])
 clear h43 h45
 generalize sb o = S at *
 have HE:=hid (show R = false by rw [← HR.out];rw [HO.out,Bool.false_and])
 clear HR
 go_enter Tryd.func67,Tryd.ntmps67
 go_wp2_with fail
 go_ret
 exact ⟨by rw [HE.out];rfl,HB.out⟩
set_option maxRecDepth 100000 in
theorem product_any (o : Bs) (m a : Int) (t : ByteArray) (A : Option Addr) (n d : Nat) (w : World) :
   Calls Tryd.prog 68 #[.agg #[.string (sb o),.int .i64 m,.string t,.int .i64 a,.slice A n d]] w fun e w'=>e = .returned (.bool ((o == kStar) && decide (n = 2))) ∧ Below w.heap.size w w':=by
 have hba:=(Below.refl w.heap.size w).alloc (Nat.le_refl _) (.cells #[.string (sb o),.int .i64 m,.string t,.int .i64 a,.slice A n d] 55)
 have HB:=hid hba
 clear hba
 obtain ⟨R,hR⟩ : ∃ R,((o == kStar) && decide (n = 2)) = R:=⟨_,rfl⟩
 rw [hR]
 have HR:=hid hR
 clear hR
 by_cases h42 : o = kStar
 · subst h42
   rw [show sb kStar = ⟨#[42]⟩ from rfl] at *
   by_cases hn : n = 2
   · subst hn
     have HE:=hid (show R = true by rw [← HR.out];rfl)
     clear HR
     go_enter Tryd.func68,Tryd.ntmps68
     go_wp2_with fail
     go_ret
     exact ⟨by rw [HE.out];rfl,HB.out⟩
   · have hn2 : ((n : Int) == 2) = false:=by rw [beq_eq_false_iff_ne];omega
     have HE:=hid (show R = false by rw [← HR.out];rw [decide_eq_false hn,Bool.and_false])
     clear HR
     go_enter Tryd.func68,Tryd.ntmps68
     go_wp2_with fail
     go_ret
     exact ⟨by rw [HE.out];rfl,HB.out⟩
 have e42 : ((sb o).toList == [42]) = false:=by rw [toList_sb];exact beq_eq_false_iff_ne.2 h42
 have HO:=hid (show (o == kStar) = false by simp [h42])
 clear h42
 generalize sb o = S at *
 have HE:=hid (show R = false by rw [← HR.out];rw [HO.out,Bool.false_and])
 clear HR
 go_enter Tryd.func68,Tryd.ntmps68
 go_wp2_with fail
 go_ret
 exact ⟨by rw [HE.out];rfl,HB.out⟩
set_option maxRecDepth 100000 in
theorem operand_of {ex : Ex} (hpx : PxP ex) : PoP ex:=by
 intro p b l w o t m a A n d X h hT ht hX hwf hlen
 have hbl:=h.lt
 rw [rend_par] at hlen ⊢
 have HPX:=hid hpx
 have HWF:=hid hwf
 have hba : Below w.heap.size w (w.alloc (.cells #[.string o,.int .i64 m,.string t,.int .i64 a,.slice A n d] 55)):=(Below.refl _ w).alloc (Nat.le_refl _) _
 have HP1:=hid (h.later hba)
 have HF1:=hid (show Fb b w _ from Fb.of hba)
 have HTB1:=hid (hT.on hba (Nat.le_of_lt hbl))
 have HE1:=hid (show EB (w.alloc (.cells #[.string o,.int .i64 m,.string t,.int .i64 a,.slice A n d] 55)) w.heap.size (.string o) (.int .i64 m) (.string t) (.int .i64 a) (.slice A n d) from heap_alloc_new w _)
 have HT1:=hid (ht.keep fun g hg=>hba.block g (Nat.lt_trans (hX g hg) hbl))
 have hs1 : b < (w.alloc (.cells #[.string o,.int .i64 m,.string t,.int .i64 a,.slice A n d] 55)).heap.size:=Nat.lt_of_lt_of_le hbl hba.size
 have HX:=hid hX
 cases p with
 | false=>
   have HN:=hid (show (l ++ tE ex).length ≤ 10000000000000 from hlen)
   clear h hT ht hX hwf hlen hpx
   go_enter Tryd.func66,Tryd.ntmps66
   go_upto_region 1 with fail
   obtain ⟨z,hz⟩ : ∃ z,w.heap.size = z:=⟨_,rfl⟩
   have hzb : b < z:=by rw [← hz];exact hbl
   rw [hz] at HE1 ⊢
   generalize (w.alloc (.cells #[.string o,.int .i64 m,.string t,.int .i64 a,.slice A n d] 55)) = w1 at *
   clear hz hba
   have y0:=HE1.out.c0
   have y1:=HE1.out.c1
   have y2:=HE1.out.c2
   have y3:=HE1.out.c3
   have y4:=HE1.out.c4
   go_wp2_with fail
   refine (HPX.out b l w1 o t m a A n d X HP1.out HTB1.out HT1.out HX.out HWF.out HN.out).mono ?_
   rintro e w2 ⟨rfl,hp2,hf2⟩
   have HP2:=hid hp2
   have HF2:=hid (HF1.out.trans hf2)
   have HE2:=hid (show EB w2 z (.string o) (.int .i64 m) (.string t) (.int .i64 a) (.slice A n d) from hf2.keep HE1.out (by decide) (by omega))
   have HT2:=hid (HT1.out.keep fun g hg=>(hf2.low (Nat.le_of_lt hs1)).block g (HX.out g hg))
   have HTB2:=hid (HTB1.out.fb hf2 (Nat.le_of_lt hs1))
   have hs2 : b < w2.heap.size:=Nat.lt_of_lt_of_le hs1 hf2.size
   clear hp2 hf2 HP1 HF1 HE1 HT1 HTB1
   go_wp2_with fail
   go_end0
   exact ⟨rfl,cast (congrArg (Pr w2 b) (show (l ++ tE ex) = l ++ (if false = true then [40] ++ tE ex ++ [41] else tE ex) from rfl)) HP2.out,HF2.out⟩
 | true=>
   have HN:=hid (show (l ++ ([40] ++ tE ex ++ [41])).length ≤ 10000000000000 from hlen)
   clear h hT ht hX hwf hlen hpx
   go_enter Tryd.func66,Tryd.ntmps66
   go_upto_region 1 with fail
   obtain ⟨z,hz⟩ : ∃ z,w.heap.size = z:=⟨_,rfl⟩
   have hzb : b < z:=by rw [← hz];exact hbl
   rw [hz] at HE1 ⊢
   generalize (w.alloc (.cells #[.string o,.int .i64 m,.string t,.int .i64 a,.slice A n d] 55)) = w1 at *
   clear hz hba
   go_wp2_with fail
   refine (write1 b l [40] ⟨#[40]⟩ w1 rfl HP1.out (by have h:=HN.out;first | (simp at h ⊢;omega) | omega | (simp at h;omega))).mono ?_
   rintro e w2 ⟨rfl,hp2,hf2⟩
   have HP2:=hid hp2
   have HF2:=hid (HF1.out.trans hf2)
   have HE2:=hid (show EB w2 z (.string o) (.int .i64 m) (.string t) (.int .i64 a) (.slice A n d) from hf2.keep HE1.out (by decide) (by omega))
   have HT2:=hid (HT1.out.keep fun g hg=>(hf2.low (Nat.le_of_lt hs1)).block g (HX.out g hg))
   have HTB2:=hid (HTB1.out.fb hf2 (Nat.le_of_lt hs1))
   have hs2 : b < w2.heap.size:=Nat.lt_of_lt_of_le hs1 hf2.size
   clear hp2 hf2 HP1 HF1 HE1 HT1 HTB1
   have y0:=HE2.out.c0
   have y1:=HE2.out.c1
   have y2:=HE2.out.c2
   have y3:=HE2.out.c3
   have y4:=HE2.out.c4
   go_wp2_with fail
   refine (HPX.out b (l ++ [40]) w2 o t m a A n d X HP2.out HTB2.out HT2.out HX.out HWF.out (by have h:=HN.out;first | (simp at h ⊢;omega) | omega | (simp at h;omega))).mono ?_
   rintro e w3 ⟨rfl,hp3,hf3⟩
   have HP3:=hid hp3
   have HF3:=hid (HF2.out.trans hf3)
   have HE3:=hid (show EB w3 z (.string o) (.int .i64 m) (.string t) (.int .i64 a) (.slice A n d) from hf3.keep HE2.out (by decide) (by omega))
   have HT3:=hid (HT2.out.keep fun g hg=>(hf3.low (Nat.le_of_lt hs2)).block g (HX.out g hg))
   have HTB3:=hid (HTB2.out.fb hf3 (Nat.le_of_lt hs2))
   have hs3 : b < w3.heap.size:=Nat.lt_of_lt_of_le hs2 hf3.size
   clear hp3 hf3 HP2 HF2 HE2 HT2 HTB2
   clear y0 y1 y2 y3 y4
   go_wp2_with fail
   refine (write1 b ((l ++ [40]) ++ tE ex) [41] ⟨#[41]⟩ w3 rfl HP3.out (by have h:=HN.out;first | (simp at h ⊢;omega) | omega | (simp at h;omega))).mono ?_
   rintro e w4 ⟨rfl,hp4,hf4⟩
   have HP4:=hid hp4
   have HF4:=hid (HF3.out.trans hf4)
   have HE4:=hid (show EB w4 z (.string o) (.int .i64 m) (.string t) (.int .i64 a) (.slice A n d) from hf4.keep HE3.out (by decide) (by omega))
   have HT4:=hid (HT3.out.keep fun g hg=>(hf4.low (Nat.le_of_lt hs3)).block g (HX.out g hg))
   have HTB4:=hid (HTB3.out.fb hf4 (Nat.le_of_lt hs3))
   have hs4 : b < w4.heap.size:=Nat.lt_of_lt_of_le hs3 hf4.size
   clear hp4 hf4 HP3 HF3 HE3 HT3 HTB3
   go_wp2_with fail
   go_end0
   exact ⟨rfl,cast (congrArg (Pr w4 b) (show (((l ++ [40]) ++ tE ex) ++ [41]) = l ++ (if true = true then [40] ++ tE ex ++ [41] else tE ex) from by simp)) HP4.out,HF4.out⟩
set_option maxRecDepth 100000 in
theorem px_num (v : Int) : PxP (.num v):=by
 intro b l w o t m a A n d X h hT ht hX hwf hlen
 have hbl:=h.lt
 obtain ⟨ho,hm,htx,ks,_,_,_⟩:=ht.inv
 rw [tE_num] at hlen ⊢
 obtain rfl : o = ⟨#[110,117,109,98,101,114]⟩:=ho
 obtain rfl : m = v:=hm
 obtain ⟨h0,h1⟩ : 0 ≤ m ∧ m ≤ 999999999:=hwf
 have HI:=hid (fun W (hw : TabX b W)=>ItoaX_any m h0 h1 W hw)
 have HN:=hid hlen
 have hba : Below w.heap.size w (w.alloc (.cells #[.string ⟨#[110,117,109,98,101,114]⟩,.int .i64 m,.string t,.int .i64 a,.slice A n d] 55)):=(Below.refl _ w).alloc (Nat.le_refl _) _
 have HP1:=hid (h.later hba)
 have HF1:=hid (show Fb b w _ from Fb.of hba)
 have HTB1:=hid (hT.on hba (Nat.le_of_lt hbl))
 have HE1:=hid (show EB (w.alloc (.cells #[.string ⟨#[110,117,109,98,101,114]⟩,.int .i64 m,.string t,.int .i64 a,.slice A n d] 55)) w.heap.size (.string ⟨#[110,117,109,98,101,114]⟩) (.int .i64 m) (.string t) (.int .i64 a) (.slice A n d) from heap_alloc_new w _)
 have hs1 : b < (w.alloc (.cells #[.string ⟨#[110,117,109,98,101,114]⟩,.int .i64 m,.string t,.int .i64 a,.slice A n d] 55)).heap.size:=Nat.lt_of_lt_of_le hbl hba.size
 clear h hT ht hX hlen htx h0 h1
 (try clear ho)
 (try clear hm)
 go_enter Tryd.func49,Tryd.ntmps49
 go_upto_region 1 with fail
 obtain ⟨z,hz⟩ : ∃ z,w.heap.size = z:=⟨_,rfl⟩
 have hzb : b < z:=by rw [← hz];exact hbl
 rw [hz] at HE1 ⊢
 generalize (w.alloc (.cells #[.string ⟨#[110,117,109,98,101,114]⟩,.int .i64 m,.string t,.int .i64 a,.slice A n d] 55)) = w1 at *
 clear hz hba
 have y0:=HE1.out.c0
 have y1:=HE1.out.c1
 have y2:=HE1.out.c2
 have y3:=HE1.out.c3
 have y4:=HE1.out.c4
 go_wp2_with fail
 refine (HI.out w1 HTB1.out).mono ?_
 rintro e w2 ⟨rfl,hb2⟩
 have HP2:=hid (HP1.out.later hb2)
 have HF2:=hid (HF1.out.trans (Fb.of hb2))
 have hs2 : b < w2.heap.size:=Nat.lt_of_lt_of_le hs1 hb2.size
 clear hb2 HP1 HF1 y0 y1 y2 y3 y4 HI HTB1 HE1
 obtain ⟨D,hD⟩ : ∃ D,decN m.toNat = D:=⟨_,rfl⟩
 rw [hD] at HN ⊢
 have HDD:=hid hD
 clear hD
 obtain ⟨V,hV⟩ : ∃ V,sb D = V:=⟨_,rfl⟩
 have HV:=hid hV
 rw [hV]
 clear hV
 go_wp2_with fail
 refine (write1 b l D V w2 HV.out HP2.out (by have h:=HN.out;first | (simp at h ⊢;omega) | omega | (simp at h;omega))).mono ?_
 rintro e w3 ⟨rfl,hp3,hf3⟩
 have HP3:=hid hp3
 have HF3:=hid (HF2.out.trans hf3)
 have hs3 : b < w3.heap.size:=Nat.lt_of_lt_of_le hs2 hf3.size
 clear hp3 hf3 HP2 HF2
 go_wp2_with fail
 go_end0
 exact ⟨rfl,cast (congrArg (Pr w3 b) (show (l ++ D) = l ++ decN m.toNat from by rw [HDD.out])) HP3.out,HF3.out⟩
set_option maxRecDepth 100000 in
theorem px_name (x : Bs) : PxP (.name x):=by
 intro b l w o t m a A n d X h hT ht hX hwf hlen
 have hbl:=h.lt
 obtain ⟨ho,hm,htx,ks,_,_,_⟩:=ht.inv
 rw [tE_name] at hlen ⊢
 obtain rfl : o = ⟨#[110,97,109,101]⟩:=ho
 have HTX:=hid (show sb x = t from htx.symm)
 have HN:=hid hlen
 have hba : Below w.heap.size w (w.alloc (.cells #[.string ⟨#[110,97,109,101]⟩,.int .i64 m,.string t,.int .i64 a,.slice A n d] 55)):=(Below.refl _ w).alloc (Nat.le_refl _) _
 have HP1:=hid (h.later hba)
 have HF1:=hid (show Fb b w _ from Fb.of hba)
 have HTB1:=hid (hT.on hba (Nat.le_of_lt hbl))
 have HE1:=hid (show EB (w.alloc (.cells #[.string ⟨#[110,97,109,101]⟩,.int .i64 m,.string t,.int .i64 a,.slice A n d] 55)) w.heap.size (.string ⟨#[110,97,109,101]⟩) (.int .i64 m) (.string t) (.int .i64 a) (.slice A n d) from heap_alloc_new w _)
 have hs1 : b < (w.alloc (.cells #[.string ⟨#[110,97,109,101]⟩,.int .i64 m,.string t,.int .i64 a,.slice A n d] 55)).heap.size:=Nat.lt_of_lt_of_le hbl hba.size
 clear h hT ht hX hlen htx hwf
 (try clear ho)
 (try clear hm)
 go_enter Tryd.func49,Tryd.ntmps49
 go_upto_region 1 with fail
 obtain ⟨z,hz⟩ : ∃ z,w.heap.size = z:=⟨_,rfl⟩
 have hzb : b < z:=by rw [← hz];exact hbl
 rw [hz] at HE1 ⊢
 generalize (w.alloc (.cells #[.string ⟨#[110,97,109,101]⟩,.int .i64 m,.string t,.int .i64 a,.slice A n d] 55)) = w1 at *
 clear hz hba
 have y0:=HE1.out.c0
 have y1:=HE1.out.c1
 have y2:=HE1.out.c2
 have y3:=HE1.out.c3
 have y4:=HE1.out.c4
 go_wp2_with fail
 refine (write1 b l x t w1 HTX.out HP1.out (by have h:=HN.out;first | (simp at h ⊢;omega) | omega | (simp at h;omega))).mono ?_
 rintro e w2 ⟨rfl,hp2,hf2⟩
 have HP2:=hid hp2
 have HF2:=hid (HF1.out.trans hf2)
 have hs2 : b < w2.heap.size:=Nat.lt_of_lt_of_le hs1 hf2.size
 clear hp2 hf2 HP1 HF1
 go_wp2_with fail
 go_end0
 exact ⟨rfl,cast (congrArg (Pr w2 b) (show (l ++ x) = l ++ x from rfl)) HP2.out,HF2.out⟩
set_option maxRecDepth 100000 in
theorem px_text (x : Bs) : PxP (.text x):=by
 intro b l w o t m a A n d X h hT ht hX hwf hlen
 have hbl:=h.lt
 obtain ⟨ho,hm,htx,ks,_,_,_⟩:=ht.inv
 rw [tE_text] at hlen ⊢
 obtain rfl : o = ⟨#[116,101,120,116]⟩:=ho
 have HTX:=hid (show sb x = t from htx.symm)
 have HN:=hid hlen
 have hba : Below w.heap.size w (w.alloc (.cells #[.string ⟨#[116,101,120,116]⟩,.int .i64 m,.string t,.int .i64 a,.slice A n d] 55)):=(Below.refl _ w).alloc (Nat.le_refl _) _
 have HP1:=hid (h.later hba)
 have HF1:=hid (show Fb b w _ from Fb.of hba)
 have HTB1:=hid (hT.on hba (Nat.le_of_lt hbl))
 have HE1:=hid (show EB (w.alloc (.cells #[.string ⟨#[116,101,120,116]⟩,.int .i64 m,.string t,.int .i64 a,.slice A n d] 55)) w.heap.size (.string ⟨#[116,101,120,116]⟩) (.int .i64 m) (.string t) (.int .i64 a) (.slice A n d) from heap_alloc_new w _)
 have hs1 : b < (w.alloc (.cells #[.string ⟨#[116,101,120,116]⟩,.int .i64 m,.string t,.int .i64 a,.slice A n d] 55)).heap.size:=Nat.lt_of_lt_of_le hbl hba.size
 have hsz : t.size = x.length:=by rw [← HTX.out];exact sb_size x
 have hdt : t.data.toList = x:=by rw [← HTX.out];exact sb_list x
 have HSZ:=hid hsz
 have HDT:=hid hdt
 clear hsz hdt
 clear h hT ht hX hlen htx hwf
 (try clear ho)
 (try clear hm)
 go_enter Tryd.func49,Tryd.ntmps49
 go_upto_region 1 with fail
 obtain ⟨z,hz⟩ : ∃ z,w.heap.size = z:=⟨_,rfl⟩
 have hzb : b < z:=by rw [← hz];exact hbl
 rw [hz] at HE1 ⊢
 generalize (w.alloc (.cells #[.string ⟨#[116,101,120,116]⟩,.int .i64 m,.string t,.int .i64 a,.slice A n d] 55)) = w1 at *
 clear hz hba
 have y0:=HE1.out.c0
 have y1:=HE1.out.c1
 have y2:=HE1.out.c2
 have y3:=HE1.out.c3
 have y4:=HE1.out.c4
 obtain ⟨cap,wc,hrun,hrb,hcap,hzc,hbc⟩:=conv_tx w1 t
 rw [HDT.out] at hrb
 have HPC:=hid (HP1.out.later hbc)
 have HFC:=hid (HF1.out.trans (Fb.of hbc))
 have hsC : b < wc.heap.size:=Nat.lt_of_lt_of_le hs1 hbc.size
 have HQU:=hid (Quote_any _ t.size cap x wc wc.heap.size hrb (Nat.le_refl _) (by rw [HSZ.out];have h:=HN.out;have h2:=quoteB_ge x;rw [List.length_append] at h;omega))
 clear hrb hbc hcap hzc HP1 HF1 HTB1 HE1
 go_wp2_with fail
 refine HQU.out.mono ?_
 rintro e w2 ⟨rfl,hb2⟩
 have HP2:=hid (HPC.out.later hb2)
 have HF2:=hid (HFC.out.trans (Fb.of hb2))
 have hs2 : b < w2.heap.size:=Nat.lt_of_lt_of_le hsC hb2.size
 clear hb2 HPC HFC y0 y1 y2 y3 y4 HQU hrun
 obtain ⟨D,hD⟩ : ∃ D,quoteB x = D:=⟨_,rfl⟩
 rw [hD] at HN ⊢
 have HDD:=hid hD
 clear hD
 obtain ⟨V,hV⟩ : ∃ V,sb D = V:=⟨_,rfl⟩
 have HV:=hid hV
 rw [hV]
 clear hV
 go_wp2_with fail
 refine (write1 b l D V w2 HV.out HP2.out (by have h:=HN.out;first | (simp at h ⊢;omega) | omega | (simp at h;omega))).mono ?_
 rintro e w3 ⟨rfl,hp3,hf3⟩
 have HP3:=hid hp3
 have HF3:=hid (HF2.out.trans hf3)
 have hs3 : b < w3.heap.size:=Nat.lt_of_lt_of_le hs2 hf3.size
 clear hp3 hf3 HP2 HF2
 go_wp2_with fail
 go_end0
 exact ⟨rfl,cast (congrArg (Pr w3 b) (show (l ++ D) = l ++ quoteB x from by rw [HDD.out])) HP3.out,HF3.out⟩
end
end Go.Proofs.YtgmjpnnblhkbpaaDoor
namespace Go.Proofs.YtgmjpnnblhkbpaaDoor
open Go Go.RowKit Go.Sh Tx
open Go.Lib (hid)
theorem rend_jr (l : List Ex) (e : Ex) : rend (pcR (l ++ [e])) = rend (pcR l) ++ ([44,32] ++ tE e):=by
 induction l with
 | nil=>simp [pcR,rend,spell,tMark,kComma,tE]
 | cons y l ih=>
   rw [List.cons_append,pcR,pcR,rend,rend,rend,rend,rend_app,rend_app,ih]
   simp only [List.append_assoc]
theorem rend_j (l : List Ex) (e : Ex) : rend (pcJ (l ++ [e])) = rend (pcJ l) ++ ((if l = [] then [] else [44,32]) ++ tE e):=by
 cases l with
 | nil=>simp [pcJ,pcR,rend,tE]
 | cons y l=>
   rw [List.cons_append,pcJ,pcJ,rend_app,rend_app,rend_jr,if_neg (by simp)]
   simp only [List.append_assoc]
theorem rend_jr_len : ∀ (l : List Ex) (j : Nat),(rend (pcR (l.take j))).length ≤ (rend (pcR l)).length
 | [],j=>by simp [pcR,rend]
 | x :: l,0=>by simp [pcR,rend]
 | x :: l,j + 1=>by
   have:=rend_jr_len l j
   rw [List.take_succ_cons,pcR,pcR]
   simp only [rend,rend_app,List.length_append]
   omega
theorem rend_j_len (l : List Ex) (j : Nat) : (rend (pcJ (l.take j))).length ≤ (rend (pcJ l)).length:=by
 cases l with
 | nil=>simp [pcJ,rend]
 | cons x l=>
   cases j with
   | zero=>simp [pcJ,rend]
   | succ j=>
     have:=rend_jr_len l j
     rw [List.take_succ_cons,pcJ,pcJ]
     simp only [rend_app,List.length_append]
     omega
theorem rend_jr_num : ∀ l : List Ex,l.length ≤ (rend (pcR l)).length
 | []=>Nat.le_refl _
 | x :: l=>by
   have:=rend_jr_num l
   rw [pcR]
   simp only [rend,rend_app,List.length_append,List.length_cons,List.length_nil]
   omega
theorem rend_j_num (l : List Ex) : l.length ≤ (rend (pcJ l)).length + 1:=by
 cases l with
 | nil=>exact Nat.zero_le _
 | cons x l=>
   have:=rend_jr_num l
   rw [pcJ]
   simp only [rend_app,List.length_append,List.length_cons]
   omega
theorem TrV.at_ {X : Nat → Prop} {w : World} {l : List Ex} {css : List (List Value)} (h : TrV X w l css) {j : Nat} {cs : List Value} (hc : css[j]? = some cs) : ∃ e,l[j]? = some e ∧ TrV X w [e] [cs]:=by
 induction h generalizing j with
 | nil=>simp at hc
 | @cons e l css ks a A n c h1 h2 h3 _ _ ih=>
   cases j with
   | zero=>
     obtain rfl:=Option.some.inj hc
     exact ⟨e,rfl,.cons h1 h2 h3 .nil⟩
   | succ j=>exact ih hc
theorem wfL_mem {l : List Ex} (h : Ex.wfL l) {e : Ex} (he : e ∈ l) : e.wf:=by
 induction l with
 | nil=>cases he
 | cons x l ih=>
   rcases List.mem_cons.1 he with rfl | he
   · exact h.1
   · exact ih h.2 he
section
set_option maxHeartbeats 16000000
set_option maxRecDepth 100000
set_option maxRecDepth 100000 in
theorem px_join {es : List Ex} (ih : ∀ e ∈ es,PxP e) : PxP (.join es):=by
 intro b l w o t m a A n d X h hT ht hX hwf hlen
 have hbl:=h.lt
 obtain ⟨ho,hm,htt,ks,hk,hr,hnd⟩:=ht.inv
 rw [tE_join] at hlen ⊢
 obtain rfl : o = ⟨#[106,111,105,110]⟩:=ho
 have hwl:=hwf.2
 clear hwf
 have hnb : n ≤ 10000000000001:=by have h1:=rend_j_num es;have h2:=hk.len;have h3:=hr.1;have h4 : ks.length = es.length:=h2;simp only [List.length_append] at hlen;omega
 have hln : es.length = n:=by have h2:=hk.len;have h3:=hr.1;have h4 : ks.length = es.length:=h2;omega
 have HLN:=hid hln
 have HIH:=hid ih
 have HWL:=hid hwl
 have HTK:=hid (show TrV X w es ks from hk)
 have HRR:=hid (hr.rr (B:=b) hX)
 have HX:=hid hX
 have HTB:=hid hT
 have HN:=hid hlen
 have hba : Below w.heap.size w (w.alloc (.cells #[.string ⟨#[106,111,105,110]⟩,.int .i64 m,.string t,.int .i64 a,.slice A n d] 55)):=(Below.refl _ w).alloc (Nat.le_refl _) _
 have HP1:=hid (h.later hba)
 have HF1:=hid (show Fb b w _ from Fb.of hba)
 have HE1:=hid (show EB (w.alloc (.cells #[.string ⟨#[106,111,105,110]⟩,.int .i64 m,.string t,.int .i64 a,.slice A n d] 55)) w.heap.size (.string ⟨#[106,111,105,110]⟩) (.int .i64 m) (.string t) (.int .i64 a) (.slice A n d) from heap_alloc_new w _)
 have hs1 : b < (w.alloc (.cells #[.string ⟨#[106,111,105,110]⟩,.int .i64 m,.string t,.int .i64 a,.slice A n d] 55)).heap.size:=Nat.lt_of_lt_of_le hbl hba.size
 clear h hT ht hX hlen hk hr hln hwl ih hm htt hnd
 (try clear ho)
 go_enter Tryd.func49,Tryd.ntmps49
 go_upto_region 1 with fail
 obtain ⟨z,hz⟩ : ∃ z,w.heap.size = z:=⟨_,rfl⟩
 have hzb : b < z:=by rw [← hz];exact hbl
 rw [hz] at HE1 ⊢
 generalize (w.alloc (.cells #[.string ⟨#[106,111,105,110]⟩,.int .i64 m,.string t,.int .i64 a,.slice A n d] 55)) = w1 at *
 clear hz hba
 have y0:=HE1.out.c0
 have y1:=HE1.out.c1
 have y2:=HE1.out.c2
 have y3:=HE1.out.c3
 have y4:=HE1.out.c4
 go_wp2_with fail
 refine (write1 b l [106,111,105,110,40] ⟨#[106,111,105,110,40]⟩ w1 rfl HP1.out (by have h:=HN.out;first | (simp at h ⊢;omega) | omega | (simp at h;omega))).mono ?_
 rintro e w2 ⟨rfl,hp2,hf2⟩
 have HP2:=hid hp2
 have HF2:=hid (HF1.out.trans hf2)
 have HE2:=hid (show EB w2 z (.string ⟨#[106,111,105,110]⟩) (.int .i64 m) (.string t) (.int .i64 a) (.slice A n d) from hf2.keep HE1.out (by decide) (by omega))
 have hs2 : b < w2.heap.size:=Nat.lt_of_lt_of_le hs1 hf2.size
 clear hp2 hf2 HP1 HF1 HE1
 clear y0 y1 y2 y3 y4
 have k4:=HE2.out.c4
 have HE0:=hid (show Pr w2 b (l ++ [106,111,105,110,40] ++ rend (pcJ (es.take 0))) by simpa [pcJ,rend] using HP2.out)
 go_wp2_with fail
 clear k4 HP2 HE2
 go_loopw [45] (fun i wr=>∃ j : Nat,j ≤ n ∧ i = .int .i64 (j : Int) ∧ Pr wr b (l ++ [106,111,105,110,40] ++ rend (pcJ (es.take j))) ∧ Fb b w wr) (fun i _=>n - (intOf i).toNat)
 case atStart=>exact ⟨0,by omega,by first | rfl | simp,HE0.out,HF2.out⟩
 case round=>
   obtain ⟨j,hj,rfl,hp,hf⟩:=hrel
   have HPr:=hid hp
   have HFr:=hid hf
   have hblr : b < wr.heap.size:=Nat.lt_of_lt_of_le hbl hf.size
   have hlow:=hf.low (Nat.le_of_lt hbl)
   have HRr:=hid (HRR.out.below hlow)
   have HTr:=hid (HTK.out.keep fun g hg=>hlow.block g (HX.out g hg))
   have HTB0:=hid (HTB.out.fb hf (Nat.le_of_lt hbl))
   clear hp hf HE0 HF2 hlow hs2 hs1
   by_cases hlt : j < n
   · have hji : (j : Int) < (n : Int):=by omega
     have hwj : IntKind.i64.wrap ((j : Int) + 1) = (j : Int) + 1:=by rw [IntKind.wrap_i64];omega
     obtain ⟨ab,off,cs,hA,hbB,hcs,hcl,hrg⟩:=HRr.out.at_ hlt
     obtain ⟨ex,hx,htx⟩:=HTr.out.at_ hcs
     obtain ⟨a2,A2,n2,d2,hcs2⟩:=htx.one
     rw [exc] at hcs2
     generalize sb (exOp ex) = o2 at *
     generalize exNm ex = m2 at *
     generalize sb (exTx ex) = t2 at *
     subst hcs2
     subst hA
     have s0 : wr.cell? ⟨ab,off + j * 5,none⟩ = some (.string o2):=hrg 0 _ rfl
     have s1 : wr.cell? ⟨ab,off + j * 5 + 1,none⟩ = some (.int .i64 m2):=hrg 1 _ rfl
     have s2 : wr.cell? ⟨ab,off + j * 5 + 2,none⟩ = some (.string t2):=hrg 2 _ rfl
     have s3 : wr.cell? ⟨ab,off + j * 5 + 3,none⟩ = some (.int .i64 a2):=hrg 3 _ rfl
     have s4 : wr.cell? ⟨ab,off + j * 5 + 4,none⟩ = some (.slice A2 n2 d2):=hrg 4 _ rfl
     have HTKJ:=hid (show rend (pcJ (es.take (j + 1))) = rend (pcJ (es.take j)) ++ ((if es.take j = [] then [] else [44,32]) ++ tE ex) by rw [List.take_add_one,hx];exact rend_j _ ex)
     have HLE:=hid (rend_j_len es (j + 1))
     have hjn : (es.take j = []) ↔ j = 0:=by
       have:=HLN.out
       rw [List.take_eq_nil_iff]
       constructor
       · rintro (h | h)
         · exact h
         · subst h;simp at this;omega
       · exact .inl
     have HPX:=hid (HIH.out ex (List.mem_of_getElem? hx))
     have HWX:=hid (wfL_mem HWL.out (List.mem_of_getElem? hx))
     have hba : Below wr.heap.size wr (wr.alloc (.cells #[.string o2,.int .i64 m2,.string t2,.int .i64 a2,.slice A2 n2 d2] 55)):=(Below.refl _ wr).alloc (Nat.le_refl _) _
     have HP1:=hid (HPr.out.later hba)
     have HF1:=hid (HFr.out.trans (Fb.of hba))
     have HY1:=hid (show EB (wr.alloc (.cells #[.string o2,.int .i64 m2,.string t2,.int .i64 a2,.slice A2 n2 d2] 55)) wr.heap.size (.string o2) (.int .i64 m2) (.string t2) (.int .i64 a2) (.slice A2 n2 d2) from heap_alloc_new wr _)
     have hs1 : b < (wr.alloc (.cells #[.string o2,.int .i64 m2,.string t2,.int .i64 a2,.slice A2 n2 d2] 55)).heap.size:=Nat.lt_of_lt_of_le hblr hba.size
     have HTX1:=hid (htx.keep fun g hg=>hba.block g (Nat.lt_trans (HX.out g hg) hblr))
     have HTB1:=hid (HTB0.out.on hba (Nat.le_of_lt hblr))
     clear hcl hrg hcs hx htx
     go_upto_region 14 with fail
     obtain ⟨y,hy⟩ : ∃ y,wr.heap.size = y:=⟨_,rfl⟩
     have hyb : b < y:=by rw [← hy];exact hblr
     rw [hy] at HY1 ⊢
     clear hy s0 s1 s2 s3 s4 hba HPr HFr HRr HTr HTB0
     generalize (wr.alloc (.cells #[.string o2,.int .i64 m2,.string t2,.int .i64 a2,.slice A2 n2 d2] 55)) = w1 at *
     rcases Nat.eq_zero_or_pos j with h0 | h0
     · have ng : ¬ ((0 : Int) < (j : Int)):=by omega
       have HTE:=hid (show rend (pcJ (es.take (j + 1))) = rend (pcJ (es.take j)) ++ tE ex by rw [HTKJ.out,if_pos (hjn.2 h0),List.nil_append])
       have HM:=HN
       clear HN
       have HN:=hid (show (l ++ [106,111,105,110,40] ++ rend (pcJ (es.take j)) ++ tE ex).length ≤ 10000000000000 by have h1:=HM.out;have h2:=HLE.out;rw [HTE.out] at h2;simp only [List.length_append] at h1 h2 ⊢;omega)
       clear h0 hjn HTKJ HLE
       have y0:=HY1.out.c0
       have y1:=HY1.out.c1
       have y2:=HY1.out.c2
       have y3:=HY1.out.c3
       have y4:=HY1.out.c4
       go_wp2_with fail
       refine (HPX.out b (l ++ [106,111,105,110,40] ++ rend (pcJ (es.take j))) w1 o2 t2 m2 a2 A2 n2 d2 X HP1.out HTB1.out HTX1.out HX.out HWX.out (by have h:=HN.out;simpa only [List.append_assoc] using h)).mono ?_
       rintro e w2 ⟨rfl,hp2,hf2⟩
       have HP2:=hid hp2
       have HF2:=hid (HF1.out.trans hf2)
       have HY2:=hid (show EB w2 y (.string o2) (.int .i64 m2) (.string t2) (.int .i64 a2) (.slice A2 n2 d2) from hf2.keep HY1.out (by decide) (by omega))
       have HTX2:=hid (HTX1.out.keep fun g hg=>(hf2.low (Nat.le_of_lt hs1)).block g (HX.out g hg))
       have HTB2:=hid (HTB1.out.fb hf2 (Nat.le_of_lt hs1))
       have hs2 : b < w2.heap.size:=Nat.lt_of_lt_of_le hs1 hf2.size
       clear hp2 hf2 HP1 HF1 HY1 HTX1 HTB1
       go_wp2_with fail
       exact ⟨⟨j + 1,by omega,by first | rfl | (congr 1;omega),cast (congrArg (Pr w2 b) (show ((l ++ [106,111,105,110,40] ++ rend (pcJ (es.take j))) ++ tE ex) = l ++ [106,111,105,110,40] ++ rend (pcJ (es.take (j + 1))) from by rw [HTE.out];simp only [List.append_assoc])) HP2.out,HF2.out⟩,by simp [intOf];omega⟩
     · have ng : (0 : Int) < (j : Int):=by omega
       have HTE:=hid (show rend (pcJ (es.take (j + 1))) = rend (pcJ (es.take j)) ++ ([44,32] ++ tE ex) by rw [HTKJ.out,if_neg (fun h=>by have:=hjn.1 h;omega)])
       have HM:=HN
       clear HN
       have HN:=hid (show (l ++ [106,111,105,110,40] ++ rend (pcJ (es.take j)) ++ [44,32] ++ tE ex).length ≤ 10000000000000 by have h1:=HM.out;have h2:=HLE.out;rw [HTE.out] at h2;simp only [List.length_append] at h1 h2 ⊢;omega)
       clear h0 hjn HTKJ HLE
       go_wp2_with fail
       refine (write1 b (l ++ [106,111,105,110,40] ++ rend (pcJ (es.take j))) [44,32] ⟨#[44,32]⟩ w1 rfl HP1.out (by have h:=HN.out;first | (simp at h ⊢;omega) | omega | (simp at h;omega))).mono ?_
       rintro e w2 ⟨rfl,hp2,hf2⟩
       have HP2:=hid hp2
       have HF2:=hid (HF1.out.trans hf2)
       have HY2:=hid (show EB w2 y (.string o2) (.int .i64 m2) (.string t2) (.int .i64 a2) (.slice A2 n2 d2) from hf2.keep HY1.out (by decide) (by omega))
       have HTX2:=hid (HTX1.out.keep fun g hg=>(hf2.low (Nat.le_of_lt hs1)).block g (HX.out g hg))
       have HTB2:=hid (HTB1.out.fb hf2 (Nat.le_of_lt hs1))
       have hs2 : b < w2.heap.size:=Nat.lt_of_lt_of_le hs1 hf2.size
       clear hp2 hf2 HP1 HF1 HY1 HTX1 HTB1
       have y0:=HY2.out.c0
       have y1:=HY2.out.c1
       have y2:=HY2.out.c2
       have y3:=HY2.out.c3
       have y4:=HY2.out.c4
       go_wp2_with fail
       refine (HPX.out b ((l ++ [106,111,105,110,40] ++ rend (pcJ (es.take j))) ++ [44,32]) w2 o2 t2 m2 a2 A2 n2 d2 X HP2.out HTB2.out HTX2.out HX.out HWX.out (by have h:=HN.out;simpa only [List.append_assoc] using h)).mono ?_
       rintro e w3 ⟨rfl,hp3,hf3⟩
       have HP3:=hid hp3
       have HF3:=hid (HF2.out.trans hf3)
       have HY3:=hid (show EB w3 y (.string o2) (.int .i64 m2) (.string t2) (.int .i64 a2) (.slice A2 n2 d2) from hf3.keep HY2.out (by decide) (by omega))
       have HTX3:=hid (HTX2.out.keep fun g hg=>(hf3.low (Nat.le_of_lt hs2)).block g (HX.out g hg))
       have HTB3:=hid (HTB2.out.fb hf3 (Nat.le_of_lt hs2))
       have hs3 : b < w3.heap.size:=Nat.lt_of_lt_of_le hs2 hf3.size
       clear hp3 hf3 HP2 HF2 HY2 HTX2 HTB2
       go_wp2_with fail
       exact ⟨⟨j + 1,by omega,by first | rfl | (congr 1;omega),cast (congrArg (Pr w3 b) (show (((l ++ [106,111,105,110,40] ++ rend (pcJ (es.take j))) ++ [44,32]) ++ tE ex) = l ++ [106,111,105,110,40] ++ rend (pcJ (es.take (j + 1))) from by rw [HTE.out];simp only [List.append_assoc])) HP3.out,HF3.out⟩,by simp [intOf];omega⟩
   · have hge : ¬ ((j : Int) < (n : Int)):=by omega
     have HE:=hid (show es.take j = es from List.take_of_length_le (by rw [HLN.out];omega))
     have HP0:=hid (show Pr wr b (l ++ [106,111,105,110,40] ++ rend (pcJ es)) by have:=HPr.out;rwa [HE.out] at this)
     have HF0:=HFr
     have hs0:=hblr
     clear HPr HFr
     have hw0 : ∃ w0,w0 = wr:=⟨_,rfl⟩
     obtain ⟨w0,hw0⟩:=hw0
     subst hw0
     go_wp2_with fail
     refine (write1 b (l ++ [106,111,105,110,40] ++ rend (pcJ es)) [41] ⟨#[41]⟩ w0 rfl HP0.out (by have h:=HN.out;first | (simp at h ⊢;omega) | omega | (simp at h;omega))).mono ?_
     rintro e w1 ⟨rfl,hp1,hf1⟩
     have HP1:=hid hp1
     have HF1:=hid (HF0.out.trans hf1)
     have hs1 : b < w1.heap.size:=Nat.lt_of_lt_of_le hs0 hf1.size
     clear hp1 hf1 HP0 HF0
     go_wp2_with fail
     go_end0
     exact ⟨rfl,cast (congrArg (Pr w1 b) (show ((l ++ [106,111,105,110,40] ++ rend (pcJ es)) ++ [41]) = l ++ ([106,111,105,110,40] ++ (rend (pcJ es) ++ [41])) from by simp only [List.append_assoc])) HP1.out,HF1.out⟩
end
end Go.Proofs.YtgmjpnnblhkbpaaDoor
