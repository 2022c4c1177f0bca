/-
  Contracts of scanner.name and scanner.number. Conditions: the source's size.
-/
import Derived.Test.YtgmjpnnblhkbpaaDoorSqM
namespace Go.Proofs.YtgmjpnnblhkbpaaDoor
open Go Go.RowKit Go.Sh Tx
open Go.Lib (hid)
set_option maxRecDepth 100000 in
theorem TTk : STy Tryd.prog 32 73 (.agg #[.int .i64 0,.string .empty,.int .i64 0,.int .i64 0]) 4 40:=⟨Tryd.underlying32,by kernel_rfl,rfl,by decide⟩
def tkc (t : Tk × Int) : List Value:=[.int .i64 t.1.kind,.string (sb t.1.text),.int .i64 t.1.num,.int .i64 t.2]
def tkv (ts : List (Tk × Int)) : List Value:=(ts.map tkc).flatten
theorem tkv_len (ts : List (Tk × Int)) : (tkv ts).length = ts.length * 4:=by
 unfold tkv
 induction ts with
 | nil=>rfl
 | cons i l ih=>rw [List.map_cons,List.flatten_cons,List.length_append,ih];simp [tkc];omega
theorem tkv_app (a b : List (Tk × Int)) : tkv (a ++ b) = tkv a ++ tkv b:=by simp [tkv]
theorem tkv_one (l : List (Tk × Int)) : ∀ u ∈ tkv l,u.oneCell' = true:=by
 intro u hu
 simp only [tkv,List.mem_flatten,List.mem_map] at hu
 obtain ⟨cs,⟨i,_,rfl⟩,hu⟩:=hu
 simp only [tkc,List.mem_cons,List.not_mem_nil,or_false] at hu
 rcases hu with rfl | rfl | rfl | rfl <;> rfl
def Sn (w : World) (q : Nat) (l : Bs) (k : Nat) (ts : List (Tk × Int)) : Prop:=
 ∃ A n c,w.heap[q]? = some (.cells #[.string (sb l),.int .i64 (k : Int),.slice A n c] 68 (0,0)) ∧ w.ownsRow (q + 1) 73 4 (.slice A n c) n (tkv ts)
section
variable {w w' : World} {q k : Nat} {l : Bs} {ts : List (Tk × Int)}
theorem Sn.src (h : Sn w q l k ts) : w.cell? ⟨q,0,none⟩ = some (.string (sb l)):=by obtain ⟨A,n,c,h,_⟩:=h;exact blk_cell h
theorem Sn.place (h : Sn w q l k ts) : w.cell? ⟨q,1,none⟩ = some (.int .i64 (k : Int)):=by obtain ⟨A,n,c,h,_⟩:=h;exact blk_cell h
theorem Sn.free (h : Sn w q l k ts) (i : Nat) : w.frozen? ⟨q,i,none⟩ = false:=by obtain ⟨A,n,c,h,_⟩:=h;exact frozen_of_row _ _ i _ _ h
theorem Sn.lt (h : Sn w q l k ts) : q < w.heap.size:=by obtain ⟨A,n,c,h,_⟩:=h;exact (Array.getElem?_eq_some_iff.1 h).1
theorem Sn.drewN (h : Sn w q l k ts) (n : Nat) : Sn (w.drewN n) q l k ts:=h
theorem Sn.drew (h : Sn w q l k ts) : Sn w.drew q l k ts:=h
theorem Sn.goto (h : Sn w q l k ts) (k' : Nat) : Sn (w.setCell ⟨q,1,none⟩ (.int .i64 (k' : Int))) q l k' ts:=by
 obtain ⟨A,n,c,h,ho⟩:=h
 exact ⟨A,n,c,blk_set h _,ownsRow_setCell_below ho (a:=⟨q,1,none⟩) (Nat.lt_succ_self q) _⟩
end
theorem ib_iff (c : UInt8) : ∀ l : Bs,0 ≤ Lib.indexByte l c ↔ l.contains c = true
 | []=>by simp [Lib.indexByte]
 | b :: l=>by
   have ih:=ib_iff c l
   rw [Lib.indexByte,List.contains_cons]
   by_cases hb : b = c
   · subst hb;simp
   · have h1 : (b == c) = false:=by rw [beq_eq_false_iff_ne];exact hb
     have h2 : (c == b) = false:=by rw [beq_eq_false_iff_ne];exact fun e=>hb e.symm
     rw [h1,h2,Bool.false_or,← ih]
     have h3 : -1 ≤ Lib.indexByte l c:=by
       clear ih h1 h2
       induction l with
       | nil=>simp [Lib.indexByte]
       | cons x l i=>
         rw [Lib.indexByte]
         split
         · omega
         · split <;> omega
     by_cases h4 : (Lib.indexByte l c == -1) = true
     · rw [h4]
       have:=of_decide_eq_true h4
       simp;omega
     · rw [Bool.not_eq_true] at h4
       rw [h4]
       rw [beq_eq_false_iff_ne] at h4
       simp;omega
theorem drop_cons {l : Bs} {k : Nat} (hk : k < l.length) : l.drop k = bk l k :: l.drop (k + 1):=by
 rw [List.drop_eq_getElem_cons hk]
 congr 1
 rw [bk,List.getD_eq_getElem?_getD,List.getElem?_eq_getElem hk];rfl
theorem skip_blank1 {l : Bs} {k : Nat} (hk : k < l.length) (h : isB (bk l k) = true) : skipC false (l.drop k) = skipC false (l.drop (k + 1)):=by rw [drop_cons hk,skipC,if_pos h]
theorem skip_hash {l : Bs} {k : Nat} (hk : k < l.length) (h : isB (bk l k) = false) (h2 : bk l k = 35) : skipC false (l.drop k) = skipC true (l.drop k):=by
 have e1 : ∀ (c : UInt8) (r : Bs),isB c = false → c = 35 → skipC false (c :: r) = skipC true r:=fun c r a b=>by rw [skipC,if_neg (by rw [a];decide),if_pos b]
 have e2 : ∀ (c : UInt8) (r : Bs),c = 35 → skipC true (c :: r) = skipC true r:=fun c r b=>by rw [skipC,if_neg (by rw [b];decide)]
 rw [drop_cons hk,e1 _ _ h h2,e2 _ _ h2]
theorem skip_in {l : Bs} {k : Nat} (hk : k < l.length) (h : bk l k ≠ 10) : skipC true (l.drop k) = skipC true (l.drop (k + 1)):=by rw [drop_cons hk,skipC,if_neg h]
theorem skip_out {l : Bs} {k : Nat} (hk : k < l.length) (h : bk l k = 10) : skipC true (l.drop k) = skipC false (l.drop k):=by
 rw [drop_cons hk,skipC,if_pos h,skipC,if_pos (by rw [h];decide)]
theorem skip_stop {l : Bs} {k : Nat} (hk : k < l.length) (h : isB (bk l k) = false) (h2 : bk l k ≠ 35) : skipC false (l.drop k) = l.drop k:=by
 rw [drop_cons hk,skipC,if_neg (by rw [h];decide),if_neg h2]
theorem skip_end {l : Bs} {k : Nat} (b : Bool) (hk : l.length ≤ k) : skipC b (l.drop k) = []:=by
 rw [List.drop_eq_nil_of_le hk];cases b <;> rfl
def mS (l : Bs) (q : Nat) (w : World) : Nat:=l.length - (intOf ((w.cell? ⟨q,1,none⟩).getD undef)).toNat
theorem mS_of {w : World} {l : Bs} {q k : Nat} {ts : List (Tk × Int)} (h : Sn w q l k ts) : mS l q w = l.length - k:=by
 unfold mS
 rw [h.place]
 simp [intOf]
set_option maxHeartbeats 4000000 in
set_option maxRecDepth 100000 in
theorem skip_any (q : Nat) (l : Bs) (k : Nat) (ts : List (Tk × Int)) (w : World) (h : Sn w q l k ts) (hk : k ≤ l.length) (hl : l.length ≤ 8000) :
   Calls Tryd.prog 18 #[.pointer (some ⟨q,0,none⟩)] w fun e w'=>e = .returned (.tuple #[]) ∧ ∃ k',k ≤ k' ∧ k' ≤ l.length ∧ l.drop k' = skipC false (l.drop k) ∧ Sn w' q l k' ts ∧ Below q w w':=by
 have hsz : (sb l).size = l.length:=sb_size l
 have HIX:=hid (index_sb l)
 have HIB:=hid (fun c W=>IndexByte_any ⟨#[32,9,10]⟩ c W)
 have HSN:=hid h
 obtain ⟨R,hR⟩ : ∃ R,skipC false (l.drop k) = R:=⟨_,rfl⟩
 rw [hR]
 have HR:=hid hR
 clear hR h
 obtain ⟨S,hS⟩ : ∃ S,sb l = S:=⟨_,rfl⟩
 have HS:=hid hS
 rw [hS] at hsz HIX
 clear hS
 go_enter Tryd.func18,Tryd.ntmps18
 go_wp2_with fail
 go_loopw [12,31] (fun _ _ wr=>∃ j : Nat,k ≤ j ∧ j ≤ l.length ∧ skipC false (l.drop j) = R ∧ Sn wr q l j ts ∧ Below q w wr) (fun _ _ wr=>mS l q wr)
 case atStart=>exact ⟨k,Nat.le_refl _,hk,HR.out,HSN.out,Below.refl _ _⟩
 case round=>
   obtain ⟨j,hkj,hj,hr,hs,hb⟩:=hrel
   have HRJ:=hid hr
   have HSJ:=hid hs
   have HBJ:=hid hb
   have HMS:=hid (mS_of hs)
   have c0 : wr.cell? ⟨q,0,none⟩ = some (.string S):=by rw [← HS.out];exact hs.src
   have c1 : wr.cell? ⟨q,1,none⟩ = some (.int .i64 (j : Int)):=hs.place
   have f1 : wr.frozen? ⟨q,1,none⟩ = false:=hs.free 1
   clear hr hs hb
   by_cases hlt : j < l.length
   · have hix := HIX.out j hlt
     have hji : (j : Int) < (l.length : Int):=by omega
     obtain ⟨c,hc⟩ : ∃ c,bk l j = c:=⟨_,rfl⟩
     have HC:=hid hc
     rw [hc] at hix
     obtain ⟨ib,hib⟩ : ∃ ib,Lib.indexByte [32,9,10] c = ib:=⟨_,rfl⟩
     have HBI:=hid (show ∀ W : World,Calls Tryd.prog 40 #[.string ⟨#[32,9,10]⟩,.int .u8 (c.toNat : Int)] W fun e w'=>e = .returned (.int .i64 ib) ∧ w' = W from fun W=>by have:=HIB.out c W;rwa [hib] at this)
     have HII:=hid (show 0 ≤ ib ↔ isB c = true by rw [← hib];exact ib_iff c [32,9,10])
     clear hc hib
     by_cases h0 : 0 ≤ ib
     · have HBL:=hid (skip_blank1 hlt (by rw [HC.out];exact HII.out.1 h0))
       go_wp2_with fail
       go_quiet (fail)
       have HQ_wq:=hid (HSJ.out.drewN nq)
       have HB_wq:=hid (show Below q w (wr.drewN nq) from ⟨HBJ.out.os,HBJ.out.tape,HBJ.out.output,HBJ.out.size,HBJ.out.block⟩)
       have g0 : (wr.drewN nq).cell? ⟨q,0,none⟩ = some (.string S):=c0
       have g1 : (wr.drewN nq).cell? ⟨q,1,none⟩ = some (.int .i64 (j : Int)):=c1
       have gf : (wr.drewN nq).frozen? ⟨q,1,none⟩ = false:=f1
       clear c0 c1 f1
       have c0:=g0
       have c1:=g1
       have f1:=gf
       clear g0 g1 gf
       generalize wr.drewN nq = wq at *
       go_wp2_with fail
       go_quiet ((go_at_call 40;exact (HBI.out _).mono fun e w'' h=>⟨h.1,_,h.2⟩))
       have HQ_wt:=hid (HQ_wq.out.drewN nq)
       have HB_wt:=hid (show Below q w (wq.drewN nq) from ⟨HB_wq.out.os,HB_wq.out.tape,HB_wq.out.output,HB_wq.out.size,HB_wq.out.block⟩)
       have g0 : (wq.drewN nq).cell? ⟨q,0,none⟩ = some (.string S):=c0
       have g1 : (wq.drewN nq).cell? ⟨q,1,none⟩ = some (.int .i64 (j : Int)):=c1
       have gf : (wq.drewN nq).frozen? ⟨q,1,none⟩ = false:=f1
       clear c0 c1 f1
       have c0:=g0
       have c1:=g1
       have f1:=gf
       clear g0 g1 gf
       generalize wq.drewN nq = wt at *
       have HN:=hid (HQ_wt.out.goto (j + 1))
       have HBN:=hid (HB_wt.out.setCell (p:=⟨q,1,none⟩) (Nat.le_refl q) (.int .i64 ((j + 1 : Nat) : Int)))
       go_wp2_with fail
       exact ⟨⟨j + 1,by omega,by omega,by rw [← HBL.out];exact HRJ.out,HN.out,HBN.out⟩,by rw [HMS.out];exact Nat.lt_of_le_of_lt (Nat.le_of_eq (mS_of HN.out)) (by omega)⟩
     · have hnb : isB (bk l j) = false:=by rw [HC.out];cases hh : isB c with | false=>rfl | true=>exact absurd (HII.out.2 hh) h0
       have HNB:=hid hnb
       clear hnb
       by_cases h35 : c = 35
       · have HHS:=hid (skip_hash hlt HNB.out (by rw [HC.out];exact h35))
         have h35b : ((c.toNat : Int) == 35) = true:=by rw [h35];rfl
         have H35:=hid h35
         clear h35
         go_wp2_with fail
         go_quiet (fail)
         have HQ_wq:=hid (HSJ.out.drewN nq)
         have HB_wq:=hid (show Below q w (wr.drewN nq) from ⟨HBJ.out.os,HBJ.out.tape,HBJ.out.output,HBJ.out.size,HBJ.out.block⟩)
         have g0 : (wr.drewN nq).cell? ⟨q,0,none⟩ = some (.string S):=c0
         have g1 : (wr.drewN nq).cell? ⟨q,1,none⟩ = some (.int .i64 (j : Int)):=c1
         have gf : (wr.drewN nq).frozen? ⟨q,1,none⟩ = false:=f1
         clear c0 c1 f1
         have c0:=g0
         have c1:=g1
         have f1:=gf
         clear g0 g1 gf
         generalize wr.drewN nq = wq at *
         go_wp2_with fail
         go_quiet ((go_at_call 40;exact (HBI.out _).mono fun e w'' h=>⟨h.1,_,h.2⟩))
         have HQ_wt:=hid (HQ_wq.out.drewN nq)
         have HB_wt:=hid (show Below q w (wq.drewN nq) from ⟨HB_wq.out.os,HB_wq.out.tape,HB_wq.out.output,HB_wq.out.size,HB_wq.out.block⟩)
         have g0 : (wq.drewN nq).cell? ⟨q,0,none⟩ = some (.string S):=c0
         have g1 : (wq.drewN nq).cell? ⟨q,1,none⟩ = some (.int .i64 (j : Int)):=c1
         have gf : (wq.drewN nq).frozen? ⟨q,1,none⟩ = false:=f1
         clear c0 c1 f1
         have c0:=g0
         have c1:=g1
         have f1:=gf
         clear g0 g1 gf
         generalize wq.drewN nq = wt at *
         go_wp2_with fail
         go_quiet (fail)
         have HQ_wz:=hid (HQ_wt.out.drewN nq)
         have HB_wz:=hid (show Below q w (wt.drewN nq) from ⟨HB_wt.out.os,HB_wt.out.tape,HB_wt.out.output,HB_wt.out.size,HB_wt.out.block⟩)
         have g0 : (wt.drewN nq).cell? ⟨q,0,none⟩ = some (.string S):=c0
         have g1 : (wt.drewN nq).cell? ⟨q,1,none⟩ = some (.int .i64 (j : Int)):=c1
         have gf : (wt.drewN nq).frozen? ⟨q,1,none⟩ = false:=f1
         clear c0 c1 f1
         have c0:=g0
         have c1:=g1
         have f1:=gf
         clear g0 g1 gf
         generalize wt.drewN nq = wz at *
         clear h35b hix hji
         go_wp2_with fail
         clear c0 c1 f1
         have HR1:=hid (show skipC true (l.drop j) = R by rw [← HHS.out];exact HRJ.out)
         go_loopw [63] (fun _ wi=>∃ i : Nat,j ≤ i ∧ i ≤ l.length ∧ skipC true (l.drop i) = R ∧ Sn wi q l i ts ∧ Below q w wi) (fun _ wi=>mS l q wi)
         case atStart=>exact ⟨j,Nat.le_refl _,by omega,HR1.out,HQ_wz.out,HB_wz.out⟩
         case round=>
           obtain ⟨i,hji2,hi,hr,hs,hb⟩:=hrel
           obtain ⟨wi,hwi⟩ : ∃ wi,wi = wr:=⟨_,rfl⟩
           subst hwi
           have HRI:=hid hr
           have HSI:=hid hs
           have HBI2:=hid hb
           have HMI:=hid (mS_of hs)
           have c0 : wi.cell? ⟨q,0,none⟩ = some (.string S):=by rw [← HS.out];exact hs.src
           have c1 : wi.cell? ⟨q,1,none⟩ = some (.int .i64 (i : Int)):=hs.place
           have f1 : wi.frozen? ⟨q,1,none⟩ = false:=hs.free 1
           clear hr hs hb
           by_cases hil : i < l.length
           · have hix:=HIX.out i hil
             have hii : (i : Int) < (l.length : Int):=by omega
             obtain ⟨d,hd⟩ : ∃ d,bk l i = d:=⟨_,rfl⟩
             have HD:=hid hd
             rw [hd] at hix
             clear hd
             by_cases h10 : d = 10
             · have h10b : ((d.toNat : Int) != 10) = false:=by rw [h10];rfl
               have HOU:=hid (skip_out hil (by rw [HD.out];exact h10))
               have hne : i ≠ j:=by
                 intro e
                 subst e
                 have h1:=HD.out
                 rw [HC.out,H35.out,h10] at h1
                 exact absurd h1 (by decide)
               clear h10
               go_wp2_with fail
               go_quiet (fail)
               have HQI:=hid (HSI.out.drewN nq)
               have HBI3:=hid (show Below q w (wi.drewN nq) from ⟨HBI2.out.os,HBI2.out.tape,HBI2.out.output,HBI2.out.size,HBI2.out.block⟩)
               go_wp2_with fail
               exact ⟨⟨i,by omega,by omega,by rw [← HOU.out];exact HRI.out,HQI.out,HBI3.out⟩,by rw [HMS.out];exact Nat.lt_of_le_of_lt (Nat.le_of_eq (mS_of HQI.out)) (by omega)⟩
             · have h10b : ((d.toNat : Int) != 10) = true:=by rw [bne_iff_ne];intro e;apply h10;apply UInt8.toNat_inj.1;show d.toNat = 10;omega
               have HIN:=hid (skip_in hil (by rw [HD.out];exact h10))
               clear h10
               go_wp2_with fail
               go_quiet (fail)
               have HQI:=hid (HSI.out.drewN nq)
               have HBI3:=hid (show Below q w (wi.drewN nq) from ⟨HBI2.out.os,HBI2.out.tape,HBI2.out.output,HBI2.out.size,HBI2.out.block⟩)
               have g1 : (wi.drewN nq).cell? ⟨q,1,none⟩ = some (.int .i64 (i : Int)):=c1
               have gf : (wi.drewN nq).frozen? ⟨q,1,none⟩ = false:=f1
               clear c0 c1 f1
               generalize wi.drewN nq = wj at *
               have HN:=hid (HQI.out.goto (i + 1))
               have HBN:=hid (HBI3.out.setCell (p:=⟨q,1,none⟩) (Nat.le_refl q) (.int .i64 ((i + 1 : Nat) : Int)))
               go_wp2_with fail
               exact ⟨⟨i + 1,by omega,by omega,by rw [← HIN.out];exact HRI.out,HN.out,HBN.out⟩,by rw [HMI.out];exact Nat.lt_of_le_of_lt (Nat.le_of_eq (mS_of HN.out)) (by omega)⟩
           · have hii : ¬ (i : Int) < (l.length : Int):=by omega
             have HEN:=hid (skip_end (l:=l) (k:=i) true (by omega))
             have HEF:=hid (skip_end (l:=l) (k:=i) false (by omega))
             go_wp2_with fail
             go_quiet (fail)
             have HQI:=hid (HSI.out.drewN nq)
             have HBI3:=hid (show Below q w (wi.drewN nq) from ⟨HBI2.out.os,HBI2.out.tape,HBI2.out.output,HBI2.out.size,HBI2.out.block⟩)
             go_wp2_with fail
             exact ⟨⟨i,by omega,by omega,by rw [HEF.out,← HRI.out,HEN.out],HQI.out,HBI3.out⟩,by rw [HMS.out];exact Nat.lt_of_le_of_lt (Nat.le_of_eq (mS_of HQI.out)) (by omega)⟩
       · have HSP:=hid (skip_stop hlt HNB.out (by rw [HC.out];exact h35))
         have h35b : ((c.toNat : Int) == 35) = false:=by rw [beq_eq_false_iff_ne];intro e;apply h35;apply UInt8.toNat_inj.1;show c.toNat = 35;omega
         clear h35
         go_wp2_with fail
         go_quiet (fail)
         have HQ_wq:=hid (HSJ.out.drewN nq)
         have HB_wq:=hid (show Below q w (wr.drewN nq) from ⟨HBJ.out.os,HBJ.out.tape,HBJ.out.output,HBJ.out.size,HBJ.out.block⟩)
         have g0 : (wr.drewN nq).cell? ⟨q,0,none⟩ = some (.string S):=c0
         have g1 : (wr.drewN nq).cell? ⟨q,1,none⟩ = some (.int .i64 (j : Int)):=c1
         have gf : (wr.drewN nq).frozen? ⟨q,1,none⟩ = false:=f1
         clear c0 c1 f1
         have c0:=g0
         have c1:=g1
         have f1:=gf
         clear g0 g1 gf
         generalize wr.drewN nq = wq at *
         go_wp2_with fail
         go_quiet ((go_at_call 40;exact (HBI.out _).mono fun e w'' h=>⟨h.1,_,h.2⟩))
         have HQ_wt:=hid (HQ_wq.out.drewN nq)
         have HB_wt:=hid (show Below q w (wq.drewN nq) from ⟨HB_wq.out.os,HB_wq.out.tape,HB_wq.out.output,HB_wq.out.size,HB_wq.out.block⟩)
         have g0 : (wq.drewN nq).cell? ⟨q,0,none⟩ = some (.string S):=c0
         have g1 : (wq.drewN nq).cell? ⟨q,1,none⟩ = some (.int .i64 (j : Int)):=c1
         have gf : (wq.drewN nq).frozen? ⟨q,1,none⟩ = false:=f1
         clear c0 c1 f1
         have c0:=g0
         have c1:=g1
         have f1:=gf
         clear g0 g1 gf
         generalize wq.drewN nq = wt at *
         go_wp2_with fail
         go_quiet (fail)
         have HQ_wz:=hid (HQ_wt.out.drewN nq)
         have HB_wz:=hid (show Below q w (wt.drewN nq) from ⟨HB_wt.out.os,HB_wt.out.tape,HB_wt.out.output,HB_wt.out.size,HB_wt.out.block⟩)
         have g0 : (wt.drewN nq).cell? ⟨q,0,none⟩ = some (.string S):=c0
         have g1 : (wt.drewN nq).cell? ⟨q,1,none⟩ = some (.int .i64 (j : Int)):=c1
         have gf : (wt.drewN nq).frozen? ⟨q,1,none⟩ = false:=f1
         clear c0 c1 f1
         have c0:=g0
         have c1:=g1
         have f1:=gf
         clear g0 g1 gf
         generalize wt.drewN nq = wz at *
         go_wp2_with fail
         refine bodyPost_ret (results_none rfl _ _ _) rfl ?_
         exact ⟨rfl,j,by omega,by omega,by rw [← HSP.out];exact HRJ.out,HQ_wz.out,HB_wz.out⟩
   · have hji : ¬ (j : Int) < (l.length : Int):=by omega
     go_wp2_with fail
     go_quiet (fail)
     have HQ_wq:=hid (HSJ.out.drewN nq)
     have HB_wq:=hid (show Below q w (wr.drewN nq) from ⟨HBJ.out.os,HBJ.out.tape,HBJ.out.output,HBJ.out.size,HBJ.out.block⟩)
     have g0 : (wr.drewN nq).cell? ⟨q,0,none⟩ = some (.string S):=c0
     have g1 : (wr.drewN nq).cell? ⟨q,1,none⟩ = some (.int .i64 (j : Int)):=c1
     have gf : (wr.drewN nq).frozen? ⟨q,1,none⟩ = false:=f1
     clear c0 c1 f1
     have c0:=g0
     have c1:=g1
     have f1:=gf
     clear g0 g1 gf
     generalize wr.drewN nq = wq at *
     go_wp2_with fail
     go_end0
     exact ⟨rfl,j,by omega,by omega,by rw [List.drop_eq_nil_of_le (by omega),← HRJ.out,skip_end _ (by omega)],HQ_wq.out,HB_wq.out⟩
end Go.Proofs.YtgmjpnnblhkbpaaDoor
namespace Go.Proofs.YtgmjpnnblhkbpaaDoor
open Go Go.RowKit Go.Sh Tx
open Go.Lib (hid)
theorem wpAnyU_one {P : Program} {ops : Array Oper} {Q : Exit → Act → World → Prop} {md : Region.Mode} {S : World → Prop} {c i : Nat} {o : Oper} {fuel : Nat} {listed : Array Bool} {a : Act} {w : World} (ho : ops[i]? = some o) (hci : i ≠ c) (hr : Region.ready md ops listed = [i]) (hw : Region.wanted o (yielded ops a.tmps) = true)
   (h : ∀ K : Act → World → Prop,(∀ a' w',S w' → wpAnyU P md ops Q S c fuel (listed.setIfInBounds i true) a' w' → K a' w') → o.wp P a w K Q) : wpAnyU P md ops Q S c (fuel + 1) listed a w:=by
 refine ⟨fun h0=>(by rw [hr] at h0;cases h0),fun j hj=>?_⟩
 rw [hr] at hj
 obtain rfl:=List.mem_singleton.1 hj
 simp only [if_neg hci]
 unfold wpOp
 simp only [ho,hw,if_true]
 exact .inl (h _ fun _ _ h1 h2=>⟨h1,h2⟩)
set_option maxHeartbeats 4000000 in
set_option maxRecDepth 100000 in
theorem add_any (q : Nat) (l : Bs) (k : Nat) (ts : List (Tk × Int)) (kind : Int) (text : Bs) (num : Int) (k' : Nat) (w : World) (h : Sn w q l k ts) (hn : ts.length ≤ 1000000) :
   Calls Tryd.prog 20 #[.pointer (some ⟨q,0,none⟩),.int .i64 kind,.string (sb text),.int .i64 num,.int .i64 (k' : Int)] w fun e w'=>e = .returned (.tuple #[]) ∧ Sn w' q l k' (ts ++ [(⟨kind,text,num⟩,(k : Int))]) ∧ Below q w w':=by
 obtain ⟨A,n,c,hblk,hown⟩:=h
 have hnl : ts.length = n:=by have:=hown.1;rw [tkv_len] at this;omega
 have hq : q < w.heap.size:=(Array.getElem?_eq_some_iff.1 hblk).1
 have KW1:=hid (show w.drew.cell? ⟨q,2,none⟩ = some (.slice A n c) from blk_cell hblk)
 have KW4:=hid (show w.drew.cell? ⟨q,1,none⟩ = some (.int .i64 (k : Int)) from blk_cell hblk)
 obtain ⟨z,hz⟩ : ∃ z,w.heap.size = z:=⟨_,rfl⟩
 have hal : Below z w (w.drew.alloc (.cells #[.int .i64 kind,.string (sb text),.int .i64 num,.int .i64 (k : Int)] 73)):=((Below.refl z w).drew).alloc (by show z ≤ w.heap.size;omega) _
 have hs3 : (w.drew.alloc (.cells #[.int .i64 kind,.string (sb text),.int .i64 num,.int .i64 (k : Int)] 73)).heap.size = z + 1:=by simp [show w.drew.heap.size = z from hz]
 have hb3:=(hal.block q (by omega)).trans hblk
 have KD1:=hid (show (w.drew.alloc (.cells #[.int .i64 kind,.string (sb text),.int .i64 num,.int .i64 (k : Int)] 73)).cell? ⟨q,2,none⟩ = some (.slice A n c) from blk_cell hb3)
 have KD4:=hid (show (w.drew.alloc (.cells #[.int .i64 kind,.string (sb text),.int .i64 num,.int .i64 (k : Int)] 73)).cell? ⟨q,1,none⟩ = some (.int .i64 (k : Int)) from blk_cell hb3)
 have hlit:=Reads.lit w.drew 73 [.int .i64 kind,.string (sb text),.int .i64 num,.int .i64 (k : Int)] 1 4 rfl z (show w.drew.heap.size = z from hz)
 have hown3:=own_later hown (show Below w.heap.size w (w.drew.alloc (.cells #[.int .i64 kind,.string (sb text),.int .i64 num,.int .i64 (k : Int)] 73)) by rw [hz];exact hal)
 obtain ⟨A8,c8,w6,hrun,hown8,hg8,_⟩:=run_app (P:=Tryd.prog) TTk (w.drew.alloc (.cells #[.int .i64 kind,.string (sb text),.int .i64 num,.int .i64 (k : Int)] 73)) 32 (q + 1) _ n (tkv ts) hown3 (z + 1) (some ⟨z,0,none⟩) 1 1 _ hlit (tkv_one [(⟨kind,text,num⟩,(k : Int))]) (by omega) (by omega) (by rw [hs3];omega)
 have hb6:=(hg8.block q (by omega) (by intro h;have:=(hown3.lt q h.symm).1;omega)).trans hb3
 have KE1:=hid (show w6.cell? ⟨q,2,none⟩ = some (.slice A n c) from blk_cell hb6)
 have KE4:=hid (show w6.cell? ⟨q,1,none⟩ = some (.int .i64 (k : Int)) from blk_cell hb6)
 have FE1:=hid (show w6.frozen? ⟨q,2,none⟩ = false from frozen_of_row _ _ 2 _ _ hb6)
 have hz6 : z + 1 ≤ w6.heap.size:=by have:=hg8.size;omega
 have hsn : Sn (w6.setCell ⟨q,2,none⟩ (.slice A8 (n + 1) c8)) q l k (ts ++ [(⟨kind,text,num⟩,(k : Int))]):=⟨A8,n + 1,c8,blk_set hb6 _,by
   rw [tkv_app]
   exact ownsRow_setCell_below hown8 (a:=⟨q,2,none⟩) (Nat.lt_succ_self q) _⟩
 have hbe : Below q w (w6.setCell ⟨q,2,none⟩ (.slice A8 (n + 1) c8)):=((hal.mono (show q ≤ z by omega)).grown hg8 (by rw [hs3];omega) (fun j hj=>by have:=(hown3.lt j hj).1;omega)).setCell (p:=⟨q,2,none⟩) (Nat.le_refl q) _
 have HSN:=hid hsn
 have HBE:=hid hbe
 have HRUN:=hid hrun
 have hsz0 : w.drew.heap.size = z:=hz
 clear hblk hown hal hb3 hlit hown3 hrun hown8 hg8 hb6 hsn hbe
 obtain ⟨X,hX⟩ : ∃ X,sb text = X:=⟨_,rfl⟩
 rw [hX] at HRUN hs3 KD1 KD4 ⊢
 clear hX
 go_enter Tryd.func20,Tryd.ntmps20
 go_upto_region 0 with fail
 refine wp_region_noPanic ?_
 refine wp_region_until (S:=fun W=>W.cell? ⟨q,2,none⟩ = some (.slice A n c) ∧ W.cell? ⟨q,1,none⟩ = some (.int .i64 (k : Int))) 17 (by kernel_rfl) ?_ (fun hHeld=>?_)
 · (try dsimp only)
   exact ⟨KW1.out,KW4.out⟩
 apply tkY 0
 apply tkY 1
 apply tkY 2
 apply tkY 3
 apply tkW 4
 apply tkY 5
 apply tkY 6
 apply tkY 7
 apply tkY 8
 apply tkY 9
 apply tkY 10
 apply tkW 11
 apply tkY 12
 refine wpAnyU_one (i:=13) rfl (by decide) (by kernel_rfl) (by rfl) (fun K' hK'=>?_)
 have HKP:=hid hK'
 clear hK'
 go_simp
 refine HKP.out _ _ ⟨KD1.out,KD4.out⟩ ?_
 clear HKP K'
 (try simp only [List.getElem_toArray,List.getElem_cons_zero,List.getElem_cons_succ,Act.put,List.setIfInBounds_toArray,List.set_cons_zero,List.set_cons_succ])
 refine wpAnyU_one (i:=14) rfl (by decide) (by kernel_rfl) (by rfl) (fun K' hK'=>?_)
 have HKP:=hid hK'
 clear hK'
 refine Lib.wp_append_run _ (.tmp 14) (.tmp 23) 32 32 rfl _ _ rfl rfl _ _ HRUN.out ?_
 refine HKP.out _ _ ⟨KE1.out,KE4.out⟩ ?_
 clear HKP K'
 (try simp only [List.getElem_toArray,List.getElem_cons_zero,List.getElem_cons_succ,Act.put,List.setIfInBounds_toArray,List.set_cons_zero,List.set_cons_succ])
 have hHeld2 : w6.cell? ⟨q,2,none⟩ = some (.slice A n c) ∧ w6.cell? ⟨q,1,none⟩ = some (.int .i64 (k : Int)):=⟨KE1.out,KE4.out⟩
 apply tkY 15
 apply tkY 16
 refine wpAnyU_at (c:=17) rfl (by kernel_rfl) (by rfl) (fun K hK=>?_)
 have HK:=hid hK
 clear hK
 have kc:=KE1.out
 have fc:=FE1.out
 go_simp
 refine HK.out _ _ ?_
 clear HK K
 (try simp only [List.getElem_toArray,List.getElem_cons_zero,List.getElem_cons_succ,Act.put,List.setIfInBounds_toArray,List.set_cons_zero,List.set_cons_succ])
 refine wpAny_done (by kernel_rfl) ?_ _
 refine NoPanic.normal ?_
 clear kc fc hHeld hHeld2
 have p1 : (w6.setCell ⟨q,2,none⟩ (.slice A8 (n + 1) c8)).cell? ⟨q,1,none⟩ = some (.int .i64 (k : Int)):=HSN.out.place
 have p2 : (w6.setCell ⟨q,2,none⟩ (.slice A8 (n + 1) c8)).frozen? ⟨q,1,none⟩ = false:=HSN.out.free 1
 clear KW1 KW4 KD1 KD4 KE1 KE4 FE1 HRUN hs3 hz6 hsz0
 generalize w6.setCell ⟨q,2,none⟩ (.slice A8 (n + 1) c8) = w7 at *
 go_wp2_with fail
 go_end0
 exact ⟨rfl,HSN.out.goto k',HBE.out.setCell (p:=⟨q,1,none⟩) (Nat.le_refl q) _⟩
end Go.Proofs.YtgmjpnnblhkbpaaDoor
namespace Go.Proofs.YtgmjpnnblhkbpaaDoor
open Go Go.RowKit Go.Sh Tx
open Go.Lib (hid)
theorem bytes_loop (bs : ByteArray) : ∀ (k i : Nat) (r : List UInt8),bs.size - i = k → ByteArray.toList.loop bs i r = r.reverse ++ bs.data.toList.drop i
 | 0,i,r,h=>by
   have hs : bs.data.toList.length = bs.size:=rfl
   unfold ByteArray.toList.loop
   rw [if_neg (by omega),List.drop_eq_nil_of_le (by omega),List.append_nil]
 | k + 1,i,r,h=>by
   have hs : bs.data.toList.length = bs.size:=rfl
   unfold ByteArray.toList.loop
   rw [if_pos (by omega),bytes_loop bs k (i + 1) _ (by omega),List.reverse_cons,List.append_assoc,List.singleton_append,List.drop_eq_getElem_cons (show i < bs.data.toList.length by omega)]
   congr 1
   congr 1
   have hi : i < bs.data.size:=by have : bs.data.size = bs.size:=rfl;omega
   show bs.data[i]! = _
   rw [getElem!_pos bs.data i hi]
   simp
theorem bytes_toList (bs : ByteArray) : bs.toList = bs.data.toList:=by
 unfold ByteArray.toList
 rw [bytes_loop bs bs.size 0 [] (by omega)]
 rfl
theorem toList_sb (x : Bs) : (sb x).toList = x:=by rw [bytes_toList,sb_list]
set_option maxHeartbeats 4000000 in
set_option maxRecDepth 100000 in
theorem reserved_any (x : Bs) (w : World) : Calls Tryd.prog 61 #[.string (sb x)] w fun e w'=>e = .returned (.bool (reserved x)) ∧ w' = w:=by
 have HX:=hid (toList_sb x)
 obtain ⟨X,hX⟩ : ∃ X,sb x = X:=⟨_,rfl⟩
 rw [hX] at HX ⊢
 clear hX
 obtain ⟨R,hR⟩ : ∃ R,reserved x = R:=⟨_,rfl⟩
 have HR:=hid hR
 rw [hR]
 clear hR
 by_cases h0 : x = [97,99,107,101,100]
 · have t0 : (X.toList == [97,99,107,101,100]) = true:=by rw [HX.out,h0];decide
   obtain rfl : R = true:=by rw [← HR.out,h0];decide
   clear h0
   go_enter Tryd.func61,Tryd.ntmps61
   go_wp2_with fail
   go_ret
   exact ⟨rfl,rfl⟩
 have t0 : (X.toList == [97,99,107,101,100]) = false:=by rw [HX.out,beq_eq_false_iff_ne];exact h0
 by_cases h1 : x = [97,102,116,101,114]
 · have t1 : (X.toList == [97,102,116,101,114]) = true:=by rw [HX.out,h1];decide
   obtain rfl : R = true:=by rw [← HR.out,h1];decide
   clear h1
   go_enter Tryd.func61,Tryd.ntmps61
   go_wp2_with fail
   go_ret
   exact ⟨rfl,rfl⟩
 have t1 : (X.toList == [97,102,116,101,114]) = false:=by rw [HX.out,beq_eq_false_iff_ne];exact h1
 by_cases h2 : x = [97,115]
 · have t2 : (X.toList == [97,115]) = true:=by rw [HX.out,h2];decide
   obtain rfl : R = true:=by rw [← HR.out,h2];decide
   clear h2
   go_enter Tryd.func61,Tryd.ntmps61
   go_wp2_with fail
   go_ret
   exact ⟨rfl,rfl⟩
 have t2 : (X.toList == [97,115]) = false:=by rw [HX.out,beq_eq_false_iff_ne];exact h2
 by_cases h3 : x = [98,108,111,99,107]
 · have t3 : (X.toList == [98,108,111,99,107]) = true:=by rw [HX.out,h3];decide
   obtain rfl : R = true:=by rw [← HR.out,h3];decide
   clear h3
   go_enter Tryd.func61,Tryd.ntmps61
   go_wp2_with fail
   go_ret
   exact ⟨rfl,rfl⟩
 have t3 : (X.toList == [98,108,111,99,107]) = false:=by rw [HX.out,beq_eq_false_iff_ne];exact h3
 by_cases h4 : x = [99,111,118,101,114]
 · have t4 : (X.toList == [99,111,118,101,114]) = true:=by rw [HX.out,h4];decide
   obtain rfl : R = true:=by rw [← HR.out,h4];decide
   clear h4
   go_enter Tryd.func61,Tryd.ntmps61
   go_wp2_with fail
   go_ret
   exact ⟨rfl,rfl⟩
 have t4 : (X.toList == [99,111,118,101,114]) = false:=by rw [HX.out,beq_eq_false_iff_ne];exact h4
 by_cases h5 : x = [101,108,115,101]
 · have t5 : (X.toList == [101,108,115,101]) = true:=by rw [HX.out,h5];decide
   obtain rfl : R = true:=by rw [← HR.out,h5];decide
   clear h5
   go_enter Tryd.func61,Tryd.ntmps61
   go_wp2_with fail
   go_ret
   exact ⟨rfl,rfl⟩
 have t5 : (X.toList == [101,108,115,101]) = false:=by rw [HX.out,beq_eq_false_iff_ne];exact h5
 by_cases h6 : x = [101,118,101,114,121]
 · have t6 : (X.toList == [101,118,101,114,121]) = true:=by rw [HX.out,h6];decide
   obtain rfl : R = true:=by rw [← HR.out,h6];decide
   clear h6
   go_enter Tryd.func61,Tryd.ntmps61
   go_wp2_with fail
   go_ret
   exact ⟨rfl,rfl⟩
 have t6 : (X.toList == [101,118,101,114,121]) = false:=by rw [HX.out,beq_eq_false_iff_ne];exact h6
 by_cases h7 : x = [105,102]
 · have t7 : (X.toList == [105,102]) = true:=by rw [HX.out,h7];decide
   obtain rfl : R = true:=by rw [← HR.out,h7];decide
   clear h7
   go_enter Tryd.func61,Tryd.ntmps61
   go_wp2_with fail
   go_ret
   exact ⟨rfl,rfl⟩
 have t7 : (X.toList == [105,102]) = false:=by rw [HX.out,beq_eq_false_iff_ne];exact h7
 by_cases h8 : x = [106,111,105,110]
 · have t8 : (X.toList == [106,111,105,110]) = true:=by rw [HX.out,h8];decide
   obtain rfl : R = true:=by rw [← HR.out,h8];decide
   clear h8
   go_enter Tryd.func61,Tryd.ntmps61
   go_wp2_with fail
   go_ret
   exact ⟨rfl,rfl⟩
 have t8 : (X.toList == [106,111,105,110]) = false:=by rw [HX.out,beq_eq_false_iff_ne];exact h8
 by_cases h9 : x = [108,101,116]
 · have t9 : (X.toList == [108,101,116]) = true:=by rw [HX.out,h9];decide
   obtain rfl : R = true:=by rw [← HR.out,h9];decide
   clear h9
   go_enter Tryd.func61,Tryd.ntmps61
   go_wp2_with fail
   go_ret
   exact ⟨rfl,rfl⟩
 have t9 : (X.toList == [108,101,116]) = false:=by rw [HX.out,beq_eq_false_iff_ne];exact h9
 by_cases h10 : x = [114,101,112,101,97,116]
 · have t10 : (X.toList == [114,101,112,101,97,116]) = true:=by rw [HX.out,h10];decide
   obtain rfl : R = true:=by rw [← HR.out,h10];decide
   clear h10
   go_enter Tryd.func61,Tryd.ntmps61
   go_wp2_with fail
   go_ret
   exact ⟨rfl,rfl⟩
 have t10 : (X.toList == [114,101,112,101,97,116]) = false:=by rw [HX.out,beq_eq_false_iff_ne];exact h10
 by_cases h11 : x = [114,101,116,114,121]
 · have t11 : (X.toList == [114,101,116,114,121]) = true:=by rw [HX.out,h11];decide
   obtain rfl : R = true:=by rw [← HR.out,h11];decide
   clear h11
   go_enter Tryd.func61,Tryd.ntmps61
   go_wp2_with fail
   go_ret
   exact ⟨rfl,rfl⟩
 have t11 : (X.toList == [114,101,116,114,121]) = false:=by rw [HX.out,beq_eq_false_iff_ne];exact h11
 by_cases h12 : x = [114,111,117,116,101]
 · have t12 : (X.toList == [114,111,117,116,101]) = true:=by rw [HX.out,h12];decide
   obtain rfl : R = true:=by rw [← HR.out,h12];decide
   clear h12
   go_enter Tryd.func61,Tryd.ntmps61
   go_wp2_with fail
   go_ret
   exact ⟨rfl,rfl⟩
 have t12 : (X.toList == [114,111,117,116,101]) = false:=by rw [HX.out,beq_eq_false_iff_ne];exact h12
 by_cases h13 : x = [115,101,110,100]
 · have t13 : (X.toList == [115,101,110,100]) = true:=by rw [HX.out,h13];decide
   obtain rfl : R = true:=by rw [← HR.out,h13];decide
   clear h13
   go_enter Tryd.func61,Tryd.ntmps61
   go_wp2_with fail
   go_ret
   exact ⟨rfl,rfl⟩
 have t13 : (X.toList == [115,101,110,100]) = false:=by rw [HX.out,beq_eq_false_iff_ne];exact h13
 by_cases h14 : x = [115,112,108,105,116]
 · have t14 : (X.toList == [115,112,108,105,116]) = true:=by rw [HX.out,h14];decide
   obtain rfl : R = true:=by rw [← HR.out,h14];decide
   clear h14
   go_enter Tryd.func61,Tryd.ntmps61
   go_wp2_with fail
   go_ret
   exact ⟨rfl,rfl⟩
 have t14 : (X.toList == [115,112,108,105,116]) = false:=by rw [HX.out,beq_eq_false_iff_ne];exact h14
 by_cases h15 : x = [116,105,109,101,115]
 · have t15 : (X.toList == [116,105,109,101,115]) = true:=by rw [HX.out,h15];decide
   obtain rfl : R = true:=by rw [← HR.out,h15];decide
   clear h15
   go_enter Tryd.func61,Tryd.ntmps61
   go_wp2_with fail
   go_ret
   exact ⟨rfl,rfl⟩
 have t15 : (X.toList == [116,105,109,101,115]) = false:=by rw [HX.out,beq_eq_false_iff_ne];exact h15
 by_cases h16 : x = [118,105,97]
 · have t16 : (X.toList == [118,105,97]) = true:=by rw [HX.out,h16];decide
   obtain rfl : R = true:=by rw [← HR.out,h16];decide
   clear h16
   go_enter Tryd.func61,Tryd.ntmps61
   go_wp2_with fail
   go_ret
   exact ⟨rfl,rfl⟩
 have t16 : (X.toList == [118,105,97]) = false:=by rw [HX.out,beq_eq_false_iff_ne];exact h16
 by_cases h17 : x = [119,97,105,116]
 · have t17 : (X.toList == [119,97,105,116]) = true:=by rw [HX.out,h17];decide
   obtain rfl : R = true:=by rw [← HR.out,h17];decide
   clear h17
   go_enter Tryd.func61,Tryd.ntmps61
   go_wp2_with fail
   go_ret
   exact ⟨rfl,rfl⟩
 have t17 : (X.toList == [119,97,105,116]) = false:=by rw [HX.out,beq_eq_false_iff_ne];exact h17
 by_cases h18 : x = [119,105,116,104]
 · have t18 : (X.toList == [119,105,116,104]) = true:=by rw [HX.out,h18];decide
   obtain rfl : R = true:=by rw [← HR.out,h18];decide
   clear h18
   go_enter Tryd.func61,Tryd.ntmps61
   go_wp2_with fail
   go_ret
   exact ⟨rfl,rfl⟩
 have t18 : (X.toList == [119,105,116,104]) = false:=by rw [HX.out,beq_eq_false_iff_ne];exact h18
 obtain rfl : R = false:=by
   rw [← HR.out,reserved,Bool.eq_false_iff]
   intro h
   have h' : x ∈ words:=by simpa using h
   simp only [words,List.mem_cons,List.not_mem_nil,or_false] at h'
   rcases h' with h | h | h | h | h | h | h | h | h | h | h | h | h | h | h | h | h | h | h
   · exact h0 h
   · exact h1 h
   · exact h2 h
   · exact h3 h
   · exact h4 h
   · exact h5 h
   · exact h6 h
   · exact h7 h
   · exact h8 h
   · exact h9 h
   · exact h10 h
   · exact h11 h
   · exact h12 h
   · exact h13 h
   · exact h14 h
   · exact h15 h
   · exact h16 h
   · exact h17 h
   · exact h18 h
 clear h0 h1 h2 h3 h4 h5 h6 h7 h8 h9 h10 h11 h12 h13 h14 h15 h16 h17 h18
 go_enter Tryd.func61,Tryd.ntmps61
 go_wp2_with fail
 go_ret
 exact ⟨rfl,rfl⟩
end Go.Proofs.YtgmjpnnblhkbpaaDoor
namespace Go.Proofs.YtgmjpnnblhkbpaaDoor
open Go Go.RowKit Go.Sh Tx
open Go.Lib (hid)
theorem bl_q {q : Nat} {w : World} (n : Nat) : Below q w (w.drewN n):=⟨rfl,rfl,rfl,Nat.le_refl _,fun _ _=>rfl⟩
def TokPost (q : Nat) (l : Bs) (k : Nat) (ts : List (Tk × Int)) (w : World) (r : TR) (e : Ending) (w' : World) : Prop:=
 match r with
 | .bad f=>e = .returned (.int .i64 ((l.length - f.length : Nat) : Int)) ∧ Below q w w'
 | .ok t u=>e = .returned (.int .i64 (-1)) ∧ ∃ k',k < k' ∧ k' ≤ l.length ∧ l.drop k' = u ∧ Sn w' q l k' (ts ++ [(t,(k : Int))]) ∧ Below q w w'
theorem take_run (p : UInt8 → Bool) : ∀ u : Bs,u.take (u.takeWhile p).length = u.takeWhile p ∧ u.drop (u.takeWhile p).length = u.dropWhile p
 | []=>⟨rfl,rfl⟩
 | c :: u=>by
   obtain ⟨h1,h2⟩:=take_run p u
   cases h : p c with
   | true=>simp [h,h1,h2]
   | false=>simp [h]
theorem run_le (l : Bs) (b : Bool) (k : Nat) (hk : k ≤ l.length) : k ≤ runE l b k ∧ runE l b k ≤ l.length:=by
 unfold runE
 have h1 : ((l.drop k).takeWhile (runP b)).length ≤ (l.drop k).length:=(List.takeWhile_prefix _).length_le
 rw [List.length_drop] at h1
 omega
theorem run_slice (l : Bs) (b : Bool) (k : Nat) : (l.drop k).take (runE l b k - k) = (l.drop k).takeWhile (runP b) ∧ l.drop (runE l b k) = (l.drop k).dropWhile (runP b):=by
 obtain ⟨h1,h2⟩:=take_run (runP b) (l.drop k)
 refine ⟨?_,?_⟩
 · rw [show runE l b k - k = ((l.drop k).takeWhile (runP b)).length by unfold runE;omega]
   exact h1
 · rw [← h2,List.drop_drop];rfl
set_option maxHeartbeats 4000000 in
set_option maxRecDepth 100000 in
theorem name_any (q : Nat) (l : Bs) (k : Nat) (ts : List (Tk × Int)) (w : World) (h : Sn w q l k ts) (hk : k < l.length) (hl : l.length ≤ 8000) (hn : ts.length ≤ 100000) (hL : isL (bk l k) = true) :
   Calls Tryd.prog 42 #[.pointer (some ⟨q,0,none⟩)] w (TokPost q l k ts w (nameT (l.drop k))):=by
 have HSN:=hid h
 have HRU:=hid (run_any q l k true w h.src (by omega) hl)
 have c0 : w.cell? ⟨q,0,none⟩ = some (.string (sb l)):=h.src
 have c1 : w.cell? ⟨q,1,none⟩ = some (.int .i64 (k : Int)):=h.place
 have hgo : k < runE l true k:=by
   have h1:=runE_go (l:=l) (b:=true) (k:=k) hk (by rw [runP_true];exact isA_of_isL hL)
   have h2:=(run_le l true (k + 1) (by omega)).1
   omega
 obtain ⟨h1,h2⟩:=run_le l true k (by omega)
 obtain ⟨h3,h4⟩:=run_slice l true k
 have hx : ((l.drop k).takeWhile (runP true)).length = runE l true k - k:=by
   rw [← h3,List.length_take,List.length_drop];omega
 rw [runP_true] at h3 h4 hx
 have HSL:=hid (slice_sb l k (runE l true k) h1 h2)
 rw [h3] at HSL
 have HDR:=hid h4
 obtain ⟨E,hE⟩ : ∃ E,runE l true k = E:=⟨_,rfl⟩
 obtain ⟨x,hxx⟩ : ∃ x,(l.drop k).takeWhile isA = x:=⟨_,rfl⟩
 have HNT:=hid (show nameT (l.drop k) = if 16 < x.length then .bad (l.drop k) else .ok ⟨if reserved x then 2 else 1,x,0⟩ (l.drop E) by rw [nameT,hxx,← hE,h4])
 rw [hE] at HRU HSL h1 h2 hgo hx
 rw [hxx] at HSL hx
 rw [HNT.out]
 have HXL:=hid hx
 have HRE:=hid (fun W=>reserved_any x W)
 clear h h3 h4 hE hxx hx HDR hL
 by_cases h16 : 16 < x.length
 · rw [if_pos h16]
   have i16 : (16 : Int) < (E : Int) - (k : Int):=by have:=HXL.out;omega
   have HP:=hid (show (l.length - (l.drop k).length : Nat) = k by rw [List.length_drop];omega)
   have hwr : IntKind.i64.wrap ((E : Int) - (k : Int)) = (E : Int) - (k : Int):=by rw [IntKind.wrap_i64];omega
   clear h16
   go_enter Tryd.func42,Tryd.ntmps42
   go_wp2_with (go_at_call 60;refine HRU.out.mono ?_;rintro e w' ⟨rfl,rfl⟩)
   go_ret
   exact ⟨by rw [HP.out];rfl,Below.refl _ _⟩
 · rw [if_neg h16]
   have i16 : ¬ (16 : Int) < (E : Int) - (k : Int):=by have:=HXL.out;omega
   have hwr : IntKind.i64.wrap ((E : Int) - (k : Int)) = (E : Int) - (k : Int):=by rw [IntKind.wrap_i64];omega
   have hsl:=HSL.out
   clear h16
   obtain ⟨R,hR⟩ : ∃ R,reserved x = R:=⟨_,rfl⟩
   rw [hR] at HRE ⊢
   clear hR
   cases R with
   | true=>
     go_enter Tryd.func42,Tryd.ntmps42
     go_wp2_with (go_at_call 60;refine HRU.out.mono ?_;rintro e w' ⟨rfl,rfl⟩)
     go_quiet (fail)
     have HAD:=hid (add_any q l k ts 2 x 0 E (w'.drewN nq) (HSN.out.drewN nq) (by omega))
     have HBD:=hid (show Below q w' (w'.drewN nq) from ⟨rfl,rfl,rfl,Nat.le_refl _,fun _ _=>rfl⟩)
     go_wp2_with (first | (go_at_call 61;refine (HRE.out _).mono ?_;rintro e w2 ⟨rfl,rfl⟩) | (go_at_call 20;refine HAD.out.mono ?_;rintro e w2 ⟨rfl,hs2,hb2⟩))
     go_ret
     exact ⟨rfl,E,hgo,h2,rfl,hs2,HBD.out.trans hb2⟩
   | false=>
     go_enter Tryd.func42,Tryd.ntmps42
     go_wp2_with (go_at_call 60;refine HRU.out.mono ?_;rintro e w' ⟨rfl,rfl⟩)
     go_quiet (fail)
     have HAD:=hid (add_any q l k ts 1 x 0 E (w'.drewN nq) (HSN.out.drewN nq) (by omega))
     have HBD:=hid (show Below q w' (w'.drewN nq) from ⟨rfl,rfl,rfl,Nat.le_refl _,fun _ _=>rfl⟩)
     go_wp2_with (first | (go_at_call 61;refine (HRE.out _).mono ?_;rintro e w2 ⟨rfl,rfl⟩) | (go_at_call 20;refine HAD.out.mono ?_;rintro e w2 ⟨rfl,hs2,hb2⟩))
     go_ret
     exact ⟨rfl,E,hgo,h2,rfl,hs2,HBD.out.trans hb2⟩
theorem numV_step {x : Bs} {i : Nat} (h : i < x.length) : numV (x.take (i + 1)) = 10 * numV (x.take i) + ((bk x i).toNat - 48):=by
 have e : x.take (i + 1) = x.take i ++ [bk x i]:=by
   rw [List.take_add_one,List.getElem?_eq_getElem h,bk,List.getD_eq_getElem?_getD,List.getElem?_eq_getElem h];rfl
 rw [e,numV_app]
theorem all_at {x : Bs} (h : x.all isD = true) {i : Nat} (hi : i < x.length) : isD (bk x i) = true:=by
 have : bk x i ∈ x:=by
   rw [bk,List.getD_eq_getElem?_getD,List.getElem?_eq_getElem hi]
   exact List.getElem_mem hi
 exact List.all_eq_true.1 h _ this
set_option maxHeartbeats 4000000 in
set_option maxRecDepth 100000 in
theorem number_any (q : Nat) (l : Bs) (k : Nat) (ts : List (Tk × Int)) (w : World) (h : Sn w q l k ts) (hk : k < l.length) (hl : l.length ≤ 8000) (hn : ts.length ≤ 100000) (hL : isD (bk l k) = true) :
   Calls Tryd.prog 44 #[.pointer (some ⟨q,0,none⟩)] w (TokPost q l k ts w (numberT (l.drop k))):=by
 have HSN:=hid h
 have HRU:=hid (run_any q l k false w h.src (by omega) hl)
 have c0 : w.cell? ⟨q,0,none⟩ = some (.string (sb l)):=h.src
 have c1 : w.cell? ⟨q,1,none⟩ = some (.int .i64 (k : Int)):=h.place
 have hgo : k < runE l false k:=by
   have h1:=runE_go (l:=l) (b:=false) (k:=k) hk (by rw [runP_false];exact hL)
   have h2:=(run_le l false (k + 1) (by omega)).1
   omega
 obtain ⟨h1,h2⟩:=run_le l false k (by omega)
 obtain ⟨h3,h4⟩:=run_slice l false k
 have hx : ((l.drop k).takeWhile (runP false)).length = runE l false k - k:=by
   rw [← h3,List.length_take,List.length_drop];omega
 rw [runP_false] at h3 h4 hx
 have HSL:=hid (slice_sb l k (runE l false k) h1 h2)
 rw [h3] at HSL
 obtain ⟨E,hE⟩ : ∃ E,runE l false k = E:=⟨_,rfl⟩
 obtain ⟨x,hxx⟩ : ∃ x,(l.drop k).takeWhile isD = x:=⟨_,rfl⟩
 have HNT:=hid (show numberT (l.drop k) = if zeroB x then .bad (l.drop k) else if isL ((l.drop E).headD 0) then .bad (l.drop E) else .ok ⟨3,x,numV x⟩ (l.drop E) by rw [numberT,hxx,← hE,h4])
 have HALL:=hid (show x.all isD = true by rw [← hxx];exact takeWhile_all _)
 rw [hE] at HRU HSL h1 h2 hgo hx
 rw [hxx] at HSL hx
 rw [HNT.out]
 have HXL:=hid hx
 have hxs : (sb x).size = x.length:=sb_size x
 have hls : (sb l).size = l.length:=sb_size l
 have HIX:=hid (index_sb x)
 have HIL:=hid (index_sb l)
 have hsl:=HSL.out
 have HX0:=hid (show x.headD 0 = bk x 0 by cases x <;> rfl)
 have HK:=hid (show (l.length - (l.drop k).length : Nat) = k by rw [List.length_drop];omega)
 clear h h3 h4 hE hxx hx hL
 obtain ⟨X,hX⟩ : ∃ X,sb x = X:=⟨_,rfl⟩
 have HXX:=hid hX
 rw [hX] at hxs HIX hsl
 clear hX HSL
 have ARM:=hid (show True from trivial)
 by_cases h9 : 9 < x.length
 · have hz : zeroB x = true:=by simp [zeroB,h9]
   rw [hz,if_pos rfl]
   have i9 : (9 : Int) < (x.length : Int):=by omega
   clear h9 hz
   go_enter Tryd.func44,Tryd.ntmps44
   go_wp2_with (go_at_call 60;refine HRU.out.mono ?_;rintro e w' ⟨rfl,rfl⟩)
   go_quiet (fail)
   go_wp2_with fail
   go_ret
   exact ⟨by rw [HK.out];rfl,bl_q _⟩
 · have i9 : ¬ (9 : Int) < (x.length : Int):=by omega
   by_cases hzz : 1 < x.length ∧ bk x 0 = 48
   · have hz : zeroB x = true:=by
       simp only [zeroB,Bool.or_eq_true,Bool.and_eq_true,decide_eq_true_eq,beq_iff_eq]
       exact .inr ⟨hzz.1,by rw [HX0.out];exact hzz.2⟩
     rw [hz,if_pos rfl]
     have i1 : (1 : Int) < (x.length : Int):=by omega
     have hix : ∀ W,(Instr.index 9 (.string X) (.int .i64 0)).run Tryd.prog W = .ok (.int .u8 48) W:=fun W=>by
       have:=HIX.out 0 (by omega) W
       rw [hzz.2] at this
       exact this
     clear h9 hz hzz
     go_enter Tryd.func44,Tryd.ntmps44
     go_wp2_with (go_at_call 60;refine HRU.out.mono ?_;rintro e w' ⟨rfl,rfl⟩)
     go_quiet (fail)
     go_wp2_with fail
     go_ret
     exact ⟨by rw [HK.out];rfl,bl_q _⟩
   · have hz : zeroB x = false:=by
       simp only [zeroB,Bool.or_eq_false_iff,decide_eq_false_iff_not,Bool.and_eq_false_iff,beq_eq_false_iff_ne]
       refine ⟨h9,?_⟩
       rw [HX0.out]
       by_cases h : 1 < x.length
       · exact .inr fun e=>hzz ⟨h,e⟩
       · exact .inl h
     rw [hz,if_neg (by decide)]
     by_cases h1l : 1 < x.length
     · have i1 : (1 : Int) < (x.length : Int):=by omega
       have hne : bk x 0 ≠ 48:=fun e=>hzz ⟨h1l,e⟩
       have hix0 : ∀ W,(Instr.index 9 (.string X) (.int .i64 0)).run Tryd.prog W = .ok (.int .u8 ((bk x 0).toNat : Int)) W:=fun W=>HIX.out 0 (by omega) W
       have h48 : (((bk x 0).toNat : Int) == 48) = false:=by rw [beq_eq_false_iff_ne];intro e;apply hne;apply UInt8.toNat_inj.1;show (bk x 0).toNat = 48;omega
       generalize bk x 0 = d0 at *
       clear hne hzz hz
       have HLT:=hid (fun c W=>letter_any c W)
       by_cases hEL : E < l.length ∧ isL (bk l E) = true
       · have hLE : isL ((l.drop E).headD 0) = true:=by rw [bk_drop];exact hEL.2
         rw [hLE,if_pos rfl]
         have hle:=hEL.1
         have hei : (E : Int) < (l.length : Int):=by omega
         have HLL:=hid (show ∀ W,Calls Tryd.prog 41 #[.int .u8 ((bk l E).toNat : Int)] W fun e w'=>e = .returned (.bool true) ∧ w' = W from fun W=>by have:=HLT.out (bk l E) W;rwa [hEL.2] at this)
         have hix2:=HIL.out E hEL.1
         generalize bk l E = d at *
         have HK2:=hid (show (l.length - (l.drop E).length : Nat) = E by rw [List.length_drop];omega)
         clear hEL hLE
         go_enter Tryd.func44,Tryd.ntmps44
         go_wp2_with (go_at_call 60;refine HRU.out.mono ?_;rintro e w' ⟨rfl,rfl⟩)
         go_quiet (fail)
         have c0q : (w'.drewN nq).cell? ⟨q,0,none⟩ = some (.string (sb l)):=c0
         go_wp2_with (go_at_call 41;refine (HLL.out _).mono ?_;rintro e w2 ⟨rfl,rfl⟩)
         go_ret
         exact ⟨by rw [HK2.out];rfl,bl_q _⟩
       · have hLE : isL ((l.drop E).headD 0) = false:=by
           rw [bk_drop]
           cases hh : isL (bk l E) with
           | false=>rfl
           | true=>
             refine absurd ⟨?_,hh⟩ hEL
             rcases Nat.lt_or_ge E l.length with h | h
             · exact h
             · have e0 : bk l E = 0:=by rw [bk,List.getD_eq_getElem?_getD,List.getElem?_eq_none h];rfl
               rw [e0] at hh
               exact absurd hh (by decide)
         rw [hLE,if_neg (by decide)]
         have HAL2:=hid (fun i (hi : i < x.length)=>all_at HALL.out hi)
         have HNS:=hid (fun i (hi : i < x.length)=>numV_step hi)
         have HNB:=hid (fun i=>show numV (x.take i) < 1000000000 from numV_le (x.take i) (by have:=HALL.out;rw [List.all_eq_true] at this ⊢;exact fun y hy=>this y (List.mem_of_mem_take hy)) 9 (by rw [List.length_take];omega))
         by_cases hle : E < l.length
         · have hei : (E : Int) < (l.length : Int):=by omega
           have hLF : isL (bk l E) = false:=by rw [← bk_drop];exact hLE
           have HLL:=hid (show ∀ W,Calls Tryd.prog 41 #[.int .u8 ((bk l E).toNat : Int)] W fun e w'=>e = .returned (.bool false) ∧ w' = W from fun W=>by have:=HLT.out (bk l E) W;rwa [hLF] at this)
           have hix2:=HIL.out E hle
           generalize bk l E = de at *
           clear hEL hLE hLF
           go_enter Tryd.func44,Tryd.ntmps44
           go_wp2_with (go_at_call 60;refine HRU.out.mono ?_;rintro e w' ⟨rfl,rfl⟩)
           go_quiet (fail)
           have c0q : (w'.drewN nq).cell? ⟨q,0,none⟩ = some (.string (sb l)):=c0
           go_wp2_with (go_at_call 41;refine (HLL.out _).mono ?_;rintro e w2 ⟨rfl,rfl⟩)
           obtain ⟨wq,hwq⟩ : ∃ wq,wq = w'.drewN nq:=⟨_,rfl⟩
           have HSQ:=hid (show Sn wq q l k ts by rw [hwq];exact HSN.out.drewN nq)
           have HBQ:=hid (show Below q w' wq by rw [hwq];exact bl_q _)
           rw [← hwq]
           clear hwq c0q
           go_loopw [5,59,6] (fun m i _ wr=>∃ j : Nat,j ≤ x.length ∧ i = .int .i64 (j : Int) ∧ m = .int .i64 ((numV (x.take j) : Nat) : Int) ∧ wr = wq) (fun _ i _ _=>x.length - (intOf i).toNat)
           case atStart=>exact ⟨0,by omega,rfl,rfl,rfl⟩
           case round=>
             obtain ⟨j,hj,rfl,rfl,rfl⟩:=hrel
             by_cases hjl : j < x.length
             · have hix:=HIX.out j hjl
               have hd:=HAL2.out j hjl
               have hst:=HNS.out j hjl
               have hb1:=HNB.out j
               have hb2:=HNB.out (j + 1)
               generalize bk x j = d at *
               have hd2 : 48 ≤ d.toNat ∧ d.toNat ≤ 57:=by simpa [isD] using hd
               obtain ⟨y,hy⟩ : ∃ y,d.toNat = y:=⟨_,rfl⟩
               rw [hy] at hix hst hd2
               obtain ⟨m,hm⟩ : ∃ m,numV (x.take j) = m:=⟨_,rfl⟩
               have HST:=hid hst
               rw [hm] at hb1 ⊢
               rw [hst,hm] at hb2
               have HM:=hid hm
               have w1 : IntKind.u8.wrap ((y : Int) - 48) = (y : Int) - 48:=by rw [IntKind.wrap_u8];omega
               have w2 : IntKind.i64.wrap ((y : Int) - 48) = (y : Int) - 48:=by rw [IntKind.wrap_i64];omega
               have w3 : IntKind.i64.wrap (10 * (m : Int)) = 10 * (m : Int):=by rw [IntKind.wrap_i64];omega
               have w4 : IntKind.i64.wrap (10 * (m : Int) + ((y : Int) - 48)) = 10 * (m : Int) + ((y : Int) - 48):=by rw [IntKind.wrap_i64];omega
               have hji : (j : Int) < (x.length : Int):=by omega
               have HY:=hid hd2
               clear hy hd hst hm hd2
               go_wp2_with fail
               exact ⟨⟨j + 1,by omega,by go_num,by rw [HST.out,HM.out];have:=HY.out;congr 1;omega,by first | rfl | trivial⟩,by simp [intOf];omega⟩
             · obtain rfl : j = x.length:=by omega
               have HTK:=hid (show x.take x.length = x from List.take_length)
               rw [HTK.out]
               have HAD:=hid (add_any q l k ts 3 x (numV x : Nat) E wr HSQ.out (by omega))
               rw [HXX.out] at HAD
               clear HTK
               go_wp2_with (go_at_call 20;refine HAD.out.mono ?_;rintro e w2 ⟨rfl,hs2,hb2⟩)
               go_ret
               exact ⟨rfl,E,hgo,h2,rfl,hs2,HBQ.out.trans hb2⟩
         · have hei : ¬ (E : Int) < (l.length : Int):=by omega
           clear hEL hLE
           go_enter Tryd.func44,Tryd.ntmps44
           go_wp2_with (go_at_call 60;refine HRU.out.mono ?_;rintro e w' ⟨rfl,rfl⟩)
           go_quiet (fail)
           have c0q : (w'.drewN nq).cell? ⟨q,0,none⟩ = some (.string (sb l)):=c0
           go_wp2_with fail
           obtain ⟨wq,hwq⟩ : ∃ wq,wq = w'.drewN nq:=⟨_,rfl⟩
           have HSQ:=hid (show Sn wq q l k ts by rw [hwq];exact HSN.out.drewN nq)
           have HBQ:=hid (show Below q w' wq by rw [hwq];exact bl_q _)
           rw [← hwq]
           clear hwq c0q
           go_loopw [5,59,6] (fun m i _ wr=>∃ j : Nat,j ≤ x.length ∧ i = .int .i64 (j : Int) ∧ m = .int .i64 ((numV (x.take j) : Nat) : Int) ∧ wr = wq) (fun _ i _ _=>x.length - (intOf i).toNat)
           case atStart=>exact ⟨0,by omega,rfl,rfl,rfl⟩
           case round=>
             obtain ⟨j,hj,rfl,rfl,rfl⟩:=hrel
             by_cases hjl : j < x.length
             · have hix:=HIX.out j hjl
               have hd:=HAL2.out j hjl
               have hst:=HNS.out j hjl
               have hb1:=HNB.out j
               have hb2:=HNB.out (j + 1)
               generalize bk x j = d at *
               have hd2 : 48 ≤ d.toNat ∧ d.toNat ≤ 57:=by simpa [isD] using hd
               obtain ⟨y,hy⟩ : ∃ y,d.toNat = y:=⟨_,rfl⟩
               rw [hy] at hix hst hd2
               obtain ⟨m,hm⟩ : ∃ m,numV (x.take j) = m:=⟨_,rfl⟩
               have HST:=hid hst
               rw [hm] at hb1 ⊢
               rw [hst,hm] at hb2
               have HM:=hid hm
               have w1 : IntKind.u8.wrap ((y : Int) - 48) = (y : Int) - 48:=by rw [IntKind.wrap_u8];omega
               have w2 : IntKind.i64.wrap ((y : Int) - 48) = (y : Int) - 48:=by rw [IntKind.wrap_i64];omega
               have w3 : IntKind.i64.wrap (10 * (m : Int)) = 10 * (m : Int):=by rw [IntKind.wrap_i64];omega
               have w4 : IntKind.i64.wrap (10 * (m : Int) + ((y : Int) - 48)) = 10 * (m : Int) + ((y : Int) - 48):=by rw [IntKind.wrap_i64];omega
               have hji : (j : Int) < (x.length : Int):=by omega
               have HY:=hid hd2
               clear hy hd hst hm hd2
               go_wp2_with fail
               exact ⟨⟨j + 1,by omega,by go_num,by rw [HST.out,HM.out];have:=HY.out;congr 1;omega,by first | rfl | trivial⟩,by simp [intOf];omega⟩
             · obtain rfl : j = x.length:=by omega
               have HTK:=hid (show x.take x.length = x from List.take_length)
               rw [HTK.out]
               have HAD:=hid (add_any q l k ts 3 x (numV x : Nat) E wr HSQ.out (by omega))
               rw [HXX.out] at HAD
               clear HTK
               go_wp2_with (go_at_call 20;refine HAD.out.mono ?_;rintro e w2 ⟨rfl,hs2,hb2⟩)
               go_ret
               exact ⟨rfl,E,hgo,h2,rfl,hs2,HBQ.out.trans hb2⟩
     · have i1 : ¬ (1 : Int) < (x.length : Int):=by omega
       clear hzz hz
       have HLT:=hid (fun c W=>letter_any c W)
       by_cases hEL : E < l.length ∧ isL (bk l E) = true
       · have hLE : isL ((l.drop E).headD 0) = true:=by rw [bk_drop];exact hEL.2
         rw [hLE,if_pos rfl]
         have hle:=hEL.1
         have hei : (E : Int) < (l.length : Int):=by omega
         have HLL:=hid (show ∀ W,Calls Tryd.prog 41 #[.int .u8 ((bk l E).toNat : Int)] W fun e w'=>e = .returned (.bool true) ∧ w' = W from fun W=>by have:=HLT.out (bk l E) W;rwa [hEL.2] at this)
         have hix2:=HIL.out E hEL.1
         generalize bk l E = d at *
         have HK2:=hid (show (l.length - (l.drop E).length : Nat) = E by rw [List.length_drop];omega)
         clear hEL hLE
         go_enter Tryd.func44,Tryd.ntmps44
         go_wp2_with (go_at_call 60;refine HRU.out.mono ?_;rintro e w' ⟨rfl,rfl⟩)
         go_quiet (fail)
         have c0q : (w'.drewN nq).cell? ⟨q,0,none⟩ = some (.string (sb l)):=c0
         go_wp2_with (go_at_call 41;refine (HLL.out _).mono ?_;rintro e w2 ⟨rfl,rfl⟩)
         go_ret
         exact ⟨by rw [HK2.out];rfl,bl_q _⟩
       · have hLE : isL ((l.drop E).headD 0) = false:=by
           rw [bk_drop]
           cases hh : isL (bk l E) with
           | false=>rfl
           | true=>
             refine absurd ⟨?_,hh⟩ hEL
             rcases Nat.lt_or_ge E l.length with h | h
             · exact h
             · have e0 : bk l E = 0:=by rw [bk,List.getD_eq_getElem?_getD,List.getElem?_eq_none h];rfl
               rw [e0] at hh
               exact absurd hh (by decide)
         rw [hLE,if_neg (by decide)]
         have HAL2:=hid (fun i (hi : i < x.length)=>all_at HALL.out hi)
         have HNS:=hid (fun i (hi : i < x.length)=>numV_step hi)
         have HNB:=hid (fun i=>show numV (x.take i) < 1000000000 from numV_le (x.take i) (by have:=HALL.out;rw [List.all_eq_true] at this ⊢;exact fun y hy=>this y (List.mem_of_mem_take hy)) 9 (by rw [List.length_take];omega))
         by_cases hle : E < l.length
         · have hei : (E : Int) < (l.length : Int):=by omega
           have hLF : isL (bk l E) = false:=by rw [← bk_drop];exact hLE
           have HLL:=hid (show ∀ W,Calls Tryd.prog 41 #[.int .u8 ((bk l E).toNat : Int)] W fun e w'=>e = .returned (.bool false) ∧ w' = W from fun W=>by have:=HLT.out (bk l E) W;rwa [hLF] at this)
           have hix2:=HIL.out E hle
           generalize bk l E = de at *
           clear hEL hLE hLF
           go_enter Tryd.func44,Tryd.ntmps44
           go_wp2_with (go_at_call 60;refine HRU.out.mono ?_;rintro e w' ⟨rfl,rfl⟩)
           go_quiet (fail)
           have c0q : (w'.drewN nq).cell? ⟨q,0,none⟩ = some (.string (sb l)):=c0
           go_wp2_with (go_at_call 41;refine (HLL.out _).mono ?_;rintro e w2 ⟨rfl,rfl⟩)
           obtain ⟨wq,hwq⟩ : ∃ wq,wq = w'.drewN nq:=⟨_,rfl⟩
           have HSQ:=hid (show Sn wq q l k ts by rw [hwq];exact HSN.out.drewN nq)
           have HBQ:=hid (show Below q w' wq by rw [hwq];exact bl_q _)
           rw [← hwq]
           clear hwq c0q
           go_loopw [5,59,6] (fun m i _ wr=>∃ j : Nat,j ≤ x.length ∧ i = .int .i64 (j : Int) ∧ m = .int .i64 ((numV (x.take j) : Nat) : Int) ∧ wr = wq) (fun _ i _ _=>x.length - (intOf i).toNat)
           case atStart=>exact ⟨0,by omega,rfl,rfl,rfl⟩
           case round=>
             obtain ⟨j,hj,rfl,rfl,rfl⟩:=hrel
             by_cases hjl : j < x.length
             · have hix:=HIX.out j hjl
               have hd:=HAL2.out j hjl
               have hst:=HNS.out j hjl
               have hb1:=HNB.out j
               have hb2:=HNB.out (j + 1)
               generalize bk x j = d at *
               have hd2 : 48 ≤ d.toNat ∧ d.toNat ≤ 57:=by simpa [isD] using hd
               obtain ⟨y,hy⟩ : ∃ y,d.toNat = y:=⟨_,rfl⟩
               rw [hy] at hix hst hd2
               obtain ⟨m,hm⟩ : ∃ m,numV (x.take j) = m:=⟨_,rfl⟩
               have HST:=hid hst
               rw [hm] at hb1 ⊢
               rw [hst,hm] at hb2
               have HM:=hid hm
               have w1 : IntKind.u8.wrap ((y : Int) - 48) = (y : Int) - 48:=by rw [IntKind.wrap_u8];omega
               have w2 : IntKind.i64.wrap ((y : Int) - 48) = (y : Int) - 48:=by rw [IntKind.wrap_i64];omega
               have w3 : IntKind.i64.wrap (10 * (m : Int)) = 10 * (m : Int):=by rw [IntKind.wrap_i64];omega
               have w4 : IntKind.i64.wrap (10 * (m : Int) + ((y : Int) - 48)) = 10 * (m : Int) + ((y : Int) - 48):=by rw [IntKind.wrap_i64];omega
               have hji : (j : Int) < (x.length : Int):=by omega
               have HY:=hid hd2
               clear hy hd hst hm hd2
               go_wp2_with fail
               exact ⟨⟨j + 1,by omega,by go_num,by rw [HST.out,HM.out];have:=HY.out;congr 1;omega,by first | rfl | trivial⟩,by simp [intOf];omega⟩
             · obtain rfl : j = x.length:=by omega
               have HTK:=hid (show x.take x.length = x from List.take_length)
               rw [HTK.out]
               have HAD:=hid (add_any q l k ts 3 x (numV x : Nat) E wr HSQ.out (by omega))
               rw [HXX.out] at HAD
               clear HTK
               go_wp2_with (go_at_call 20;refine HAD.out.mono ?_;rintro e w2 ⟨rfl,hs2,hb2⟩)
               go_ret
               exact ⟨rfl,E,hgo,h2,rfl,hs2,HBQ.out.trans hb2⟩
         · have hei : ¬ (E : Int) < (l.length : Int):=by omega
           clear hEL hLE
           go_enter Tryd.func44,Tryd.ntmps44
           go_wp2_with (go_at_call 60;refine HRU.out.mono ?_;rintro e w' ⟨rfl,rfl⟩)
           go_quiet (fail)
           have c0q : (w'.drewN nq).cell? ⟨q,0,none⟩ = some (.string (sb l)):=c0
           go_wp2_with fail
           obtain ⟨wq,hwq⟩ : ∃ wq,wq = w'.drewN nq:=⟨_,rfl⟩
           have HSQ:=hid (show Sn wq q l k ts by rw [hwq];exact HSN.out.drewN nq)
           have HBQ:=hid (show Below q w' wq by rw [hwq];exact bl_q _)
           rw [← hwq]
           clear hwq c0q
           go_loopw [5,59,6] (fun m i _ wr=>∃ j : Nat,j ≤ x.length ∧ i = .int .i64 (j : Int) ∧ m = .int .i64 ((numV (x.take j) : Nat) : Int) ∧ wr = wq) (fun _ i _ _=>x.length - (intOf i).toNat)
           case atStart=>exact ⟨0,by omega,rfl,rfl,rfl⟩
           case round=>
             obtain ⟨j,hj,rfl,rfl,rfl⟩:=hrel
             by_cases hjl : j < x.length
             · have hix:=HIX.out j hjl
               have hd:=HAL2.out j hjl
               have hst:=HNS.out j hjl
               have hb1:=HNB.out j
               have hb2:=HNB.out (j + 1)
               generalize bk x j = d at *
               have hd2 : 48 ≤ d.toNat ∧ d.toNat ≤ 57:=by simpa [isD] using hd
               obtain ⟨y,hy⟩ : ∃ y,d.toNat = y:=⟨_,rfl⟩
               rw [hy] at hix hst hd2
               obtain ⟨m,hm⟩ : ∃ m,numV (x.take j) = m:=⟨_,rfl⟩
               have HST:=hid hst
               rw [hm] at hb1 ⊢
               rw [hst,hm] at hb2
               have HM:=hid hm
               have w1 : IntKind.u8.wrap ((y : Int) - 48) = (y : Int) - 48:=by rw [IntKind.wrap_u8];omega
               have w2 : IntKind.i64.wrap ((y : Int) - 48) = (y : Int) - 48:=by rw [IntKind.wrap_i64];omega
               have w3 : IntKind.i64.wrap (10 * (m : Int)) = 10 * (m : Int):=by rw [IntKind.wrap_i64];omega
               have w4 : IntKind.i64.wrap (10 * (m : Int) + ((y : Int) - 48)) = 10 * (m : Int) + ((y : Int) - 48):=by rw [IntKind.wrap_i64];omega
               have hji : (j : Int) < (x.length : Int):=by omega
               have HY:=hid hd2
               clear hy hd hst hm hd2
               go_wp2_with fail
               exact ⟨⟨j + 1,by omega,by go_num,by rw [HST.out,HM.out];have:=HY.out;congr 1;omega,by first | rfl | trivial⟩,by simp [intOf];omega⟩
             · obtain rfl : j = x.length:=by omega
               have HTK:=hid (show x.take x.length = x from List.take_length)
               rw [HTK.out]
               have HAD:=hid (add_any q l k ts 3 x (numV x : Nat) E wr HSQ.out (by omega))
               rw [HXX.out] at HAD
               clear HTK
               go_wp2_with (go_at_call 20;refine HAD.out.mono ?_;rintro e w2 ⟨rfl,hs2,hb2⟩)
               go_ret
               exact ⟨rfl,E,hgo,h2,rfl,hs2,HBQ.out.trans hb2⟩
end Go.Proofs.YtgmjpnnblhkbpaaDoor
