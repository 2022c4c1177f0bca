/-
  The printer's named, routes, via, and sum, product; numbers. Conditions: the sizes that strings can have; the table of strconv.
-/
import Derived.Test.YtgmjpnnblhkbpaaDoorTyFM
import Derived.Shelf.Strings.Builder1
import Derived.OneCell
import Derived.Lib.OwnKind
import Derived.Test.YtgmjpnnblhkbpaaDoorTwIM
import Derived.Test.YtgmjpnnblhkbpaaDoorSqM
import Derived.Test.YtgmjpnnblhkbpaaDoorTwOM
namespace Go.Proofs.YtgmjpnnblhkbpaaDoor
open Go Go.RowKit Go.Sh Tx
open Go.Lib (hid)
set_option maxRecDepth 100000 in
theorem liesPr : liesAt Tryd.prog Tryd.prog.depth 81 (2 / Tryd.prog.cellsOf 81) 0 79 1 = true:=by kernel_rfl
set_option maxRecDepth 100000 in
theorem sizePr : (Tryd.prog.info? 79).map (·.size) = some 2:=by kernel_rfl
set_option maxRecDepth 100000 in
theorem infoBy : (Tryd.prog.info? 5).map (fun i=>(i.zero,i.size,i.bytes)) = some (some (.int .u8 0),1,1):=by kernel_rfl
set_option maxHeartbeats 4000000 in
set_option maxRecDepth 100000 in
theorem check_used (b : Nat) (w : World) (h0 : w.cell? ⟨b,0,none⟩ = some (.pointer (some ⟨b,0,none⟩))) :
   Calls Tryd.prog 63 #[.pointer (some ⟨b,0,none⟩)] w fun e w'=>e = .returned (.tuple #[]) ∧ w' = w:=by
 obtain ⟨j,hj,_⟩:=Option.map_eq_some_iff.1 sizePr
 go_enter Tryd.func63,Tryd.ntmps63
 go_wp2
 rw [Lib.run_neq_ptr_same w _ Tryd.underlying77 hj]
 go_wp2
 go_end0
 exact ⟨rfl,rfl⟩
set_option maxHeartbeats 4000000 in
set_option maxRecDepth 100000 in
theorem check_fresh (b : Nat) (w : World) (h0 : w.cell? ⟨b,0,none⟩ = some (.pointer none)) (hsh : w.shape? b = some (81,2)) (hfz : w.frozen? ⟨b,0,none⟩ = false) :
   Calls Tryd.prog 63 #[.pointer (some ⟨b,0,none⟩)] w fun e w'=>e = .returned (.tuple #[]) ∧ w' = w.setCell ⟨b,0,none⟩ (.pointer (some ⟨b,0,none⟩)):=by
 obtain ⟨j,hj,hjs⟩:=Option.map_eq_some_iff.1 sizePr
 go_enter Tryd.func63,Tryd.ntmps63
 go_wp2
 rw [Lib.run_to_unsafe w ⟨b,0,none⟩ Tryd.underlying77 Tryd.underlying127 hj (by rw [hjs];decide) hsh (Nat.zero_lt_succ 1)]
 simp only [Result.andThen]
 rw [Oper.upon_value]
 go_wp2
 rw [run_callFunc_extern Tryd.func77 (by kernel_rfl) (by kernel_rfl) (by kernel_rfl) (e:=Extern.AbiNoEscape.same) (by kernel_rfl)]
 rw [Lib.run_noEscape]
 simp only [Result.andThen]
 rw [Oper.upon_value]
 go_wp2
 rw [Lib.run_from_unsafe w ⟨b,0,none⟩ Tryd.underlying127 Tryd.underlying77 hj hsh liesPr]
 simp only [Result.andThen]
 rw [Oper.upon_value]
 go_wp2
 go_end0
 exact ⟨rfl,rfl⟩
def Pr (w : World) (b : Nat) (l : Bs) : Prop:=∃ p v,w.heap[b]? = some (.cells #[p,v] 81 (0,0)) ∧ (p = .pointer none ∨ p = .pointer (some ⟨b,0,none⟩)) ∧ w.ownsRow b 5 1 v l.length (bv l) ∧ v.ownBlock ≠ some b ∧ (l = [] → v = .slice none 0 0)
def NoB (w : World) (i : Nat) : Prop:=∀ cs fr,w.heap[i]? ≠ some (.cells cs 5 fr)
structure Fb (b : Nat) (w w' : World) : Prop where
 os : w'.os = w.os
 tape : w'.tape = w.tape
 output : w'.output = w.output
 size : w.heap.size ≤ w'.heap.size
 block : ∀ i,i < w.heap.size → i ≠ b → (i < b ∨ NoB w i) → w'.heap[i]? = w.heap[i]?
section
variable {w w' w'' : World} {b : Nat} {l : Bs}
theorem NoB.of {i : Nat} {cs : Array Value} {t : TypeId} {fr : Nat × Nat} (h : w.heap[i]? = some (.cells cs t fr)) (ht : t ≠ 5) : NoB w i:=by
 intro cs' fr' h'
 rw [h] at h'
 injection h' with h'
 injection h' with _ h' _
 exact ht h'
theorem Fb.refl : Fb b w w:=⟨rfl,rfl,rfl,Nat.le_refl _,fun _ _ _ _=>rfl⟩
theorem Fb.trans (h : Fb b w w') (h' : Fb b w' w'') : Fb b w w'':=by
 refine ⟨h'.os.trans h.os,h'.tape.trans h.tape,h'.output.trans h.output,Nat.le_trans h.size h'.size,fun i hi hb hn=>?_⟩
 have e:=h.block i hi hb hn
 refine (h'.block i (Nat.lt_of_lt_of_le hi h.size) hb (hn.imp id fun h1 cs fr h2=>h1 cs fr (e ▸ h2))).trans e
theorem Fb.of (h : Below w.heap.size w w') : Fb b w w':=⟨h.os,h.tape,h.output,h.size,fun i hi _ _=>h.block i hi⟩
theorem Fb.low (h : Fb b w w') (hb : b ≤ w.heap.size) : Below b w w':=⟨h.os,h.tape,h.output,h.size,fun i hi=>h.block i (by omega) (by omega) (.inl hi)⟩
theorem Fb.keep {i : Nat} {cs : Array Value} {t : TypeId} {fr : Nat × Nat} (h : Fb b w w') (hi : w.heap[i]? = some (.cells cs t fr)) (ht : t ≠ 5) (hb : i ≠ b) : w'.heap[i]? = some (.cells cs t fr):=
 (h.block i (Array.getElem?_eq_some_iff.1 hi).1 hb (.inr (NoB.of hi ht))).trans hi
theorem Fb.drew (h : Fb b w w') : Fb b w w'.drew:=⟨h.os,h.tape,h.output,h.size,h.block⟩
theorem Pr.lt (h : Pr w b l) : b < w.heap.size:=by obtain ⟨p,v,h,_⟩:=h;exact (Array.getElem?_eq_some_iff.1 h).1
theorem Pr.later (h : Pr w b l) (hb : Below w.heap.size w w') : Pr w' b l:=by
 have hlt:=h.lt
 obtain ⟨p,v,h1,h2,h3,h4⟩:=h
 exact ⟨p,v,(hb.block b hlt).trans h1,h2,own_later h3 hb,h4⟩
theorem Pr.drew (h : Pr w b l) : Pr w.drew b l:=h
theorem strc (s : Bs) : Lib.strCells (sb s) = bv s:=rfl
theorem Pr.len (l s : Bs) : (bv (l ++ s)).length = l.length + s.length:=by rw [length_bv,List.length_append]
end
set_option maxHeartbeats 4000000 in
set_option maxRecDepth 100000 in
theorem copyCheck_any (b : Nat) (l : Bs) (w : World) (h : Pr w b l) :
   Calls Tryd.prog 63 #[.pointer (some ⟨b,0,none⟩)] w fun e w'=>e = .returned (.tuple #[]) ∧ (∃ v,w'.heap[b]? = some (.cells #[.pointer (some ⟨b,0,none⟩),v] 81 (0,0)) ∧ w'.ownsRow b 5 1 v l.length (bv l) ∧ v.ownBlock ≠ some b ∧ (l = [] → v = .slice none 0 0)) ∧ Fb b w w':=by
 obtain ⟨p,v,h1,h2,h3,h4,h5⟩:=h
 rcases h2 with rfl | rfl
 · refine (check_fresh b w (blk_cell h1) (by simp [World.shape?,h1]) (frozen_of_row _ _ 0 _ _ h1)).mono ?_
   rintro e w' ⟨rfl,rfl⟩
   refine ⟨rfl,⟨v,blk_set h1 _,ownsRow_setCell_other h3 h4 _,h4,h5⟩,rfl,rfl,rfl,Nat.le_of_eq (by simp only [World.size_setCell]),fun i _ hi _=>Below.heap_setCell w ⟨b,0,none⟩ _ i hi⟩
 · refine (check_used b w (blk_cell h1)).mono ?_
   rintro e w' ⟨rfl,rfl⟩
   exact ⟨rfl,⟨v,h1,h3,h4,h5⟩,Fb.refl⟩
set_option maxHeartbeats 4000000 in
set_option maxRecDepth 100000 in
theorem WriteString_any (b : Nat) (l s : Bs) (w : World) (h : Pr w b l) (hlen : l.length + s.length ≤ 140737488355328) :
   Calls Tryd.prog 47 #[.pointer (some ⟨b,0,none⟩),.string (sb s)] w fun e w'=>e = .returned (.tuple #[.int .i64 (s.length : Int),.nilIface]) ∧ Pr w' b (l ++ s) ∧ Fb b w w':=by
 obtain ⟨i0,hi,hz0,hz1,hz2⟩:=info_parts infoBy
 have HCC:=hid (copyCheck_any b l w h)
 have hblt:=h.lt
 have HLE:=hid (Pr.len l s)
 have hss:=sb_size s
 have HST:=hid (strc s)
 obtain ⟨S,hS⟩ : ∃ S,sb s = S:=⟨_,rfl⟩
 rw [hS] at hss HST ⊢
 rw [← hss] at hlen ⊢
 have HSS:=hid hss
 clear h hS hss
 go_enter Tryd.func47,Tryd.ntmps47
 go_wp2_with fail
 refine HCC.out.mono ?_
 rintro e w1 ⟨rfl,⟨v,hbk,hown,hne,hnil⟩,hf1⟩
 have HF1:=hid hf1
 have hblt1 : b < w1.heap.size:=Nat.lt_of_lt_of_le hblt hf1.size
 have c1 : w1.cell? ⟨b,1,none⟩ = some v:=blk_cell hbk
 have HBK:=hid hbk
 have HOW:=hid hown
 have HNE:=hid hne
 have HNI:=hid hnil
 clear hbk hown hne hnil hf1 HCC
 go_wp2_with (at_builtin;refine Lib.wpList_append_own_string _ rfl _ _ 75 9 rfl b 5 i0 Tryd.underlying75 Tryd.underlying9 hi hz0 hz1 hz2 _ _ _ rfl HOW.out S rfl ?c3 ?c4 ?c5 ?_)
 case c3=>unfold maxLen;omega
 case c4=>omega
 case c5=>omega
 intro v' w2 hown' hgrow hnil2
 have HN3:=hid hnil2
 clear hnil2
 have hb2 : w2.heap[b]? = some (.cells #[.pointer (some ⟨b,0,none⟩),v] 81 (0,0)):=by
   rw [hgrow.block b hblt1 (fun e=>HNE.out e.symm)]
   exact HBK.out
 have hne2 : v'.ownBlock ≠ some b:=by
   intro he
   obtain ⟨cs,fz,hk⟩:=Lib.ownsRow_kind hown' b he
   rw [hk] at hb2
   injection hb2 with hb2
   injection hb2 with _ hb2 _
   exact absurd hb2 (by decide)
 have d1 : w2.cell? ⟨b,1,none⟩ = some v:=blk_cell hb2
 have f1 : w2.frozen? ⟨b,1,none⟩ = false:=frozen_of_row _ _ 1 _ _ hb2
 have HB2:=hid hb2
 have HO2:=hid hown'
 have HN2:=hid hne2
 have HG2:=hid hgrow
 obtain ⟨ao,n',cap,hv'⟩ : ∃ ao n' cap,v' = .slice ao n' cap:=by
   rcases hown'.2 with ⟨hv,_⟩ | ⟨g,cap,cur,hv,_⟩
   · exact ⟨_,_,_,hv⟩
   · exact ⟨_,_,_,hv⟩
 subst hv'
 clear hb2 hne2 hown' hgrow HBK c1
 go_wp2
 go_ret2
 refine ⟨rfl,⟨_,_,blk_set HB2.out _,.inr rfl,?_,HN2.out,fun he=>HN3.out.2 ⟨HNI.out (List.append_eq_nil_iff.1 he).1,ByteArray.size_eq_zero_iff.1 (by rw [HSS.out,(List.append_eq_nil_iff.1 he).2];rfl)⟩⟩,?_⟩
 · refine ownsRow_setCell_other ?_ HN2.out _
   have:=HO2.out
   rw [HST.out,← bv_append] at this
   rw [List.length_append,← HSS.out]
   exact this
 · refine HF1.out.trans ⟨HG2.out.os,HG2.out.tape,HG2.out.output,Nat.le_trans HG2.out.size (Nat.le_of_eq (by simp only [World.size_setCell])),fun i hi hb hn=>?_⟩
   refine (Below.heap_setCell w2 ⟨b,1,none⟩ _ i hb).trans (HG2.out.block i hi fun he=>?_)
   obtain ⟨cs,fz,hk⟩:=Lib.ownsRow_kind HOW.out i he.symm
   rcases hn with hn | hn
   · have:=(HOW.out.lt i he.symm).1;omega
   · exact hn cs fz hk
set_option maxHeartbeats 4000000 in
set_option maxRecDepth 100000 in
theorem String_any (b : Nat) (l : Bs) (w : World) (h : Pr w b l) :
   Calls Tryd.prog 25 #[.pointer (some ⟨b,0,none⟩)] w fun e w'=>e = .returned (.string (sb l)) ∧ Below b w w':=by
 obtain ⟨p,v,hbk,hp,hown,hne,hnil⟩:=h
 by_cases h0 : l = []
 · obtain rfl:=hnil h0
   subst h0
   have hUS : ∀ W,(Builtin.unsafeString_ #[114,3] 9 #[.pointer none,.int .i64 0]).run Tryd.prog W = .ok (.string .empty) W:=fun W=>Lib.run_unsafeString_none W _ _ _ none
   have c1 : w.drew.cell? ⟨b,1,none⟩ = some (.slice none 0 0):=by
     have : w.drew.heap[b]? = some (.cells #[p,.slice none 0 0] 81 (0,0)):=hbk
     rw [blk_cell this];rfl
   have c0 : w.cell? ⟨b,1,none⟩ = some (.slice none 0 0):=c1
   have hSD : (Builtin.unsafeSliceData_ #[75] 114 #[.slice none 0 0]).run Tryd.prog w.drew = .ok (.pointer none) w.drew:=rfl
   clear hbk hp hown hne hnil
   go_enter Tryd.func25,Tryd.ntmps25
   go_wp2
   go_region
   all_goals (go_wp2;go_ret;exact ⟨rfl,Below.drew (Below.refl b w)⟩)
 · have hl0 : l.length ≠ 0:=by simpa using h0
   obtain ⟨g,cap,cur,rfl,hbg,hg,hnc,hcm,hcs,htake⟩ : ∃ g cap cur,v = .slice (some ⟨g,0,none⟩) l.length cap ∧ b ≤ g ∧ w.heap[g]? = some (.cells cur 5 (0,0)) ∧ l.length ≤ cap ∧ cap ≤ maxLen ∧ cur.size = cap * 1 ∧ cur.toList.take (l.length * 1) = bv l:=by
     rcases hown.2 with ⟨_,hz⟩ | ⟨g,cap,cur,hv,r⟩
     · exact absurd hz hl0
     · exact ⟨g,cap,cur,hv,r⟩
   have c1 : w.drew.cell? ⟨b,1,none⟩ = some (.slice (some ⟨g,0,none⟩) l.length cap):=by
     have : w.drew.heap[b]? = some (.cells #[p,.slice (some ⟨g,0,none⟩) l.length cap] 81 (0,0)):=hbk
     rw [blk_cell this];rfl
   have c0 : w.cell? ⟨b,1,none⟩ = some (.slice (some ⟨g,0,none⟩) l.length cap):=c1
   have hSD : (Builtin.unsafeSliceData_ #[75] 114 #[.slice (some ⟨g,0,none⟩) l.length cap]).run Tryd.prog w.drew = .ok (.pointer (some ⟨g,0,none⟩)) w.drew:=
     Lib.run_unsafeSliceData_row _ _ _ _ _ _ (by omega)
   have hUS : (Builtin.unsafeString_ #[114,3] 9 #[.pointer (some ⟨g,0,none⟩),.int .i64 l.length]).run Tryd.prog w.drew = .ok (.string ⟨l.toArray⟩) (w.drew.freeze ⟨g,0,none⟩ l.length):=by
     refine Lib.run_unsafeString_row w.drew 114 3 9 5 Tryd.underlying114 (by kernel_rfl) g cur.size (by have hg' : w.drew.heap[g]? = some (.cells cur 5 (0,0)):=hg;simp [World.shape?,hg']) l h0 (by omega) (by unfold maxLen at hcm;omega) ?_
     intro j x hx
     have:=hown.cells (g:=g) rfl j (.int .u8 x.toNat) (by simp [bv,hx])
     exact this
   obtain ⟨n,hn⟩ : ∃ n,l.length = n:=⟨_,rfl⟩
   have HSB:=hid (show (⟨l.toArray⟩ : ByteArray) = sb l from rfl)
   rw [HSB.out] at hUS
   rw [hn] at c0 c1 hSD hUS
   generalize sb l = S at *
   clear hbk hp hown hne hnil hg hnc hcm hcs htake hl0 h0 HSB hn
   go_enter Tryd.func25,Tryd.ntmps25
   go_wp2
   go_region
   all_goals (go_wp2;go_ret;exact ⟨rfl,Lib.below_freeze (Below.drew (Below.refl b w)) (p:=⟨g,0,none⟩) hbg _⟩)
end Go.Proofs.YtgmjpnnblhkbpaaDoor
namespace Go.Proofs.YtgmjpnnblhkbpaaDoor
open Go Go.RowKit Go.Sh Tx
open Go.Lib (hid)
set_option maxRecDepth 100000 in
theorem digit_tx (m : Nat) (hm : m < 16) (W : World) : (Instr.index 9 (.string { data:=#[48,49,50,51,52,53,54,55,56,57,97,98,99,100,101,102] }) (.int .u8 (m : Int))).run Tryd.prog W = .ok (.int .u8 ((hexC.getD m 0).toNat : Int)) W:=by
 have h : m = 0 ∨ m = 1 ∨ m = 2 ∨ m = 3 ∨ m = 4 ∨ m = 5 ∨ m = 6 ∨ m = 7 ∨ m = 8 ∨ m = 9 ∨ m = 10 ∨ m = 11 ∨ m = 12 ∨ m = 13 ∨ m = 14 ∨ m = 15:=by omega
 rcases h with rfl | rfl | rfl | rfl | rfl | rfl | rfl | rfl | rfl | rfl | rfl | rfl | rfl | rfl | rfl | rfl
 all_goals (show Sem.run _ _ _ = _;kernel_rfl)
set_option maxRecDepth 100000 in
theorem and15_tx : ∀ x : Nat,x < 256 → bits BinOp.and IntKind.u8 (x : Int) 15 = ((x % 16 : Nat) : Int):=by
 have h : ∀ x : Fin 256,bits BinOp.and IntKind.u8 (x.1 : Int) 15 = ((x.1 % 16 : Nat) : Int):=by decide
 exact fun x hx=>h ⟨x,hx⟩
theorem quote_step (l : Bs) (j : Nat) (d : UInt8) (hj : j < l.length) (hd : bk l j = d) : (l.drop j).flatMap qb = qb d ++ (l.drop (j + 1)).flatMap qb:=by
 rw [drop_cons hj,hd,List.flatMap_cons]
theorem qb_len (d : UInt8) : (qb d).length ≤ 4:=by
 unfold qb
 split
 · exact (by decide : 2 ≤ 4)
 · split
   · exact (by decide : 2 ≤ 4)
   · split
     · exact (by decide : 4 ≤ 4)
     · exact (by decide : 1 ≤ 4)
set_option maxHeartbeats 8000000 in
set_option maxRecDepth 100000 in
theorem Quote_any (A0 : Option Addr) (N c0 : Nat) (l : Bs) (w : World) (B : Nat) (hr : RB w B A0 N l) (hB : B ≤ w.heap.size) (hN : N ≤ 10000000000000) : Calls Tryd.prog 21 #[.slice A0 N c0] w fun e w'=>e = .returned (.string (sb (quoteB l))) ∧ Below w.heap.size w w':=by
 have HRL:=hid hr.len
 have HR:=hid hr
 obtain ⟨z,hz⟩ : ∃ z,w.heap.size = z:=⟨_,rfl⟩
 have HZ:=hid hz
 have hown0 : (w.alloc (.cells #[.int .u8 34] 5)).ownsRow z 5 1 (.slice (some ⟨z,0,none⟩) 1 1) 1 (bv [34]):=by have h:=World.ownsRow_lit (base:=z) (e:=5) (size:=1) w #[.int .u8 34] 1 (by omega) (by decide) rfl;rw [hz] at h;exact h
 have HOW0:=hid hown0
 have HBW0:=hid (show Below z w (w.alloc (.cells #[.int .u8 34] 5)) from (Below.refl _ w).alloc (by omega) _)
 have HQ0:=hid (show [34] ++ ((l.drop 0).flatMap qb ++ [34]) = quoteB l from rfl)
 generalize quoteB l = QL at *
 clear hr hown0
 go_enter Tryd.func21,Tryd.ntmps21
 go_upto_region 3 with fail
 (try rw [hz])
 clear hz
 generalize w.alloc (.cells #[.int .u8 34] 5) = w1 at *
 go_wp2_with fail
 go_loopw [3,5,9,17,28,34] (fun out _ i _ _ _ wr=>∃ (j : Nat) (acc : Bs) (A : Option Addr) (n c : Nat),j ≤ l.length ∧ i = .int .i64 (j : Int) ∧ out = .slice A n c ∧ n ≤ 4 * j + 1 ∧ wr.ownsRow z 5 1 (.slice A n c) n (bv acc) ∧ acc ++ ((l.drop j).flatMap qb ++ [34]) = QL ∧ Below z w wr) (fun _ _ i _ _ _ _=>l.length - (intOf i).toNat)
 case atStart=>exact ⟨0,[34],_,1,1,by omega,by first | rfl | simp,rfl,by omega,HOW0.out,HQ0.out,HBW0.out⟩
 case round=>
   obtain ⟨j,acc,A,n,c,hj,rfl,rfl,hnj,how,hq,hb⟩:=hrel
   have HOW:=hid how
   have HQ:=hid hq
   have HBW:=hid hb
   have hzw:=hb.size
   have hjN : j ≤ N:=by rw [← HRL.out];exact hj
   clear how hq hb HOW0 HBW0 HQ0
   by_cases hlt : j < l.length
   · obtain ⟨ad,had,hadb,hcell⟩:=HR.out.at_ (k:=j) (by rw [← HRL.out];exact hlt)
     subst had
     have hcr : wr.cell? (ad.add j) = some (.int .u8 (bt l j)):=(HBW.out.cell (p:=ad.add j) (by rw [block_of_add];have:=HZ.out;omega)).trans hcell
     have hji : (j : Int) < (N : Int):=by rw [← HRL.out];omega
     have hwj : IntKind.i64.wrap ((j : Int) + 1) = (j : Int) + 1:=by rw [IntKind.wrap_i64];omega
     obtain ⟨d,hd⟩ : ∃ d,bk l j = d:=⟨_,rfl⟩
     have hbt : bt l j = (d.toNat : Int):=by rw [← hd];rfl
     rw [hbt] at hcr
     have HQS:=hid (quote_step l j d hlt hd)
     have hd256 : d.toNat < 256:=d.toNat_lt
     clear hcell hbt hd
     by_cases h34 : d = 34
     · subst h34
       obtain ⟨zr,hzr⟩ : ∃ zr,wr.heap.size = zr:=⟨_,rfl⟩
       have hrd:=Reads.lit wr 5 [.int .u8 92,.int .u8 34] 2 1 rfl zr hzr
       have hol:=own_later HOW.out (show Below wr.heap.size wr (wr.alloc (.cells #[.int .u8 92,.int .u8 34] 5)) from (Below.refl _ _).alloc (Nat.le_refl _) _)
       have hbl:=HBW.out.alloc (show z ≤ wr.heap.size from by have:=HBW.out.size;have h2:=HZ.out;omega) (.cells #[.int .u8 92,.int .u8 34] 5)
       have hsz : z ≤ (wr.alloc (.cells #[.int .u8 92,.int .u8 34] 5)).heap.size:=by have:=HBW.out.size;have h2:=HZ.out;simp;omega
       have HRD:=hid hrd
       have HOL:=hid hol
       have HBL:=hid hbl
       clear hrd hol hbl
       go_wp2_with ((at_builtin;refine wl_app TB8 rfl (.tmp 24) (.tmp 26) rfl (.slice A n c) rfl (some ⟨zr,0,none⟩) 2 2 rfl z n (bv acc) HOL.out (zr + 1) (bv [92,34]) HRD.out (bv_one _) (by omega) (by omega) hsz ?_))
       intro A7 c7 w3 hown hg3 _
       have HON:=hid (show w3.ownsRow z 5 1 (.slice A7 (n + 2) c7) (n + 2) (bv (acc ++ [92,34])) by rw [bv_append];exact hown)
       have HBN:=hid (show Below z w w3 from HBL.out.grown hg3 hsz (fun j hj=>(HOL.out.lt j hj).1))
       clear hown hg3
       go_wp2_with fail
       exact ⟨⟨j + 1,acc ++ [92,34],A7,n + 2,c7,by omega,by first | rfl | (congr 1;omega),rfl,by omega,HON.out,by rw [← HQ.out,HQS.out,show qb 34 = [92,34] from rfl];simp only [List.append_assoc,List.cons_append,List.nil_append],HBN.out⟩,by simp [intOf];omega⟩
     · have n34 : ((d.toNat : Int) == 34) = false:=by rw [beq_eq_false_iff_ne];intro e;apply h34;apply UInt8.toNat_inj.1;show d.toNat = 34;omega
       by_cases h92 : d = 92
       · subst h92
         obtain ⟨zr,hzr⟩ : ∃ zr,wr.heap.size = zr:=⟨_,rfl⟩
         have hrd:=Reads.lit wr 5 [.int .u8 92,.int .u8 92] 2 1 rfl zr hzr
         have hol:=own_later HOW.out (show Below wr.heap.size wr (wr.alloc (.cells #[.int .u8 92,.int .u8 92] 5)) from (Below.refl _ _).alloc (Nat.le_refl _) _)
         have hbl:=HBW.out.alloc (show z ≤ wr.heap.size from by have:=HBW.out.size;have h2:=HZ.out;omega) (.cells #[.int .u8 92,.int .u8 92] 5)
         have hsz : z ≤ (wr.alloc (.cells #[.int .u8 92,.int .u8 92] 5)).heap.size:=by have:=HBW.out.size;have h2:=HZ.out;simp;omega
         have HRD:=hid hrd
         have HOL:=hid hol
         have HBL:=hid hbl
         clear hrd hol hbl
         clear h34
         go_wp2_with ((at_builtin;refine wl_app TB8 rfl (.tmp 24) (.tmp 26) rfl (.slice A n c) rfl (some ⟨zr,0,none⟩) 2 2 rfl z n (bv acc) HOL.out (zr + 1) (bv [92,92]) HRD.out (bv_one _) (by omega) (by omega) hsz ?_))
         intro A7 c7 w3 hown hg3 _
         have HON:=hid (show w3.ownsRow z 5 1 (.slice A7 (n + 2) c7) (n + 2) (bv (acc ++ [92,92])) by rw [bv_append];exact hown)
         have HBN:=hid (show Below z w w3 from HBL.out.grown hg3 hsz (fun j hj=>(HOL.out.lt j hj).1))
         clear hown hg3
         go_wp2_with fail
         exact ⟨⟨j + 1,acc ++ [92,92],A7,n + 2,c7,by omega,by first | rfl | (congr 1;omega),rfl,by omega,HON.out,by rw [← HQ.out,HQS.out,show qb 92 = [92,92] from rfl];simp only [List.append_assoc,List.cons_append,List.nil_append],HBN.out⟩,by simp [intOf];omega⟩
       · have n92 : ((d.toNat : Int) == 92) = false:=by rw [beq_eq_false_iff_ne];intro e;apply h92;apply UInt8.toNat_inj.1;show d.toNat = 92;omega
         by_cases h10 : d = 10
         · subst h10
           obtain ⟨zr,hzr⟩ : ∃ zr,wr.heap.size = zr:=⟨_,rfl⟩
           have hrd:=Reads.lit wr 5 [.int .u8 92,.int .u8 110] 2 1 rfl zr hzr
           have hol:=own_later HOW.out (show Below wr.heap.size wr (wr.alloc (.cells #[.int .u8 92,.int .u8 110] 5)) from (Below.refl _ _).alloc (Nat.le_refl _) _)
           have hbl:=HBW.out.alloc (show z ≤ wr.heap.size from by have:=HBW.out.size;have h2:=HZ.out;omega) (.cells #[.int .u8 92,.int .u8 110] 5)
           have hsz : z ≤ (wr.alloc (.cells #[.int .u8 92,.int .u8 110] 5)).heap.size:=by have:=HBW.out.size;have h2:=HZ.out;simp;omega
           have HRD:=hid hrd
           have HOL:=hid hol
           have HBL:=hid hbl
           clear hrd hol hbl
           clear h34 h92
           go_wp2_with ((at_builtin;refine wl_app TB8 rfl (.tmp 31) (.tmp 32) rfl (.slice A n c) rfl (some ⟨zr,0,none⟩) 2 2 rfl z n (bv acc) HOL.out (zr + 1) (bv [92,110]) HRD.out (bv_one _) (by omega) (by omega) hsz ?_))
           intro A7 c7 w3 hown hg3 _
           have HON:=hid (show w3.ownsRow z 5 1 (.slice A7 (n + 2) c7) (n + 2) (bv (acc ++ [92,110])) by rw [bv_append];exact hown)
           have HBN:=hid (show Below z w w3 from HBL.out.grown hg3 hsz (fun j hj=>(HOL.out.lt j hj).1))
           clear hown hg3
           go_wp2_with fail
           exact ⟨⟨j + 1,acc ++ [92,110],A7,n + 2,c7,by omega,by first | rfl | (congr 1;omega),rfl,by omega,HON.out,by rw [← HQ.out,HQS.out,show qb 10 = [92,110] from rfl];simp only [List.append_assoc,List.cons_append,List.nil_append],HBN.out⟩,by simp [intOf];omega⟩
         · have n10 : ((d.toNat : Int) == 10) = false:=by rw [beq_eq_false_iff_ne];intro e;apply h10;apply UInt8.toNat_inj.1;show d.toNat = 10;omega
           by_cases hodd : d.toNat < 32 ∨ 126 < d.toNat
           · have hq4 : qb d = [92,120,hexC.getD (d.toNat / 16) 0,hexC.getD (d.toNat % 16) 0]:=by rw [qb,if_neg (by rintro (h | h);exact h34 h;exact h92 h),if_neg h10,if_pos hodd]
             have HQ4:=hid hq4
             have HOD:=hid hodd
             have hi1:=fun W=>digit_tx (d.toNat / 16) (by omega) W
             have hi2:=fun W=>digit_tx (d.toNat % 16) (by omega) W
             rw [← and15_tx d.toNat hd256] at hi2
             rw [show ((d.toNat / 16 : Nat) : Int) = (d.toNat : Int) / 16 by omega] at hi1
             obtain ⟨u1,hu1⟩ : ∃ u1,hexC.getD (d.toNat / 16) 0 = u1:=⟨_,rfl⟩
             obtain ⟨u2,hu2⟩ : ∃ u2,hexC.getD (d.toNat % 16) 0 = u2:=⟨_,rfl⟩
             rw [hu1] at hi1
             rw [hu2] at hi2
             rw [hu1,hu2] at HQ4
             clear hu1 hu2 hq4 hodd h34 h92 h10
             have hodd:=HOD.out
             clear HOD
             rcases (show ((d.toNat : Int) < 32) ∨ (¬ ((d.toNat : Int) < 32) ∧ (126 : Int) < (d.toNat : Int)) by omega) with o1 | ⟨o1,o2⟩
             · have od1 : decide ((d.toNat : Int) < 32) = true:=decide_eq_true o1
               go_upto_region 11 with fail
               have HOWd:=hid (show wr.drew.ownsRow z 5 1 (.slice A n c) n (bv acc) from HOW.out)
               have HBWd:=hid (show Below z w wr.drew from HBW.out.drew)
               clear hcr HOW HBW
               have hzd : z ≤ wr.drew.heap.size:=by rw [← HZ.out];exact hzw
               refine wp_region_noPanic ?_
               refine wp_region_until (S:=fun _=>True) 9 (by kernel_rfl) trivial (fun hHeld=>?_)
               generalize wr.drew = wd at *
               apply tkY 0
               apply tkY 1
               apply tkY 2
               apply tkY 3
               apply tkY 4
               apply tkY 5
               apply tkY 6
               obtain ⟨zr,hzr⟩ : ∃ zr,wd.heap.size = zr:=⟨_,rfl⟩
               have hrd:=Reads.lit wd 5 [.int .u8 92,.int .u8 120,.int .u8 (u1.toNat : Int),.int .u8 (u2.toNat : Int)] 4 1 rfl zr hzr
               have hol:=own_later HOWd.out (show Below wd.heap.size wd (wd.alloc (.cells #[.int .u8 92,.int .u8 120,.int .u8 (u1.toNat : Int),.int .u8 (u2.toNat : Int)] 5)) from (Below.refl _ _).alloc (Nat.le_refl _) _)
               have hbl:=HBWd.out.alloc (show z ≤ wd.heap.size from by have:=HBWd.out.size;have h2:=HZ.out;omega) (.cells #[.int .u8 92,.int .u8 120,.int .u8 (u1.toNat : Int),.int .u8 (u2.toNat : Int)] 5)
               have hsz : z ≤ (wd.alloc (.cells #[.int .u8 92,.int .u8 120,.int .u8 (u1.toNat : Int),.int .u8 (u2.toNat : Int)] 5)).heap.size:=by have:=HBWd.out.size;have h2:=HZ.out;simp;omega
               have HRD:=hid hrd
               have HOL:=hid hol
               have HBL:=hid hbl
               clear hrd hol hbl
               refine wpAnyU_one (i:=7) rfl (by decide) (by kernel_rfl) (by rfl) (fun K' hK'=>?_)
               have HKP:=hid hK'
               clear hK'
               go_simp
               (try rw [hzr])
               refine HKP.out _ _ trivial ?_
               clear HKP K'
               (try simp only [List.getElem_toArray,List.getElem_cons_zero,List.getElem_cons_succ,Act.put,List.setIfInBounds_toArray,List.set_cons_zero,List.set_cons_succ])
               obtain ⟨A7,c7,w3,hrun,hown,hg3,_⟩:=run_app TB8 (wd.alloc (.cells #[.int .u8 92,.int .u8 120,.int .u8 (u1.toNat : Int),.int .u8 (u2.toNat : Int)] 5)) 75 z (.slice A n c) n (bv acc) HOL.out (zr + 1) (some ⟨zr,0,none⟩) 4 4 (bv [92,120,u1,u2]) HRD.out (bv_one _) (by omega) (by omega) hsz
               have HRUN:=hid hrun
               have HON:=hid (show w3.ownsRow z 5 1 (.slice A7 (n + 4) c7) (n + 4) (bv (acc ++ [92,120,u1,u2])) by rw [bv_append];exact hown)
               have HBN:=hid (show Below z w w3 from HBL.out.grown hg3 hsz (fun j hj=>(HOL.out.lt j hj).1))
               clear hrun hown hg3
               refine wpAnyU_one (i:=8) rfl (by decide) (by kernel_rfl) (by rfl) (fun K' hK'=>?_)
               have HKP:=hid hK'
               clear hK'
               refine Lib.wp_append_run _ (.tmp 41) (.tmp 48) 75 75 rfl _ _ rfl rfl _ _ HRUN.out ?_
               refine HKP.out _ _ trivial ?_
               clear HKP K'
               (try simp only [List.getElem_toArray,List.getElem_cons_zero,List.getElem_cons_succ,Act.put,List.setIfInBounds_toArray,List.set_cons_zero,List.set_cons_succ])
               refine wpAnyU_at (c:=9) rfl (by kernel_rfl) (by rfl) (fun K hK=>?_)
               have HK:=hid hK
               clear hK
               go_simp
               refine HK.out _ _ ?_
               clear HK K
               (try simp only [List.getElem_toArray,List.getElem_cons_zero,List.getElem_cons_succ,Act.put,List.setIfInBounds_toArray,List.set_cons_zero,List.set_cons_succ])
               refine wpAny_done (by kernel_rfl) ?_ _
               refine NoPanic.normal ?_
               go_wp2_with fail
               exact ⟨⟨j + 1,acc ++ [92,120,u1,u2],A7,n + 4,c7,by omega,by first | rfl | (congr 1;omega),rfl,by omega,HON.out,by rw [← HQ.out,HQS.out,HQ4.out];simp only [List.append_assoc,List.cons_append,List.nil_append],HBN.out⟩,by simp [intOf];omega⟩
             · have od1 : decide ((d.toNat : Int) < 32) = false:=decide_eq_false o1
               have od2 : decide ((126 : Int) < (d.toNat : Int)) = true:=decide_eq_true o2
               go_upto_region 11 with fail
               have HOWd:=hid (show wr.drew.ownsRow z 5 1 (.slice A n c) n (bv acc) from HOW.out)
               have HBWd:=hid (show Below z w wr.drew from HBW.out.drew)
               clear hcr HOW HBW
               have hzd : z ≤ wr.drew.heap.size:=by rw [← HZ.out];exact hzw
               refine wp_region_noPanic ?_
               refine wp_region_until (S:=fun _=>True) 9 (by kernel_rfl) trivial (fun hHeld=>?_)
               generalize wr.drew = wd at *
               apply tkY 0
               apply tkY 1
               apply tkY 2
               apply tkY 3
               apply tkY 4
               apply tkY 5
               apply tkY 6
               obtain ⟨zr,hzr⟩ : ∃ zr,wd.heap.size = zr:=⟨_,rfl⟩
               have hrd:=Reads.lit wd 5 [.int .u8 92,.int .u8 120,.int .u8 (u1.toNat : Int),.int .u8 (u2.toNat : Int)] 4 1 rfl zr hzr
               have hol:=own_later HOWd.out (show Below wd.heap.size wd (wd.alloc (.cells #[.int .u8 92,.int .u8 120,.int .u8 (u1.toNat : Int),.int .u8 (u2.toNat : Int)] 5)) from (Below.refl _ _).alloc (Nat.le_refl _) _)
               have hbl:=HBWd.out.alloc (show z ≤ wd.heap.size from by have:=HBWd.out.size;have h2:=HZ.out;omega) (.cells #[.int .u8 92,.int .u8 120,.int .u8 (u1.toNat : Int),.int .u8 (u2.toNat : Int)] 5)
               have hsz : z ≤ (wd.alloc (.cells #[.int .u8 92,.int .u8 120,.int .u8 (u1.toNat : Int),.int .u8 (u2.toNat : Int)] 5)).heap.size:=by have:=HBWd.out.size;have h2:=HZ.out;simp;omega
               have HRD:=hid hrd
               have HOL:=hid hol
               have HBL:=hid hbl
               clear hrd hol hbl
               refine wpAnyU_one (i:=7) rfl (by decide) (by kernel_rfl) (by rfl) (fun K' hK'=>?_)
               have HKP:=hid hK'
               clear hK'
               go_simp
               (try rw [hzr])
               refine HKP.out _ _ trivial ?_
               clear HKP K'
               (try simp only [List.getElem_toArray,List.getElem_cons_zero,List.getElem_cons_succ,Act.put,List.setIfInBounds_toArray,List.set_cons_zero,List.set_cons_succ])
               obtain ⟨A7,c7,w3,hrun,hown,hg3,_⟩:=run_app TB8 (wd.alloc (.cells #[.int .u8 92,.int .u8 120,.int .u8 (u1.toNat : Int),.int .u8 (u2.toNat : Int)] 5)) 75 z (.slice A n c) n (bv acc) HOL.out (zr + 1) (some ⟨zr,0,none⟩) 4 4 (bv [92,120,u1,u2]) HRD.out (bv_one _) (by omega) (by omega) hsz
               have HRUN:=hid hrun
               have HON:=hid (show w3.ownsRow z 5 1 (.slice A7 (n + 4) c7) (n + 4) (bv (acc ++ [92,120,u1,u2])) by rw [bv_append];exact hown)
               have HBN:=hid (show Below z w w3 from HBL.out.grown hg3 hsz (fun j hj=>(HOL.out.lt j hj).1))
               clear hrun hown hg3
               refine wpAnyU_one (i:=8) rfl (by decide) (by kernel_rfl) (by rfl) (fun K' hK'=>?_)
               have HKP:=hid hK'
               clear hK'
               refine Lib.wp_append_run _ (.tmp 41) (.tmp 48) 75 75 rfl _ _ rfl rfl _ _ HRUN.out ?_
               refine HKP.out _ _ trivial ?_
               clear HKP K'
               (try simp only [List.getElem_toArray,List.getElem_cons_zero,List.getElem_cons_succ,Act.put,List.setIfInBounds_toArray,List.set_cons_zero,List.set_cons_succ])
               refine wpAnyU_at (c:=9) rfl (by kernel_rfl) (by rfl) (fun K hK=>?_)
               have HK:=hid hK
               clear hK
               go_simp
               refine HK.out _ _ ?_
               clear HK K
               (try simp only [List.getElem_toArray,List.getElem_cons_zero,List.getElem_cons_succ,Act.put,List.setIfInBounds_toArray,List.set_cons_zero,List.set_cons_succ])
               refine wpAny_done (by kernel_rfl) ?_ _
               refine NoPanic.normal ?_
               go_wp2_with fail
               exact ⟨⟨j + 1,acc ++ [92,120,u1,u2],A7,n + 4,c7,by omega,by first | rfl | (congr 1;omega),rfl,by omega,HON.out,by rw [← HQ.out,HQS.out,HQ4.out];simp only [List.append_assoc,List.cons_append,List.nil_append],HBN.out⟩,by simp [intOf];omega⟩
           · have hq1 : qb d = [d]:=by rw [qb,if_neg (by rintro (h | h);exact h34 h;exact h92 h),if_neg h10,if_neg hodd]
             have HQ1:=hid hq1
             have o1 : ¬ ((d.toNat : Int) < 32):=by omega
             have o2 : ¬ ((126 : Int) < (d.toNat : Int)):=by omega
             clear hq1 hodd h34 h92 h10
             obtain ⟨zr,hzr⟩ : ∃ zr,wr.heap.size = zr:=⟨_,rfl⟩
             have hrd:=Reads.lit wr 5 [.int .u8 (d.toNat : Int)] 1 1 rfl zr hzr
             have hol:=own_later HOW.out (show Below wr.heap.size wr (wr.alloc (.cells #[.int .u8 (d.toNat : Int)] 5)) from (Below.refl _ _).alloc (Nat.le_refl _) _)
             have hbl:=HBW.out.alloc (show z ≤ wr.heap.size from by have:=HBW.out.size;have h2:=HZ.out;omega) (.cells #[.int .u8 (d.toNat : Int)] 5)
             have hsz : z ≤ (wr.alloc (.cells #[.int .u8 (d.toNat : Int)] 5)).heap.size:=by have:=HBW.out.size;have h2:=HZ.out;simp;omega
             have HRD:=hid hrd
             have HOL:=hid hol
             have HBL:=hid hbl
             clear hrd hol hbl
             go_wp2_with ((at_builtin;refine wl_app TB8 rfl (.tmp 13) (.tmp 15) rfl (.slice A n c) rfl (some ⟨zr,0,none⟩) 1 1 rfl z n (bv acc) HOL.out (zr + 1) (bv [d]) HRD.out (bv_one _) (by omega) (by omega) hsz ?_))
             intro A7 c7 w3 hown hg3 _
             have HON:=hid (show w3.ownsRow z 5 1 (.slice A7 (n + 1) c7) (n + 1) (bv (acc ++ [d])) by rw [bv_append];exact hown)
             have HBN:=hid (show Below z w w3 from HBL.out.grown hg3 hsz (fun j hj=>(HOL.out.lt j hj).1))
             clear hown hg3
             go_wp2_with fail
             exact ⟨⟨j + 1,acc ++ [d],A7,n + 1,c7,by omega,by first | rfl | (congr 1;omega),rfl,by omega,HON.out,by rw [← HQ.out,HQS.out,HQ1.out];simp only [List.append_assoc,List.cons_append,List.nil_append],HBN.out⟩,by simp [intOf];omega⟩
   · have hge : ¬ ((j : Int) < (N : Int)):=by rw [← HRL.out];omega
     have hjl : l.drop j = []:=List.drop_eq_nil_of_le (by omega)
     have HE:=hid (show acc ++ [34] = QL by rw [← HQ.out,hjl];rfl)
     clear hjl
     obtain ⟨zr,hzr⟩ : ∃ zr,wr.heap.size = zr:=⟨_,rfl⟩
     have hrd:=Reads.lit wr 5 [.int .u8 34] 1 1 rfl zr hzr
     have hol:=own_later HOW.out (show Below wr.heap.size wr (wr.alloc (.cells #[.int .u8 34] 5)) from (Below.refl _ _).alloc (Nat.le_refl _) _)
     have hbl:=HBW.out.alloc (show z ≤ wr.heap.size from by have:=HBW.out.size;have h2:=HZ.out;omega) (.cells #[.int .u8 34] 5)
     have hsz : z ≤ (wr.alloc (.cells #[.int .u8 34] 5)).heap.size:=by have:=HBW.out.size;have h2:=HZ.out;simp;omega
     have HRD:=hid hrd
     have HOL:=hid hol
     have HBL:=hid hbl
     clear hrd hol hbl
     go_wp2_with ((at_builtin;refine wl_app TB8 rfl (.tmp 51) (.tmp 52) rfl (.slice A n c) rfl (some ⟨zr,0,none⟩) 1 1 rfl z n (bv acc) HOL.out (zr + 1) (bv [34]) HRD.out (bv_one _) (by omega) (by omega) hsz ?_))
     intro A7 c7 w3 hown hg3 _
     have HON:=hid (show w3.ownsRow z 5 1 (.slice A7 (n + 1) c7) (n + 1) (bv (acc ++ [34])) by rw [bv_append];exact hown)
     have HBN:=hid (show Below z w w3 from HBL.out.grown hg3 hsz (fun j hj=>(HOL.out.lt j hj).1))
     clear hown hg3
     have HRB:=hid (RB.of_own HON.out)
     go_wp2_with (refine wl_str Tryd.underlying75 Tryd.underlying5 Tryd.underlying9 rfl (.tmp 53) rfl A7 (n + 1) c7 rfl _ (acc ++ [34]) HRB.out ?_)
     go_ret
     exact ⟨by rw [← HE.out];rfl,by rw [HZ.out];exact HBN.out⟩
end Go.Proofs.YtgmjpnnblhkbpaaDoor
namespace Go.Proofs.YtgmjpnnblhkbpaaDoor
open Go Go.RowKit Go.Sh Tx
open Go.Lib (hid)
set_option maxRecDepth 100000 in
theorem TSq : STy Tryd.prog 71 9 (.string .empty) 1 16:=⟨Tryd.underlying71,by kernel_rfl,rfl,by decide⟩
theorem conv_tx (W : World) (s : ByteArray) : ∃ cap w',(convert 9 75 (.string s)).run Tryd.prog W = .ok (.slice (some ⟨W.heap.size,0,none⟩) s.size cap) w' ∧ RB w' w'.heap.size (some ⟨W.heap.size,0,none⟩) s.size s.data.toList ∧ s.size ≤ cap ∧ w'.heap.size = W.heap.size + 1 ∧ Below W.heap.size W w':=by
 refine ⟨_,_,run_bytes_of_string W 9 75 5 s Tryd.underlying9 Tryd.underlying75 Tryd.underlying5,?_,?_,?_,?_⟩
 · have hl : s.data.toList.length = s.size:=by rw [Array.length_toList];rfl
   refine ⟨by rw [length_bv,hl,Nat.mul_one],.inr ⟨_,rfl,by simp,fun j hj=>?_⟩⟩
   have hj' : j < s.data.size:=by rw [length_bv,hl] at hj;exact hj
   have hnew:=heap_alloc_new W.drew (.cells (bytesRow s (grownCap W s.size 0 5)) 5 ((bytesRow s (grownCap W s.size 0 5)).size,(bytesRow s (grownCap W s.size 0 5)).size + 1))
   rw [add_mk,Nat.zero_add]
   have hc:=blk_cell (i:=j) hnew
   rw [show (⟨W.heap.size,j,none⟩ : Addr) = ⟨W.drew.heap.size,j,none⟩ from rfl,hc]
   unfold bytesRow
   rw [Array.getElem?_append_left (by rw [Array.size_map];exact hj'),Array.getElem?_map,Array.getElem?_eq_getElem hj']
   simp [bv]
   rw [Array.getElem?_eq_getElem hj']
   rfl
 · exact grownCap_ge _ _ _ _
 · simp
 · exact (Below.refl _ _).drew.alloc (Nat.le_refl _) _
def spW : List Tk → List Bs
 | []=>[]
 | t :: l=>if t.kind = 6 then spW l else spell t :: spW l
def svs (xs : List Bs) : List Value:=xs.map fun x=>.string (sb x)
theorem svs_app (xs ys : List Bs) : svs (xs ++ ys) = svs xs ++ svs ys:=List.map_append
theorem qflat_len (b : Bs) : (b.flatMap qb).length ≤ 4 * b.length:=by
 induction b with
 | nil=>exact Nat.le_refl _
 | cons c b ih=>rw [List.flatMap_cons,List.length_append,List.length_cons];have:=qb_len c;omega
theorem spell_len {t : Tk} (h : t.text.length ≤ 8000) : (spell t).length ≤ 32002:=by
 unfold spell quoteB
 split
 · rw [List.length_cons,List.length_append];have:=qflat_len t.text;have : ([34] : Bs).length = 1:=rfl;omega
 · omega
theorem spW_mem {x : Bs} : ∀ {l : List Tk},x ∈ spW l → ∃ t ∈ l,x = spell t
 | [],h=>by cases h
 | t :: l,h=>by
   unfold spW at h
   split at h
   · obtain ⟨u,hu,e⟩:=spW_mem h;exact ⟨u,List.mem_cons_of_mem _ hu,e⟩
   · rcases List.mem_cons.1 h with h | h
     · exact ⟨t,List.mem_cons_self ..,h⟩
     · obtain ⟨u,hu,e⟩:=spW_mem h;exact ⟨u,List.mem_cons_of_mem _ hu,e⟩
theorem joinTail_len {M : Nat} : ∀ xs : List Bs,(∀ x ∈ xs,x.length ≤ M) → (Lib.joinTail [32] xs).length ≤ xs.length * (M + 1)
 | [],_=>by simp [Lib.joinTail]
 | x :: xs,h=>by
   have h1:=joinTail_len xs fun y hy=>h y (List.mem_cons_of_mem _ hy)
   have h2:=h x (List.mem_cons_self ..)
   have e : Lib.joinTail [32] (x :: xs) = ([32] ++ x) ++ Lib.joinTail [32] xs:=rfl
   rw [e]
   simp only [List.length_append,List.length_cons,List.length_nil,Nat.add_mul,Nat.one_mul]
   omega
theorem join_len {M : Nat} (xs : List Bs) (h : ∀ x ∈ xs,x.length ≤ M) : (Lib.join xs [32]).length ≤ (xs.length + 1) * (M + 1):=by
 cases xs with
 | nil=>rw [Lib.join_nil];exact Nat.zero_le _
 | cons x xs=>
   have h1:=joinTail_len xs fun y hy=>h y (List.mem_cons_of_mem _ hy)
   have h2:=h x (List.mem_cons_self ..)
   rw [Lib.join_cons,List.length_append,List.length_cons,Nat.add_mul,Nat.add_mul,Nat.one_mul]
   omega
theorem map_sb (xs : List Bs) : (xs.map sb).map (fun x : ByteArray=>x.data.toList) = xs:=by
 induction xs with
 | nil=>rfl
 | cons x xs ih=>rw [List.map_cons,List.map_cons,ih,sb_list]
theorem RR.of_own_len {w : World} {z c n : Nat} {A : Option Addr} {xs : List Bs} (h : w.ownsRow z 9 1 (.slice A n c) n (svs xs)) : xs.length = n:=by
 have:=h.1
 rw [svs,List.length_map] at this
 omega
theorem Join_own (z : Nat) (A : Option Addr) (n c : Nat) (xs : List Bs) (w : World) (h : w.ownsRow z 9 1 (.slice A n c) n (svs xs)) (hn : n ≤ 8001) (hx : ∀ x ∈ xs,x.length ≤ 32002) :
   Calls Tryd.prog 22 #[.slice A n c,.string ⟨#[32]⟩] w fun e w'=>e = .returned (.string (sb (Lib.join xs [32]))) ∧ Below w.heap.size w w':=by
 have hl : xs.length = n:=by have:=(RR.of_own_len h);exact this
 rcases h.2 with ⟨h,h0⟩ | ⟨g,cap,cur,hv,hbg,hh,hcap,hcz,hcur⟩
 · injection h with h1 h2 h3
   subst h1 h2 h3
   have hx0 : xs = []:=List.eq_nil_of_length_eq_zero hl
   subst hx0
   refine (Join_none none 0 ⟨#[32]⟩ w).mono ?_
   rintro e w' ⟨rfl,rfl⟩
   exact ⟨rfl,Below.refl _ _⟩
 · injection hv with hv h2 h3
   subst hv h3
   have hj:=Join_any g 0 c (xs.map sb) ⟨#[32]⟩ w (fun j x hjx=>by
       rw [List.getElem?_map,Option.map_eq_some_iff] at hjx
       obtain ⟨y,hy,rfl⟩:=hjx
       have:=h.cells (g:=g) rfl j (.string (sb y)) (by rw [svs,List.getElem?_map,hy];rfl)
       rw [add_mk] at this
       exact this) (Array.getElem?_eq_some_iff.1 hh).1 (by rw [List.length_map];omega) (by rw [List.length_map];omega) (by
         rw [map_sb]
         have h1:=join_len (M:=32002) xs hx
         have h2 : (xs.length + 1) * 32003 ≤ 8002 * 32003:=Nat.mul_le_mul_right _ (by omega)
         show (Lib.join xs [32]).length ≤ _
         omega)
   rw [map_sb,List.length_map,hl] at hj
   exact hj
set_option maxHeartbeats 8000000 in
set_option maxRecDepth 100000 in
theorem Spell_any (tks : List (Tk × Int)) (B : Nat) (A0 : Option Addr) (N c0 : Nat) (w : World) (hr : RR w B 4 A0 N (tks.map tkc)) (hB : B ≤ w.heap.size) (hN : N ≤ 8001) (ht : ∀ t ∈ tks,t.1.text.length ≤ 8000) :
   Calls Tryd.prog 8 #[.slice A0 N c0] w fun e w'=>e = .returned (.string (sb (Lib.join (spW (tks.map Prod.fst)) [32]))) ∧ Below w.heap.size w w':=by
 have hlen : tks.length = N:=by have:=hr.len;rw [List.length_map] at this;exact this
 have HLN:=hid hlen
 have HR:=hid hr
 have HT:=hid ht
 obtain ⟨z,hz⟩ : ∃ z,w.heap.size = z:=⟨_,rfl⟩
 have HZ:=hid hz
 have HWS:=hid (fun x (hx : x ∈ spW (tks.map Prod.fst))=>(show x.length ≤ 32002 by
   obtain ⟨t,h1,rfl⟩:=spW_mem hx
   obtain ⟨u,h2,rfl⟩:=List.mem_map.1 h1
   exact spell_len (ht u h2)))
 have HQ0:=hid (show ([] : List Bs) ++ spW ((tks.drop 0).map Prod.fst) = spW (tks.map Prod.fst) from rfl)
 generalize spW (tks.map Prod.fst) = WS at *
 clear hr ht hlen hz
 go_enter Tryd.func8,Tryd.ntmps8
 go_wp2_with fail
 go_loopw [3,8] (fun ws i wr=>∃ (j : Nat) (xs : List Bs) (A : Option Addr) (n c : Nat),j ≤ N ∧ i = .int .i64 (j : Int) ∧ ws = .slice A n c ∧ n ≤ j ∧ wr.ownsRow z 9 1 (.slice A n c) n (svs xs) ∧ xs ++ spW ((tks.drop j).map Prod.fst) = WS ∧ Below z w wr) (fun _ i _=>N - (intOf i).toNat)
 case atStart=>exact ⟨0,[],none,0,0,by omega,by first | rfl | simp,rfl,by omega,World.ownsRow_nil _ _ _ _,HQ0.out,Below.refl _ _⟩
 case round=>
   obtain ⟨j,xs,A,n,c,hj,rfl,rfl,hnj,how,hq,hb⟩:=hrel
   have HOW:=hid how
   have HQ:=hid hq
   have HBW:=hid hb
   have hzw:=hb.size
   clear how hq hb HQ0
   by_cases hlt : j < N
   · have hji : (j : Int) < (N : Int):=by omega
     have hwj : IntKind.i64.wrap ((j : Int) + 1) = (j : Int) + 1:=by rw [IntKind.wrap_i64];omega
     obtain ⟨b,off,cs,hA,hbB,hcs,hcl,hrg⟩:=HR.out.at_ hlt
     rw [List.getElem?_map,Option.map_eq_some_iff] at hcs
     obtain ⟨t,htj,rfl⟩:=hcs
     have hd : tks.drop j = t :: tks.drop (j + 1):=by
       rw [List.getElem?_eq_some_iff] at htj
       obtain ⟨h1,h2⟩:=htj
       rw [← h2];exact List.drop_eq_getElem_cons h1
     have HTX:=hid (HT.out t (List.mem_of_getElem? htj))
     have HQS:=hid (show xs ++ (if t.1.kind = 6 then spW ((tks.drop (j + 1)).map Prod.fst) else spell t.1 :: spW ((tks.drop (j + 1)).map Prod.fst)) = WS by rw [← HQ.out,hd];rfl)
     subst hA
     have hb2 : b < z:=by have:=HZ.out;omega
     have s0:=(HBW.out.cell (p:=⟨b,off + j * 4 + 0,none⟩) hb2).trans (hrg 0 _ rfl)
     have s1:=(HBW.out.cell (p:=⟨b,off + j * 4 + 1,none⟩) hb2).trans (hrg 1 _ rfl)
     have s2:=(HBW.out.cell (p:=⟨b,off + j * 4 + 2,none⟩) hb2).trans (hrg 2 _ rfl)
     have s3:=(HBW.out.cell (p:=⟨b,off + j * 4 + 3,none⟩) hb2).trans (hrg 3 _ rfl)
     rw [Nat.add_zero] at s0
     clear hrg hcl htj hd HQ
     obtain ⟨⟨k,tx,m⟩,ta⟩:=t
     simp only at s0 s1 s2 s3 HTX HQS
     have HSZ:=hid (sb_size tx)
     have HSL:=hid (sb_list tx)
     have HSP:=hid (show spell ⟨k,tx,m⟩ = if k = 4 then quoteB tx else tx from rfl)
     obtain ⟨S,hS⟩ : ∃ S,sb tx = S:=⟨_,rfl⟩
     rw [hS] at s1 HSZ HSL
     have HSS:=hid hS
     clear hS
     have hba : Below wr.heap.size wr (wr.alloc (.cells #[.int .i64 k,.string S,.int .i64 m,.int .i64 ta] 73)):=(Below.refl _ wr).alloc (Nat.le_refl _) _
     have HBA:=hid (HBW.out.trans (hba.mono (by have:=HZ.out;omega)))
     have HOA:=hid (own_later HOW.out hba)
     have y0 : (wr.alloc (.cells #[.int .i64 k,.string S,.int .i64 m,.int .i64 ta] 73)).cell? ⟨wr.heap.size,0,none⟩ = some (.int .i64 k):=blk_cell (heap_alloc_new wr _)
     have y1 : (wr.alloc (.cells #[.int .i64 k,.string S,.int .i64 m,.int .i64 ta] 73)).cell? ⟨wr.heap.size,1,none⟩ = some (.string S):=blk_cell (heap_alloc_new wr _)
     have hzA : z ≤ (wr.alloc (.cells #[.int .i64 k,.string S,.int .i64 m,.int .i64 ta] 73)).heap.size:=by have:=HZ.out;have:=hba.size;omega
     clear hba HOW HBW
     go_upto_region 5 with fail
     obtain ⟨y,hy⟩ : ∃ y,wr.heap.size = y:=⟨_,rfl⟩
     rw [hy] at y0 y1 ⊢
     clear hy s0 s1 s2 s3
     generalize wr.alloc (.cells #[.int .i64 k,.string S,.int .i64 m,.int .i64 ta] 73) = wa at *
     by_cases h6 : k = 6
     · subst h6
       go_wp2_with fail
       exact ⟨⟨j + 1,xs,A,n,c,by omega,by first | rfl | (congr 1;omega),rfl,by omega,HOA.out,HQS.out,HBA.out⟩,by simp [intOf];omega⟩
     · have n6 : (k == 6) = false:=beq_eq_false_iff_ne.2 h6
       have HQ2:=hid (show xs ++ (spell ⟨k,tx,m⟩ :: spW ((tks.drop (j + 1)).map Prod.fst)) = WS by have:=HQS.out;rwa [if_neg h6] at this)
       clear h6
       by_cases h4 : k = 4
       · subst h4
         obtain ⟨cap,wc,hrun,hrb,hcap,hzc,hbc⟩:=conv_tx wa S
         rw [HSL.out] at hrb
         have HBC:=hid (HBA.out.trans (hbc.mono hzA))
         have HOC:=hid (own_later HOA.out hbc)
         have hzC : z ≤ wc.heap.size:=by omega
         have HQU:=hid (Quote_any _ S.size cap tx wc wc.heap.size hrb (Nat.le_refl _) (by rw [HSZ.out];have:=HTX.out;omega))
         have HRUN:=hid hrun
         clear hrb hbc hzc hcap HBA HOA hrun
         have hrun:=HRUN.out
         go_wp2_with fail
         refine HQU.out.mono ?_
         rintro e wd ⟨rfl,hbd⟩
         have HBD:=hid (HBC.out.trans (hbd.mono hzC))
         have HOD:=hid (own_later HOC.out hbd)
         have hzD : z ≤ wd.heap.size:=Nat.le_trans hzC hbd.size
         have HSP4:=hid (show spell ⟨4,tx,m⟩ = quoteB tx from rfl)
         clear hbd HBC HOC HQU hrun HRUN y1
         obtain ⟨V,hV⟩ : ∃ V,sb (quoteB tx) = V:=⟨_,rfl⟩
         rw [hV]
         have HV:=hid hV
         clear hV
         obtain ⟨zr,hzr⟩ : ∃ zr,wd.heap.size = zr:=⟨_,rfl⟩
         have hrd:=Reads.lit wd 9 [.string V] 1 1 rfl zr hzr
         have hol:=own_later HOD.out (show Below wd.heap.size wd (wd.alloc (.cells #[.string V] 9)) from (Below.refl _ _).alloc (Nat.le_refl _) _)
         have hbl:=HBD.out.alloc hzD (.cells #[.string V] 9)
         have hsz : z ≤ (wd.alloc (.cells #[.string V] 9)).heap.size:=by simp;omega
         have HRD:=hid hrd
         have HOL:=hid hol
         have HBL:=hid hbl
         clear hrd hol hbl
         go_wp2_with ((at_builtin;refine wl_app TSq rfl (.tmp 23) (.tmp 28) rfl (.slice A n c) rfl (some ⟨zr,0,none⟩) 1 1 rfl z n (svs xs) HOL.out (zr + 1) [.string V] HRD.out (by simp [Value.oneCell']) (by omega) (by omega) hsz ?_))
         intro A7 c7 w3 hown hg3 _
         have HON:=hid (show w3.ownsRow z 9 1 (.slice A7 (n + 1) c7) (n + 1) (svs (xs ++ [(quoteB tx)])) by rw [svs_app,show svs [(quoteB tx)] = [.string V] by rw [← HV.out];rfl];exact hown)
         have HBN:=hid (show Below z w w3 from HBL.out.grown hg3 hsz (fun j hj=>(HOL.out.lt j hj).1))
         clear hown hg3
         go_wp2_with fail
         exact ⟨⟨j + 1,xs ++ [(quoteB tx)],A7,n + 1,c7,by omega,by first | rfl | (congr 1;omega),rfl,by omega,HON.out,by rw [List.append_assoc,List.cons_append,List.nil_append,← HQ2.out,HSP4.out],HBN.out⟩,by simp [intOf];omega⟩
       · have n4 : (k == 4) = false:=beq_eq_false_iff_ne.2 h4
         have HSP1:=hid (show spell ⟨k,tx,m⟩ = tx by rw [HSP.out,if_neg h4])
         clear h4
         have HBD:=HBA
         have HOD:=HOA
         have hzD:=hzA
         obtain ⟨zr,hzr⟩ : ∃ zr,wa.heap.size = zr:=⟨_,rfl⟩
         have hrd:=Reads.lit wa 9 [.string S] 1 1 rfl zr hzr
         have hol:=own_later HOD.out (show Below wa.heap.size wa (wa.alloc (.cells #[.string S] 9)) from (Below.refl _ _).alloc (Nat.le_refl _) _)
         have hbl:=HBD.out.alloc hzD (.cells #[.string S] 9)
         have hsz : z ≤ (wa.alloc (.cells #[.string S] 9)).heap.size:=by simp;omega
         have HRD:=hid hrd
         have HOL:=hid hol
         have HBL:=hid hbl
         clear hrd hol hbl
         go_wp2_with ((at_builtin;refine wl_app TSq rfl (.tmp 14) (.tmp 17) rfl (.slice A n c) rfl (some ⟨zr,0,none⟩) 1 1 rfl z n (svs xs) HOL.out (zr + 1) [.string S] HRD.out (by simp [Value.oneCell']) (by omega) (by omega) hsz ?_))
         intro A7 c7 w3 hown hg3 _
         have HON:=hid (show w3.ownsRow z 9 1 (.slice A7 (n + 1) c7) (n + 1) (svs (xs ++ [tx])) by rw [svs_app,show svs [tx] = [.string S] by rw [← HSS.out];rfl];exact hown)
         have HBN:=hid (show Below z w w3 from HBL.out.grown hg3 hsz (fun j hj=>(HOL.out.lt j hj).1))
         clear hown hg3
         go_wp2_with fail
         exact ⟨⟨j + 1,xs ++ [tx],A7,n + 1,c7,by omega,by first | rfl | (congr 1;omega),rfl,by omega,HON.out,by rw [List.append_assoc,List.cons_append,List.nil_append,← HQ2.out,HSP1.out],HBN.out⟩,by simp [intOf];omega⟩
   · have hge : ¬ ((j : Int) < (N : Int)):=by omega
     have hdr : tks.drop j = []:=List.drop_eq_nil_of_le (by have:=HLN.out;omega)
     have HE:=hid (show xs = WS by rw [← HQ.out,hdr];simp [spW])
     have HJN:=hid (Join_own z A n c xs wr HOW.out (by omega) (by rw [HE.out];exact HWS.out))
     clear hdr
     go_wp2_with fail
     refine HJN.out.mono ?_
     rintro e w2 ⟨rfl,hb2⟩
     have HB2:=hid (HBW.out.trans (hb2.mono (by have:=HZ.out;omega)))
     clear hb2
     go_wp2_with fail
     go_ret
     exact ⟨by first | rfl | (rw [HE.out];rfl),by rw [HZ.out];exact HB2.out⟩
end Go.Proofs.YtgmjpnnblhkbpaaDoor
namespace Go.Proofs.YtgmjpnnblhkbpaaDoor
open Go Go.RowKit Go.Sh Tx
open Go.Lib (hid)
set_option maxHeartbeats 4000000 in
set_option maxRecDepth 100000 in
theorem write_any (b : Nat) (l : Bs) (xs : List Bs) (g : Nat) (w : World) (h : Pr w b l) (hx : w.heap[g]? = some (.cells (svs xs).toArray 9 (0,0))) (hg : g ≠ b) (hn : xs.length ≤ 100) (hlen : (l ++ xs.flatten).length ≤ 140737488355328) :
   Calls Tryd.prog 48 #[.pointer (some ⟨b,0,none⟩),.slice (some ⟨g,0,none⟩) xs.length xs.length] w fun e w'=>e = .returned (.tuple #[]) ∧ Pr w' b (l ++ xs.flatten) ∧ Fb b w w':=by
 have HP:=hid h
 have HX:=hid hx
 have HLN:=hid hlen
 obtain ⟨n,hnn⟩ : ∃ n,xs.length = n:=⟨_,rfl⟩
 have HNN:=hid hnn
 rw [hnn] at hn ⊢
 clear h hx hlen hnn
 go_enter Tryd.func48,Tryd.ntmps48
 go_wp2_with fail
 go_loopw [8] (fun i wr=>∃ j : Nat,j ≤ n ∧ i = .int .i64 (j : Int) ∧ Pr wr b (l ++ (xs.take j).flatten) ∧ Fb b w wr) (fun i _=>n - (intOf i).toNat)
 case atStart=>exact ⟨0,by omega,by first | rfl | simp,by simpa using HP.out,Fb.refl⟩
 case round=>
   obtain ⟨j,hj,rfl,hp,hf⟩:=hrel
   have HPr:=hid hp
   have HFr:=hid hf
   have HXr:=hid (hf.keep HX.out (by decide) hg)
   clear hp hf
   by_cases hlt : j < n
   · have hji : (j : Int) < (n : Int):=by omega
     have hwj : IntKind.i64.wrap ((j : Int) + 1) = (j : Int) + 1:=by rw [IntKind.wrap_i64];omega
     obtain ⟨x,hx⟩ : ∃ x,xs[j]? = some x:=⟨_,List.getElem?_eq_getElem (by rw [HNN.out];exact hlt)⟩
     have hc : wr.cell? ⟨g,j,none⟩ = some (.string (sb x)):=by rw [blk_cell HXr.out];simp [svs,hx]
     have HTK:=hid (show (xs.take (j + 1)).flatten = (xs.take j).flatten ++ x by rw [List.take_add_one,hx];simp)
     have HSP:=hid (show xs.flatten = (xs.take (j + 1)).flatten ++ (xs.drop (j + 1)).flatten by rw [← List.flatten_append,List.take_append_drop])
     have HWS:=hid (WriteString_any b (l ++ (xs.take j).flatten) x wr HPr.out (by
       have h1:=HLN.out
       rw [HSP.out,HTK.out] at h1
       simp only [List.length_append] at h1 ⊢
       omega))
     obtain ⟨S,hS⟩ : ∃ S,sb x = S:=⟨_,rfl⟩
     rw [hS] at hc HWS
     clear hS hx
     go_wp2_with fail
     refine HWS.out.mono ?_
     rintro e w2 ⟨rfl,hp2,hf2⟩
     have HP2:=hid hp2
     have HF2:=hid (HFr.out.trans hf2)
     clear hp2 hf2 HPr HFr HXr HWS hc
     go_wp2_with fail
     exact ⟨⟨j + 1,by omega,by first | rfl | (congr 1;omega),by rw [HTK.out,← List.append_assoc];exact HP2.out,HF2.out⟩,by simp [intOf];omega⟩
   · have hge : ¬ ((j : Int) < (n : Int)):=by omega
     have HE:=hid (show xs.take j = xs from List.take_of_length_le (by rw [HNN.out];omega))
     go_wp2_with fail
     go_end0
     exact ⟨rfl,by have:=HPr.out;rwa [HE.out] at this,HFr.out⟩
theorem write_lit (b : Nat) (l : Bs) (xs : List Bs) (w : World) (h : Pr w b l) (hlen : (l ++ xs.flatten).length ≤ 140737488355328) (hn : xs.length ≤ 100:=by simp) :
   Calls Tryd.prog 48 #[.pointer (some ⟨b,0,none⟩),.slice (some ⟨w.heap.size,0,none⟩) xs.length xs.length] (w.alloc (.cells (svs xs).toArray 9)) fun e w'=>e = .returned (.tuple #[]) ∧ Pr w' b (l ++ xs.flatten) ∧ Fb b w w':=by
 have hb:=(Below.refl w.heap.size w).alloc (Nat.le_refl _) (.cells (svs xs).toArray 9)
 refine (write_any b l xs w.heap.size _ (h.later hb) (heap_alloc_new w _) (by have:=h.lt;omega) hn hlen).mono ?_
 rintro e w' ⟨rfl,h1,h2⟩
 exact ⟨rfl,h1,(Fb.of hb).trans h2⟩
theorem repeat_tx (d : Nat) : Lib.repeatL [32,32] d = List.replicate (2 * d) 32:=by
 induction d with
 | zero=>rfl
 | succ d ih=>rw [Lib.repeatL,ih,show 2 * (d + 1) = 2 * d + 1 + 1 by omega,List.replicate_succ,List.replicate_succ];rfl
set_option maxHeartbeats 4000000 in
set_option maxRecDepth 100000 in
theorem indent_any (b : Nat) (l : Bs) (d : Nat) (w : World) (h : Pr w b l) (hd : d ≤ 1000) (hlen : (l ++ rend [ind d]).length ≤ 140737488355328) :
   Calls Tryd.prog 51 #[.pointer (some ⟨b,0,none⟩),.int .i64 (d : Int)] w fun e w'=>e = .returned (.tuple #[]) ∧ Pr w' b (l ++ rend [ind d]) ∧ Fb b w w':=by
 have HRP:=hid (show Calls Tryd.prog 69 #[.string ⟨#[32,32]⟩,.int .i64 d] w fun e w'=>e = .returned (.string (sb (rend [ind d]))) ∧ Below w.heap.size w w' by
   have:=Repeat_any ⟨#[32,32]⟩ d w (by omega) (by show 2 * d ≤ _;omega)
   rw [show (⟨#[32,32]⟩ : ByteArray).data.toList = [32,32] from rfl,repeat_tx] at this
   rw [show rend [ind d] = List.replicate (2 * d) 32 by simp [rend,ind]]
   exact this)
 have HP:=hid h
 generalize rend [ind d] = T at *
 have HLN:=hid hlen
 clear h hlen
 go_enter Tryd.func51,Tryd.ntmps51
 go_wp2_with fail
 refine HRP.out.mono ?_
 rintro e w1 ⟨rfl,hb1⟩
 have HB1:=hid hb1
 have HP1:=hid (HP.out.later hb1)
 clear hb1 HRP
 have HWL:=hid (write_lit b l [T] w1 HP1.out (by simpa using HLN.out))
 go_wp2_with fail
 refine HWL.out.mono ?_
 rintro e w2 ⟨rfl,hp2,hf2⟩
 have HP2:=hid hp2
 have HF2:=hid hf2
 clear hp2 hf2 HWL
 go_wp2_with fail
 go_end0
 exact ⟨rfl,by simpa using HP2.out,(Fb.of HB1.out).trans HF2.out⟩
end Go.Proofs.YtgmjpnnblhkbpaaDoor
namespace Go.Proofs.YtgmjpnnblhkbpaaDoor
open Go Go.RowKit Go.Sh Tx
open Go.Lib (hid)
def nmO (word x : Bs) : Bs:=if x = [] then [] else word ++ x
theorem RfV.at_ {l : List Bs} {css : List (List Value)} (h : RfV l css) {j : Nat} {cs : List Value} (hc : css[j]? = some cs) : ∃ x a,l[j]? = some x ∧ cs = [.string (sb x),.int .i64 a]:=by
 induction h generalizing j with
 | nil=>simp at hc
 | @cons t l css q hq _ ih=>
   cases j with
   | zero=>
     obtain rfl:=Option.some.inj hc
     exact ⟨t,q.a,rfl,by rw [Q2.cells,hq]⟩
   | succ j=>exact ih hc
theorem rend_rs (l : List Bs) (x : Bs) : rend (pcRs (l ++ [x])) = rend (pcRs l) ++ ([44,32] ++ x):=by
 induction l with
 | nil=>simp [pcRs,rend,sp,spell,tName,tMark,kComma]
 | cons y l ih=>
   rw [List.cons_append,pcRs,pcRs,rend,rend,sp,rend,rend,rend,rend,ih]
   simp only [List.append_assoc]
theorem rend_routes (l : List Bs) (x : Bs) : rend (pcRoutes (l ++ [x])) = rend (pcRoutes l) ++ ((if l = [] then [] else [44,32]) ++ x):=by
 cases l with
 | nil=>simp [pcRoutes,pcRs,rend,spell,tName]
 | cons y l=>
   rw [List.cons_append,pcRoutes,pcRoutes,rend,rend,rend_rs,if_neg (by simp)]
   simp only [List.append_assoc]
theorem rend_rs_len : ∀ (l : List Bs) (j : Nat),(rend (pcRs (l.take j))).length ≤ (rend (pcRs l)).length
 | [],j=>by simp [pcRs,rend]
 | x :: l,0=>by simp [pcRs,rend]
 | x :: l,j + 1=>by
   have:=rend_rs_len l j
   rw [List.take_succ_cons,pcRs,pcRs]
   simp only [rend,sp,List.length_append]
   omega
theorem rend_routes_len (l : List Bs) (j : Nat) : (rend (pcRoutes (l.take j))).length ≤ (rend (pcRoutes l)).length:=by
 cases l with
 | nil=>simp [pcRoutes,rend]
 | cons x l=>
   cases j with
   | zero=>simp [pcRoutes,rend]
   | succ j=>
     have:=rend_rs_len l j
     rw [List.take_succ_cons,pcRoutes,pcRoutes]
     simp only [rend,List.length_append]
     omega
theorem rend_rs_num : ∀ l : List Bs,l.length ≤ (rend (pcRs l)).length
 | []=>Nat.le_refl _
 | x :: l=>by
   have:=rend_rs_num l
   rw [pcRs]
   simp only [rend,sp,List.length_append,List.length_cons,List.length_nil]
   omega
theorem rend_routes_num (l : List Bs) : l.length ≤ (rend (pcRoutes l)).length + 1:=by
 cases l with
 | nil=>exact Nat.zero_le _
 | cons x l=>
   have:=rend_rs_num l
   rw [pcRoutes]
   simp only [rend,List.length_append,List.length_cons]
   omega
theorem decDigits_eq (n : Nat) : Lib.decDigits n = decN n:=by
 induction n using Nat.strongRecOn with
 | ind n ih=>
   rw [Lib.decDigits,decN]
   by_cases h : n < 10
   · simp [h,dg]
   · simp [h,dg,ih (n / 10) (by omega)]
theorem itoa_nat (n : Int) (h : 0 ≤ n) : Lib.itoa n = decN n.toNat:=by rw [Lib.itoa,if_neg (by omega),decDigits_eq]
def TabX (B : Nat) (w : World) : Prop:=Lib.TabBelow Tryd.prog B w "internal/strconv.uint64pow10" .u64 Lib.pow10Tab
theorem TabX.on {B B' : Nat} {w w' : World} (h : TabX B w) (hb : Below B' w w') (hB : B ≤ B') : TabX B w':=Lib.TabBelow.on h (hb.mono hB)
theorem TabX.fb {b : Nat} {w w' : World} (h : TabX b w) (hb : Fb b w w') (hB : b ≤ w.heap.size) : TabX b w':=h.on (hb.low hB) (Nat.le_refl _)
theorem ItoaX_any (n : Int) (h0 : 0 ≤ n) (h1 : n ≤ 999999999) (w : World) {B : Nat} (ht : TabX B w) :
   Calls Tryd.prog 65 #[.int .i64 n] w fun e w'=>e = .returned (.string (sb (decN n.toNat))) ∧ Below w.heap.size w w':=by
 refine (Itoa_any n (by omega) (by omega) w ht.here).mono ?_
 rintro e w' ⟨rfl,k,os,rfl⟩
 exact ⟨by rw [itoa_nat n h0];rfl,Lib.below_grow _ w (Nat.le_refl _) k os⟩
section
set_option maxHeartbeats 4000000
set_option maxRecDepth 100000
set_option maxRecDepth 100000 in
theorem named_any (b : Nat) (l word x : Bs) (a : Int) (w : World) (h : Pr w b l) (hlen : (l ++ nmO word x).length ≤ 140737488355328) :
   Calls Tryd.prog 84 #[.pointer (some ⟨b,0,none⟩),.string (sb word),.agg #[.string (sb x),.int .i64 a]] w fun e w'=>e = .returned (.tuple #[]) ∧ Pr w' b (l ++ nmO word x) ∧ Fb b w w':=by
 have hbl:=h.lt
 cases x with
 | nil=>
   have HP:=hid h
   clear h hlen
   have hba:=(Below.refl w.heap.size w).alloc (Nat.le_refl _) (.cells #[.string ⟨#[]⟩,.int .i64 a] 52)
   have HB:=hid hba
   clear hba
   rw [show sb [] = ⟨#[]⟩ from rfl]
   generalize sb word = S at *
   go_enter Tryd.func84,Tryd.ntmps84
   go_wp2_with fail
   go_end0
   exact ⟨rfl,by rw [nmO,if_pos rfl,List.append_nil];exact HP.out.later HB.out,Fb.of HB.out⟩
 | cons c r=>
   have hne : ((sb (c :: r)).toList == []) = false:=by rw [toList_sb];rfl
   have HO:=hid (show nmO word (c :: r) = word ++ (c :: r) by rw [nmO,if_neg (by simp)])
   rw [HO.out] at hlen ⊢
   have HN:=hid hlen
   generalize c :: r = x at *
   have hba:=(Below.refl w.heap.size w).alloc (Nat.le_refl _) (.cells #[.string (sb x),.int .i64 a] 52)
   have HP1:=hid (h.later hba)
   have HF1:=hid (show Fb b w _ from Fb.of hba)
   have y0 : (w.alloc (.cells #[.string (sb x),.int .i64 a] 52)).cell? ⟨w.heap.size,0,none⟩ = some (.string (sb x)):=blk_cell (heap_alloc_new w _)
   have HWL:=hid (fun W (hw : Pr W b l)=>write_lit b l [word,x] W hw (by simpa using HN.out))
   obtain ⟨S,hS⟩ : ∃ S,sb word = S:=⟨_,rfl⟩
   obtain ⟨V,hV⟩ : ∃ V,sb x = V:=⟨_,rfl⟩
   have HWV:=hid (fun W (hw : Pr W b l)=>show Calls Tryd.prog 48 #[.pointer (some ⟨b,0,none⟩),.slice (some ⟨W.heap.size,0,none⟩) 2 2] (W.alloc (.cells #[.string S,.string V] 9)) (fun e w'=>e = .returned (.tuple #[]) ∧ Pr w' b (l ++ [word,x].flatten) ∧ Fb b W w') by rw [← hS,← hV];exact HWL.out W hw)
   rw [hV] at hne HP1 HF1 y0
   rw [hS,hV]
   clear h hlen hba HWL hS hV HN
   go_enter Tryd.func84,Tryd.ntmps84
   go_upto_region 1 with fail
   generalize w.alloc (.cells #[.string V,.int .i64 a] 52) = w1 at *
   go_wp2_with fail
   refine (HWV.out w1 HP1.out).mono ?_
   rintro e w2 ⟨rfl,hp2,hf2⟩
   have HP2:=hid hp2
   have HF2:=hid (HF1.out.trans hf2)
   clear hp2 hf2 HP1 HF1 HWV y0
   go_wp2_with fail
   go_end0
   exact ⟨rfl,by simpa using HP2.out,HF2.out⟩
set_option maxRecDepth 100000 in
theorem routes_any (b : Nat) (l : Bs) (names : List Bs) (A0 : Option Addr) (N c0 : Nat) (rs : List (List Value)) (X : Nat → Prop) (w : World) (h : Pr w b l) (hR : RfV names rs) (hr : RP X w 2 A0 N rs) (hX : ∀ g,X g → g < b) (hlen : (l ++ rend (pcRoutes names)).length ≤ 140737488355328) :
   Calls Tryd.prog 85 #[.pointer (some ⟨b,0,none⟩),.slice A0 N c0] w fun e w'=>e = .returned (.tuple #[]) ∧ Pr w' b (l ++ rend (pcRoutes names)) ∧ Fb b w w':=by
 have hbl:=h.lt
 have hln : names.length = N:=by rw [← hR.len];exact hr.1
 have hNb : N ≤ 140737488355329:=by have h1:=rend_routes_num names;rw [List.length_append] at hlen;omega
 have HLN:=hid hln
 have HR:=hid hR
 have HRR:=hid (hr.rr (B:=b) hX)
 have HP:=hid h
 have HN:=hid hlen
 have HE0:=hid (show Pr w b (l ++ rend (pcRoutes (names.take 0))) by simpa [pcRoutes,rend] using h)
 clear h hln hR hr hlen hX
 go_enter Tryd.func85,Tryd.ntmps85
 go_wp2_with fail
 go_loopw [8] (fun i wr=>∃ j : Nat,j ≤ N ∧ i = .int .i64 (j : Int) ∧ Pr wr b (l ++ rend (pcRoutes (names.take j))) ∧ Fb b w wr) (fun i _=>N - (intOf i).toNat)
 case atStart=>exact ⟨0,by omega,by first | rfl | simp,HE0.out,Fb.refl⟩
 case round=>
   obtain ⟨j,hj,rfl,hp,hf⟩:=hrel
   have HPr:=hid hp
   have HFr:=hid hf
   have hblr : b < wr.heap.size:=Nat.lt_of_lt_of_le hbl hf.size
   have HRr:=hid (HRR.out.below (hf.low (Nat.le_of_lt hbl)))
   clear hp hf HE0 HP
   by_cases hlt : j < N
   · have hji : (j : Int) < (N : Int):=by omega
     have hwj : IntKind.i64.wrap ((j : Int) + 1) = (j : Int) + 1:=by rw [IntKind.wrap_i64];omega
     obtain ⟨ab,off,cs,hA,hbB,hcs,hcl,hrg⟩:=HRr.out.at_ hlt
     obtain ⟨x,a,hx,rfl⟩:=HR.out.at_ hcs
     subst hA
     have s0 : wr.cell? ⟨ab,off + j * 2,none⟩ = some (.string (sb x)):=hrg 0 _ rfl
     have s1 : wr.cell? ⟨ab,off + j * 2 + 1,none⟩ = some (.int .i64 a):=hrg 1 _ rfl
     have HTK:=hid (show rend (pcRoutes (names.take (j + 1))) = rend (pcRoutes (names.take j)) ++ ((if names.take j = [] then [] else [44,32]) ++ x) by rw [List.take_add_one,hx];exact rend_routes _ x)
     have HLE:=hid (rend_routes_len names (j + 1))
     have hjn : (names.take j = []) ↔ j = 0:=by
       have:=HLN.out
       rw [List.take_eq_nil_iff]
       constructor
       · rintro (h | h)
         · exact h
         · subst h;simp at this;omega
       · exact .inl
     have hba:=(Below.refl wr.heap.size wr).alloc (Nat.le_refl _) (.cells #[.string (sb x),.int .i64 a] 52)
     have HP1:=hid (HPr.out.later hba)
     have HF1:=hid (HFr.out.trans (Fb.of hba))
     have HBY1:=hid (heap_alloc_new wr (.cells #[.string (sb x),.int .i64 a] 52))
     have hyb : b < wr.heap.size:=hblr
     clear hcl hrg hcs hx
     have HWL:=hid (fun (m : Bs) (x : Bs) W (hw : Pr W b m) (hl : m.length + x.length ≤ 140737488355328)=>write_lit b m [x] W hw (by simpa using hl))
     go_upto_region 3 with fail
     obtain ⟨y,hy⟩ : ∃ y,wr.heap.size = y:=⟨_,rfl⟩
     rw [hy] at HBY1 hyb ⊢
     clear hy s0 s1 hba HPr HFr HRr
     generalize wr.alloc (.cells #[.string (sb x),.int .i64 a] 52) = w1 at *
     rcases Nat.eq_zero_or_pos j with h0 | h0
     · have ng : ¬ ((0 : Int) < (j : Int)):=by omega
       have HTE:=hid (show rend (pcRoutes (names.take (j + 1))) = rend (pcRoutes (names.take j)) ++ x by rw [HTK.out,if_pos (hjn.2 h0),List.nil_append])
       have y0 : w1.cell? ⟨y,0,none⟩ = some (.string (sb x)):=blk_cell HBY1.out
       have HW1:=hid (HWL.out (l ++ rend (pcRoutes (names.take j))) x w1 HP1.out (by have h1:=HN.out;have h2:=HLE.out;rw [HTE.out] at h2;simp only [List.length_append] at h1 h2 ⊢;omega))
       obtain ⟨V,hV⟩ : ∃ V,sb x = V:=⟨_,rfl⟩
       have HWV:=hid (show Calls Tryd.prog 48 #[.pointer (some ⟨b,0,none⟩),.slice (some ⟨w1.heap.size,0,none⟩) 1 1] (w1.alloc (.cells #[.string V] 9)) (fun e w'=>e = .returned (.tuple #[]) ∧ Pr w' b (l ++ rend (pcRoutes (names.take j)) ++ [x].flatten) ∧ Fb b w1 w') by rw [← hV];exact HW1.out)
       rw [hV] at y0
       clear HW1 hV HWL h0 hjn
       go_wp2_with fail
       refine HWV.out.mono ?_
       rintro e w2 ⟨rfl,hp2,hf2⟩
       have HP2:=hid hp2
       have HF2:=hid (HF1.out.trans hf2)
       clear hp2 hf2 HWV HP1 HF1 y0
       go_wp2_with fail
       exact ⟨⟨j + 1,by omega,by first | rfl | (congr 1;omega),by rw [HTE.out,← List.append_assoc];simpa using HP2.out,HF2.out⟩,by simp [intOf];omega⟩
     · have ng : (0 : Int) < (j : Int):=by omega
       have HTE:=hid (show rend (pcRoutes (names.take (j + 1))) = rend (pcRoutes (names.take j)) ++ ([44,32] ++ x) by rw [HTK.out,if_neg (fun h=>by have:=hjn.1 h;omega)])
       have hl1 : (l ++ rend (pcRoutes (names.take j))).length + ([44,32] : Bs).length + x.length ≤ 140737488355328:=by have h1:=HN.out;have h2:=HLE.out;rw [HTE.out] at h2;simp only [List.length_append] at h1 h2 ⊢;omega
       have HL1:=hid hl1
       have HW1:=hid (show Calls Tryd.prog 48 #[.pointer (some ⟨b,0,none⟩),.slice (some ⟨w1.heap.size,0,none⟩) 1 1] (w1.alloc (.cells #[.string ⟨#[44,32]⟩] 9)) (fun e w'=>e = .returned (.tuple #[]) ∧ Pr w' b (l ++ rend (pcRoutes (names.take j)) ++ [[44,32]].flatten) ∧ Fb b w1 w') from HWL.out (l ++ rend (pcRoutes (names.take j))) [44,32] w1 HP1.out (by omega))
       clear h0 hjn hl1
       go_wp2_with fail
       refine HW1.out.mono ?_
       rintro e w2 ⟨rfl,hp2,hf2⟩
       have HP2:=hid hp2
       have HF2:=hid (HF1.out.trans hf2)
       have HBY2:=hid (hf2.keep HBY1.out (by decide) (by omega))
       clear hp2 hf2 HW1 HP1 HF1 HBY1
       have y0 : w2.cell? ⟨y,0,none⟩ = some (.string (sb x)):=blk_cell HBY2.out
       have HW1:=hid (HWL.out (l ++ rend (pcRoutes (names.take j)) ++ [[44,32]].flatten) x w2 HP2.out (by have h1:=HL1.out;simp only [List.length_append,List.flatten_cons,List.flatten_nil,List.length_cons,List.length_nil] at h1 ⊢;omega))
       obtain ⟨V,hV⟩ : ∃ V,sb x = V:=⟨_,rfl⟩
       have HWV:=hid (show Calls Tryd.prog 48 #[.pointer (some ⟨b,0,none⟩),.slice (some ⟨w2.heap.size,0,none⟩) 1 1] (w2.alloc (.cells #[.string V] 9)) (fun e w'=>e = .returned (.tuple #[]) ∧ Pr w' b (l ++ rend (pcRoutes (names.take j)) ++ [[44,32]].flatten ++ [x].flatten) ∧ Fb b w2 w') by rw [← hV];exact HW1.out)
       rw [hV] at y0
       clear HW1 hV HWL
       go_wp2_with fail
       refine HWV.out.mono ?_
       rintro e w3 ⟨rfl,hp3,hf3⟩
       have HP3:=hid hp3
       have HF3:=hid (HF2.out.trans hf3)
       clear hp3 hf3 HWV HP2 HF2 y0
       go_wp2_with fail
       exact ⟨⟨j + 1,by omega,by first | rfl | (congr 1;omega),by rw [HTE.out,← List.append_assoc,← List.append_assoc];simpa using HP3.out,HF3.out⟩,by simp [intOf];omega⟩
   · have hge : ¬ ((j : Int) < (N : Int)):=by omega
     have HE:=hid (show names.take j = names from List.take_of_length_le (by rw [HLN.out];omega))
     go_wp2_with fail
     go_end0
     exact ⟨rfl,by have:=HPr.out;rwa [HE.out] at this,HFr.out⟩
set_option maxRecDepth 100000 in
theorem pvia_any (b : Nat) (l : Bs) (names : List Bs) (A0 : Option Addr) (N c0 : Nat) (rs : List (List Value)) (X : Nat → Prop) (w : World) (h : Pr w b l) (hR : RfV names rs) (hr : RP X w 2 A0 N rs) (hX : ∀ g,X g → g < b) (hlen : (l ++ rend (pcVia names)).length ≤ 140737488355328) :
   Calls Tryd.prog 83 #[.pointer (some ⟨b,0,none⟩),.slice A0 N c0] w fun e w'=>e = .returned (.tuple #[]) ∧ Pr w' b (l ++ rend (pcVia names)) ∧ Fb b w w':=by
 have hbl:=h.lt
 have HE:=hid (show rend (pcVia names) = [32,118,105,97,32] ++ rend (pcRoutes names) from rfl)
 have hl2:=hlen
 rw [HE.out,← List.append_assoc] at hl2
 have HW1:=hid (show Calls Tryd.prog 48 #[.pointer (some ⟨b,0,none⟩),.slice (some ⟨w.heap.size,0,none⟩) 1 1] (w.alloc (.cells #[.string ⟨#[32,118,105,97,32]⟩] 9)) (fun e w'=>e = .returned (.tuple #[]) ∧ Pr w' b (l ++ [[32,118,105,97,32]].flatten) ∧ Fb b w w') from write_lit b l [[32,118,105,97,32]] w h (by simp only [List.length_append,List.flatten_cons,List.flatten_nil,List.length_cons,List.length_nil] at hl2 ⊢;omega))
 have HRT:=hid (fun W (hw : Pr W b (l ++ [32,118,105,97,32])) (hk : RP X W 2 A0 N rs)=>routes_any b (l ++ [32,118,105,97,32]) names A0 N c0 rs X W hw hR hk hX hl2)
 have HRP:=hid hr
 have HX:=hid hX
 clear h hR hr hX hlen hl2
 go_enter Tryd.func83,Tryd.ntmps83
 go_wp2_with fail
 refine HW1.out.mono ?_
 rintro e w2 ⟨rfl,hp2,hf2⟩
 have HP2:=hid (show Pr w2 b (l ++ [32,118,105,97,32]) by simpa using hp2)
 have HF2:=hid hf2
 have HR2:=hid (HRP.out.keep fun g hg=>(hf2.low (Nat.le_of_lt hbl)).block g (HX.out g hg))
 clear hp2 hf2 HW1
 go_wp2_with fail
 refine (HRT.out w2 HP2.out HR2.out).mono ?_
 rintro e w3 ⟨rfl,hp3,hf3⟩
 have HP3:=hid hp3
 have HF3:=hid (HF2.out.trans hf3)
 clear hp3 hf3 HRT
 go_wp2_with fail
 go_end0
 exact ⟨rfl,by rw [HE.out,← List.append_assoc];exact HP3.out,HF3.out⟩
end
end Go.Proofs.YtgmjpnnblhkbpaaDoor
