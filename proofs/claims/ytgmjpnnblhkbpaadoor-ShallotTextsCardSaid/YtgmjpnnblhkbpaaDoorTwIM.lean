/-
  Contract of lex.Scan. No conditions.
-/
import Derived.Test.YtgmjpnnblhkbpaaDoorTwEM
namespace Go.Proofs.YtgmjpnnblhkbpaaDoor
open Go Go.RowKit Go.Sh Tx
open Go.Lib (hid)
theorem slice_from (l : Bs) (a : Nat) (h : a ≤ l.length) (W : World) : (Instr.slice 9 (.string (sb l)) (some (.int .i64 (a : Int))) none none).run Tryd.prog W = .ok (.string (sb (l.drop a))) W:=by
 have h0 : (sb l).size = l.length:=sb_size l
 have h1 : (sb l).extract a l.length = sb (l.drop a):=by
   apply ByteArray.ext
   rw [ByteArray.data_extract]
   apply Array.ext'
   simp [sb,List.extract_eq_take_drop]
   exact List.take_of_length_le (by rw [List.length_drop];omega)
 rw [← h1]
 simp [Instr.slice,Instr.sliceBounds,Instr.sliceBound,run_underlying Tryd.underlying9,asIntOf,h0,h]
theorem ib_idx (c : UInt8) : ∀ l : Bs,Lib.indexByte l c = match l.idxOf? c with | some i=>(i : Int) | none=>-1
 | []=>rfl
 | b :: l=>by
   have ih:=ib_idx c l
   rw [Lib.indexByte,List.idxOf?_cons]
   by_cases hb : b = c
   · subst hb;simp
   · have h1 : (b == c) = false:=by rw [beq_eq_false_iff_ne];exact hb
     rw [h1,ih]
     cases l.idxOf? c with
     | none=>simp
     | some i=>simp
theorem hex_ib {c : UInt8} {x : Nat} (h : hexV c = some x) : Lib.indexByte hexC c = (x : Int):=by
 rw [ib_idx]
 unfold hexV at h
 rw [h]
theorem hex_no {c : UInt8} (h : hexV c = none) : Lib.indexByte hexC c = -1:=by
 rw [ib_idx]
 unfold hexV at h
 rw [h]
theorem hexV_lt {c : UInt8} {x : Nat} (h : hexV c = some x) : x < 16:=by
 unfold hexV at h
 have:=List.idxOf?_eq_some_iff.1 h
 obtain ⟨h1,_⟩:=this
 exact h1
def EscPost (l : Bs) (k : Nat) (w : World) (r : Option (UInt8 × Bs)) (e : Ending) (w' : World) : Prop:=
 (∃ m,w' = w.drewN m) ∧ match r with
 | none=>e = .returned (.tuple #[.int .u8 0,.int .i64 0])
 | some (d,u)=>∃ z : Nat,0 < z ∧ k + z ≤ l.length ∧ l.drop (k + z) = u ∧ e = .returned (.tuple #[.int .u8 (d.toNat : Int),.int .i64 (z : Int)])
set_option maxHeartbeats 4000000 in
set_option maxRecDepth 100000 in
theorem escape_any (q : Nat) (l : Bs) (k : Nat) (w : World) (h : w.cell? ⟨q,0,none⟩ = some (.string (sb l))) (hk : k < l.length) (hl : l.length ≤ 8000) :
   Calls Tryd.prog 62 #[.pointer (some ⟨q,0,none⟩),.int .i64 (k : Int)] w (EscPost l k w (escT (l.drop (k + 1)))):=by
 have hsl:=slice_from l (k + 1) (by omega)
 have hsl2 : ∀ W,(Instr.slice 9 (.string (sb l)) (some (.int .i64 ((k : Int) + 1))) none none).run Tryd.prog W = .ok (.string (sb (l.drop (k + 1)))) W:=hsl
 clear hsl
 have hw : IntKind.i64.wrap ((k : Int) + 1) = (k : Int) + 1:=by rw [IntKind.wrap_i64];omega
 have HIB:=hid (fun (c : UInt8) W=>IndexByte_any ⟨#[48,49,50,51,52,53,54,55,56,57,97,98,99,100,101,102]⟩ c W)
 have hD : ∀ j,l.drop (k + (j + 1)) = (l.drop (k + 1)).drop j:=fun j=>by rw [List.drop_drop];congr 1;omega
 have hlen : (l.drop (k + 1)).length = l.length - (k + 1):=List.length_drop ..
 have HDR:=hid hD
 have HLE:=hid hlen
 have HTL:=hid (toList_sb (l.drop (k + 1)))
 have HIX:=hid (index_sb (l.drop (k + 1)))
 have hxs : (sb (l.drop (k + 1))).size = (l.drop (k + 1)).length:=sb_size _
 obtain ⟨r,hr⟩ : ∃ r,l.drop (k + 1) = r:=⟨_,rfl⟩
 rw [hr] at hsl2 HDR HLE HTL HIX hxs ⊢
 obtain ⟨X,hX⟩ : ∃ X,sb r = X:=⟨_,rfl⟩
 rw [hX] at hsl2 HTL HIX hxs
 clear hX hr hD hlen
 cases r with
 | nil=>
   have t0 : (X.toList == []) = true:=by rw [HTL.out];rfl
   go_enter Tryd.func62,Tryd.ntmps62
   go_wp2_with fail
   go_ret2
   exact ⟨⟨0,rfl⟩,rfl⟩
 | cons d r=>
   have t0 : (X.toList == []) = false:=by rw [HTL.out];rfl
   have i0 : ∀ W,(Instr.index 9 (.string X) (.int .i64 0)).run Tryd.prog W = .ok (.int .u8 (d.toNat : Int)) W:=fun W=>HIX.out 0 (by simp) W
   have HL1:=hid (show k + 1 + 1 + r.length = l.length by have:=HLE.out;simp at this;omega)
   by_cases h34 : d = 34 ∨ d = 92
   · have HE:=hid (show escT (d :: r) = some (d,r) by rw [escT,if_pos h34])
     rw [HE.out]
     rcases h34 with rfl | rfl
     · go_enter Tryd.func62,Tryd.ntmps62
       go_wp2_with fail
       go_ret2
       exact ⟨⟨0,rfl⟩,2,by omega,by have:=HL1.out;omega,HDR.out 1,rfl⟩
     · go_enter Tryd.func62,Tryd.ntmps62
       go_wp2_with fail
       go_ret2
       exact ⟨⟨0,rfl⟩,2,by omega,by have:=HL1.out;omega,HDR.out 1,rfl⟩
   · have n1 : ((d.toNat : Int) == 34) = false:=by rw [beq_eq_false_iff_ne];intro e;exact h34 (.inl (by apply UInt8.toNat_inj.1;show d.toNat = 34;omega))
     have n2 : ((d.toNat : Int) == 92) = false:=by rw [beq_eq_false_iff_ne];intro e;exact h34 (.inr (by apply UInt8.toNat_inj.1;show d.toNat = 92;omega))
     by_cases h110 : d = 110
     · subst h110
       have HE:=hid (show escT (110 :: r) = some (10,r) by rw [escT,if_neg h34,if_pos rfl])
       rw [HE.out]
       clear h34
       go_enter Tryd.func62,Tryd.ntmps62
       go_wp2_with fail
       go_ret2
       exact ⟨⟨0,rfl⟩,2,by omega,by have:=HL1.out;omega,HDR.out 1,rfl⟩
     · have n3 : ((d.toNat : Int) == 110) = false:=by rw [beq_eq_false_iff_ne];intro e;exact h110 (by apply UInt8.toNat_inj.1;show d.toNat = 110;omega)
       by_cases h120 : d = 120
       · subst h120
         by_cases h3 : r.length < 2
         · have HE:=hid (show escT (120 :: r) = none by
             rw [escT,if_neg h34,if_neg h110,if_pos rfl]
             split
             · rw [if_neg (by omega)]
             · rfl)
           rw [HE.out]
           have hxs2 : X.size = r.length + 1:=by rw [hxs];rfl
           have i3 : (r.length : Int) + 1 < 3:=by omega
           clear h34 h110 hxs h3
           go_enter Tryd.func62,Tryd.ntmps62
           go_wp2_with fail
           go_ret2
           exact ⟨⟨0,rfl⟩,rfl⟩
         · obtain ⟨a,b,r3,rfl⟩ : ∃ a b r3,r = a :: b :: r3:=by
             match r,h3 with
             | [],h=>simp at h
             | [_],h=>simp at h
             | a :: b :: r3,_=>exact ⟨a,b,r3,rfl⟩
           have HL3:=hid (show k + 4 + r3.length = l.length by have:=HL1.out;simp at this;omega)
           have i1 : ∀ W,(Instr.index 9 (.string X) (.int .i64 1)).run Tryd.prog W = .ok (.int .u8 (a.toNat : Int)) W:=fun W=>HIX.out 1 (by simp) W
           have i2 : ∀ W,(Instr.index 9 (.string X) (.int .i64 2)).run Tryd.prog W = .ok (.int .u8 (b.toNat : Int)) W:=fun W=>HIX.out 2 (by simp) W
           have hxs2 : X.size = r3.length + 3:=by rw [hxs];rfl
           have i3 : ¬ (r3.length : Int) + 3 < 3:=by omega
           have HBI:=hid (show ∀ (c : UInt8) W,Calls Tryd.prog 40 #[.string ⟨#[48,49,50,51,52,53,54,55,56,57,97,98,99,100,101,102]⟩,.int .u8 (c.toNat : Int)] W fun e w'=>e = .returned (.int .i64 (Lib.indexByte hexC c)) ∧ w' = W from fun c W=>HIB.out c W)
           have HEX:=hid (show escT (120 :: a :: b :: r3) = match hexV a,hexV b with | some x,some y=>some (UInt8.ofNat (16 * x + y),r3) | _,_=>none by
             rw [escT,if_neg h34,if_neg h110,if_pos rfl]
             simp only [List.headD_cons,List.tail_cons]
             cases hexV a with
             | none=>rfl
             | some x=>
               cases hexV b with
               | none=>rfl
               | some y=>
                 show (if 2 ≤ (a :: b :: r3).length then _ else _) = _
                 rw [if_pos (by simp)])
           clear h34 h110 hxs h3
           rw [HEX.out]
           have HXA:=hid (fun x (h : hexV a = some x)=>hex_ib h)
           have HXB:=hid (fun x (h : hexV b = some x)=>hex_ib h)
           have HNA:=hid (fun (h : hexV a = none)=>hex_no h)
           have HNB:=hid (fun (h : hexV b = none)=>hex_no h)
           have HLA:=hid (fun x (h : hexV a = some x)=>hexV_lt h)
           have HLB:=hid (fun x (h : hexV b = some x)=>hexV_lt h)
           obtain ⟨ia,hia⟩ : ∃ ia,Lib.indexByte hexC a = ia:=⟨_,rfl⟩
           obtain ⟨ib,hib⟩ : ∃ ib,Lib.indexByte hexC b = ib:=⟨_,rfl⟩
           have HCA:=hid (show ∀ W,Calls Tryd.prog 40 #[.string ⟨#[48,49,50,51,52,53,54,55,56,57,97,98,99,100,101,102]⟩,.int .u8 (a.toNat : Int)] W fun e w'=>e = .returned (.int .i64 ia) ∧ w' = W from fun W=>by have:=HBI.out a W;rwa [hia] at this)
           have HCB:=hid (show ∀ W,Calls Tryd.prog 40 #[.string ⟨#[48,49,50,51,52,53,54,55,56,57,97,98,99,100,101,102]⟩,.int .u8 (b.toNat : Int)] W fun e w'=>e = .returned (.int .i64 ib) ∧ w' = W from fun W=>by have:=HBI.out b W;rwa [hib] at this)
           rw [hia] at HXA HNA
           rw [hib] at HXB HNB
           clear hia hib
           cases ha : hexV a with
           | none=>
             have ga : ¬ (0 : Int) ≤ ia:=by rw [HNA.out ha];decide
             clear ha
             go_enter Tryd.func62,Tryd.ntmps62
             go_wp2_with fail
             go_quiet (first | (go_at_call 40;exact (HCA.out _).mono fun e w'' h=>⟨h.1,_,h.2⟩) | (go_at_call 40;exact (HCB.out _).mono fun e w'' h=>⟨h.1,_,h.2⟩))
             go_wp2_with fail
             go_ret2
             exact ⟨⟨_,rfl⟩,rfl⟩
           | some x=>
             have ea:=HXA.out x ha
             have la:=HLA.out x ha
             have ga : (0 : Int) ≤ ia:=by omega
             cases hb : hexV b with
             | none=>
               have gb : ¬ (0 : Int) ≤ ib:=by rw [HNB.out hb];decide
               clear ha hb ea
               go_enter Tryd.func62,Tryd.ntmps62
               go_wp2_with fail
               go_quiet (first | (go_at_call 40;exact (HCA.out _).mono fun e w'' h=>⟨h.1,_,h.2⟩) | (go_at_call 40;exact (HCB.out _).mono fun e w'' h=>⟨h.1,_,h.2⟩))
               go_wp2_with fail
               go_ret2
               exact ⟨⟨_,rfl⟩,rfl⟩
             | some y=>
               have eb:=HXB.out y hb
               have lb:=HLB.out y hb
               have gb : (0 : Int) ≤ ib:=by omega
               have w1 : IntKind.i64.wrap (16 * ia) = 16 * ia:=by rw [IntKind.wrap_i64];omega
               have w2 : IntKind.i64.wrap (16 * ia + ib) = 16 * ia + ib:=by rw [IntKind.wrap_i64];omega
               have w3 : IntKind.u8.wrap (16 * ia + ib) = 16 * ia + ib:=by rw [IntKind.wrap_u8];omega
               have HV:=hid (show (((UInt8.ofNat (16 * x + y)).toNat : Nat) : Int) = 16 * ia + ib by rw [UInt8.toNat_ofNat'];omega)
               clear ha hb ea eb
               go_enter Tryd.func62,Tryd.ntmps62
               go_wp2_with fail
               go_quiet (first | (go_at_call 40;exact (HCA.out _).mono fun e w'' h=>⟨h.1,_,h.2⟩) | (go_at_call 40;exact (HCB.out _).mono fun e w'' h=>⟨h.1,_,h.2⟩))
               go_wp2_with fail
               go_ret2
               exact ⟨⟨_,rfl⟩,4,by omega,by have:=HL3.out;omega,HDR.out 3,by rw [HV.out];rfl⟩
       · have n4 : ((d.toNat : Int) == 120) = false:=by rw [beq_eq_false_iff_ne];intro e;exact h120 (by apply UInt8.toNat_inj.1;show d.toNat = 120;omega)
         have HE:=hid (show escT (d :: r) = none by rw [escT,if_neg h34,if_neg h110,if_neg h120])
         rw [HE.out]
         clear h34 h110 h120
         go_enter Tryd.func62,Tryd.ntmps62
         go_wp2_with fail
         go_ret2
         exact ⟨⟨0,rfl⟩,rfl⟩
end Go.Proofs.YtgmjpnnblhkbpaaDoor
namespace Go.Proofs.YtgmjpnnblhkbpaaDoor
open Go Go.RowKit Go.Sh Tx
open Go.Lib (hid)
set_option maxRecDepth 100000 in
theorem TB8 : STy Tryd.prog 75 5 (.int .u8 0) 1 1:=⟨Tryd.underlying75,by kernel_rfl,rfl,by decide⟩
theorem Sn.later {w w' : World} {q k : Nat} {l : Bs} {ts : List (Tk × Int)} (h : Sn w q l k ts) (hb : Below w.heap.size w w') : Sn w' q l k ts:=by
 have hlt:=h.lt
 obtain ⟨A,n,c,h,ho⟩:=h
 exact ⟨A,n,c,(hb.block q hlt).trans h,own_later ho hb⟩
set_option maxHeartbeats 8000000 in
set_option maxRecDepth 100000 in
theorem text_any (q : Nat) (l : Bs) (k : Nat) (ts : List (Tk × Int)) (w : World) (h : Sn w q l k ts) (hk : k < l.length) (hl : l.length ≤ 8000) (hn : ts.length ≤ 100000) :
   Calls Tryd.prog 45 #[.pointer (some ⟨q,0,none⟩)] w (TokPost q l k ts w (textT [] (l.drop (k + 1)))):=by
 have HSN:=hid h
 have c1 : w.cell? ⟨q,1,none⟩ = some (.int .i64 (k : Int)):=h.place
 have hls : (sb l).size = l.length:=sb_size l
 have HIX:=hid (index_sb l)
 have HES:=hid (fun j (W : World) (hc : W.cell? ⟨q,0,none⟩ = some (.string (sb l))) (hj : j < l.length)=>escape_any q l j W hc hj hl)
 obtain ⟨R,hR⟩ : ∃ R,textT [] (l.drop (k + 1)) = R:=⟨_,rfl⟩
 rw [hR]
 have HR:=hid hR
 obtain ⟨z,hz⟩ : ∃ z,w.heap.size = z:=⟨_,rfl⟩
 have HZ:=hid hz
 have hqz : q < z:=by rw [← hz];exact h.lt
 have HAD:=hid (fun (x : Bs) (k' : Nat) (W : World) (hs : Sn W q l k ts)=>add_any q l k ts 4 x 0 k' W hs (by omega))
 have hw : IntKind.i64.wrap ((k : Int) + 1) = (k : Int) + 1:=by rw [IntKind.wrap_i64];omega
 obtain ⟨S,hS⟩ : ∃ S,sb l = S:=⟨_,rfl⟩
 have HS:=hid hS
 rw [hS] at hls HIX HES
 clear h hR hz hS
 go_enter Tryd.func45,Tryd.ntmps45
 go_wp2_with fail
 clear c1
 go_loopw [3,4,5,6,7,32,41,60] (fun o i _ _ _ _ _ _ wr=>∃ (j : Nat) (acc : Bs) (A : Option Addr) (n c : Nat),k < j ∧ j ≤ l.length ∧ i = .int .i64 (j : Int) ∧ o = .slice A n c ∧ n ≤ j ∧ wr.ownsRow z 5 1 (.slice A n c) n (bv acc) ∧ textT acc (l.drop j) = R ∧ Below z w wr) (fun _ i _ _ _ _ _ _ _=>l.length - (intOf i).toNat)
 case atStart=>exact ⟨k + 1,[],none,0,0,by omega,by omega,by first | rfl | simp,rfl,by omega,World.ownsRow_nil _ _ _ _,HR.out,Below.refl _ _⟩
 case round=>
   obtain ⟨j,acc,A,n,c,hkj,hj,rfl,rfl,hnj,how,hr,hb⟩:=hrel
   have HOW:=hid how
   have HRJ:=hid hr
   have HBW:=hid hb
   have hzw:=hb.size
   have HSJ:=hid (HSN.out.later (show Below w.heap.size w wr by rw [HZ.out];exact hb))
   have c0 : wr.cell? ⟨q,0,none⟩ = some (.string S):=by rw [← HS.out];exact HSJ.out.src
   clear how hr hb
   by_cases hlt : j < l.length
   · have hix:=HIX.out j hlt
     have hji : (j : Int) < (l.length : Int):=by omega
     have HDC:=hid (drop_cons hlt)
     have HES2:=hid (HES.out j wr c0 hlt)
     obtain ⟨d,hd⟩ : ∃ d,bk l j = d:=⟨_,rfl⟩
     rw [hd] at hix HDC
     have HRD:=hid (show textT acc (d :: l.drop (j + 1)) = R by rw [← HDC.out];exact HRJ.out)
     have HPO:=hid (show (l.length - (d :: l.drop (j + 1)).length : Nat) = j by rw [← HDC.out,List.length_drop];omega)
     have hwj : IntKind.i64.wrap ((j : Int) + 1) = (j : Int) + 1:=by rw [IntKind.wrap_i64];omega
     clear hd HRJ HDC
     by_cases h34 : d = 34
     · subst h34
       have HRE:=hid (show R = .ok ⟨4,acc,0⟩ (l.drop (j + 1)) by rw [← HRD.out,textT_end])
       rw [HRE.out]
       have HA2:=hid (HAD.out acc (j + 1) wr HSJ.out)
       have HRB:=hid (RB.of_own HOW.out)
       obtain ⟨X,hX⟩ : ∃ X,sb acc = X:=⟨_,rfl⟩
       have HXX:=hid (show (⟨acc.toArray⟩ : ByteArray) = X from hX)
       rw [hX] at HA2
       clear hX
       go_wp2_with (first | (refine wl_str Tryd.underlying75 Tryd.underlying5 Tryd.underlying9 rfl (.tmp 36) rfl A n c rfl _ acc HRB.out ?_;rw [HXX.out];go_simp) | (go_at_call 20;refine HA2.out.mono ?_;rintro e w2 ⟨rfl,hs2,hb2⟩))
       go_ret
       exact ⟨rfl,j + 1,by omega,by omega,rfl,hs2,(HBW.out.mono (by omega)).trans hb2⟩
     · have n34 : ((d.toNat : Int) == 34) = false:=by rw [beq_eq_false_iff_ne];intro e;apply h34;apply UInt8.toNat_inj.1;show d.toNat = 34;omega
       by_cases h92 : d = 92
       · subst h92
         cases he : escT (l.drop (j + 1)) with
         | none=>
           have HRE:=hid (show R = .bad (92 :: l.drop (j + 1)) by rw [← HRD.out,textT_bad he])
           rw [HRE.out]
           rw [he] at HES2
           clear he h34
           go_wp2_with (go_at_call 62;refine HES2.out.mono ?_;rintro e w2 ⟨⟨m,rfl⟩,rfl⟩)
           go_ret
           exact ⟨by rw [HPO.out];rfl,(HBW.out.mono (by omega)).trans (bl_q m)⟩
         | some y=>
           obtain ⟨b,u⟩:=y
           have HRE:=hid (show textT (acc ++ [b]) u = R by rw [← HRD.out,textT_esc he])
           rw [he] at HES2
           clear he h34
           go_wp2_with fail
           refine HES2.out.mono ?_
           rintro e w2 ⟨⟨m,rfl⟩,x,hx0,hxl,hxu,rfl⟩
           have hxz : ((x : Int) == 0) = false:=by rw [beq_eq_false_iff_ne];omega
           have hwx : IntKind.i64.wrap ((j : Int) + (x : Int)) = (j : Int) + (x : Int):=by rw [IntKind.wrap_i64];omega
           have HOW2:=hid (show (wr.drewN m).ownsRow z 5 1 (.slice A n c) n (bv acc) from HOW.out)
           have HBW2:=hid (show Below z w (wr.drewN m) from HBW.out.trans (bl_q m))
           have HXU:=hid hxu
           clear HOW HBW HES2 HSJ c0 hix hxu
           generalize wr.drewN m = wm at *
           have HOW:=HOW2
           have HBW:=HBW2
           clear HOW2 HBW2
           obtain ⟨zr,hzr⟩ : ∃ zr,wm.heap.size = zr:=⟨_,rfl⟩
           have hrd:=Reads.lit wm 5 [.int .u8 (b.toNat : Int)] 1 1 rfl zr hzr
           have hol:=own_later HOW.out (show Below wm.heap.size wm (wm.alloc (.cells #[.int .u8 (b.toNat : Int)] 5)) from (Below.refl _ _).alloc (Nat.le_refl _) _)
           have hbl:=HBW.out.alloc (show z ≤ wm.heap.size from by have:=HBW.out.size;have h2:=HZ.out;omega) (.cells #[.int .u8 (b.toNat : Int)] 5)
           have hsz : z ≤ (wm.alloc (.cells #[.int .u8 (b.toNat : Int)] 5)).heap.size:=by have:=HBW.out.size;have h2:=HZ.out;simp;omega
           have HRD:=hid hrd
           have HOL:=hid hol
           have HBL:=hid hbl
           clear hrd hol hbl
           go_wp2_with ((at_builtin;refine wl_app TB8 rfl (.tmp 53) (.tmp 55) rfl (.slice A n c) rfl (some ⟨zr,0,none⟩) 1 1 rfl z n (bv acc) HOL.out (zr + 1) (bv [b]) HRD.out (bv_one _) (by omega) (by omega) hsz ?_))
           intro A7 c7 w3 hown hg3 _
           have HON:=hid (show w3.ownsRow z 5 1 (.slice A7 (n + 1) c7) (n + 1) (bv (acc ++ [b])) by rw [bv_append];exact hown)
           have HBN:=hid (show Below z w w3 from HBL.out.grown hg3 hsz (fun j hj=>(HOL.out.lt j hj).1))
           clear hown hg3
           go_wp2_with fail
           exact ⟨⟨j + x,acc ++ [b],A7,n + 1,c7,by omega,by omega,by first | rfl | (congr 1;omega),rfl,by omega,HON.out,by rw [HXU.out];exact HRE.out,HBN.out⟩,by simp [intOf];omega⟩
       · have n92 : ((d.toNat : Int) == 92) = false:=by rw [beq_eq_false_iff_ne];intro e;apply h92;apply UInt8.toNat_inj.1;show d.toNat = 92;omega
         by_cases hodd : d.toNat < 32 ∨ 126 < d.toNat
         · have HRE:=hid (show R = .bad (d :: l.drop (j + 1)) by rw [← HRD.out,textT_odd h34 h92 hodd])
           rw [HRE.out]
           obtain ⟨y,hy⟩ : ∃ y,d.toNat = y:=⟨_,rfl⟩
           rw [hy] at hix n34 n92 hodd
           clear h34 h92 hy
           by_cases h32 : y < 32
           · have i1 : (y : Int) < 32:=by omega
             clear hodd
             go_wp2_with fail
             go_ret
             exact ⟨by rw [HPO.out];rfl,HBW.out.mono (by omega)⟩
           · have i1 : ¬ (y : Int) < 32:=by omega
             have i2 : (126 : Int) < (y : Int):=by omega
             clear hodd
             go_wp2_with fail
             go_ret
             exact ⟨by rw [HPO.out];rfl,HBW.out.mono (by omega)⟩
         · have HRE:=hid (show textT (acc ++ [d]) (l.drop (j + 1)) = R by rw [← HRD.out,textT_one h34 h92 hodd])
           have i1 : ¬ (d.toNat : Int) < 32:=by omega
           have i2 : ¬ (126 : Int) < (d.toNat : Int):=by omega
           clear h34 h92 hodd
           obtain ⟨zr,hzr⟩ : ∃ zr,wr.heap.size = zr:=⟨_,rfl⟩
           have hrd:=Reads.lit wr 5 [.int .u8 (d.toNat : Int)] 1 1 rfl zr hzr
           have hol:=own_later HOW.out (show Below wr.heap.size wr (wr.alloc (.cells #[.int .u8 (d.toNat : Int)] 5)) from (Below.refl _ _).alloc (Nat.le_refl _) _)
           have hbl:=HBW.out.alloc (show z ≤ wr.heap.size from by have:=HBW.out.size;have h2:=HZ.out;omega) (.cells #[.int .u8 (d.toNat : Int)] 5)
           have hsz : z ≤ (wr.alloc (.cells #[.int .u8 (d.toNat : Int)] 5)).heap.size:=by have:=HBW.out.size;have h2:=HZ.out;simp;omega
           have HRD:=hid hrd
           have HOL:=hid hol
           have HBL:=hid hbl
           clear hrd hol hbl
           go_wp2_with ((at_builtin;refine wl_app TB8 rfl (.tmp 26) (.tmp 28) rfl (.slice A n c) rfl (some ⟨zr,0,none⟩) 1 1 rfl z n (bv acc) HOL.out (zr + 1) (bv [d]) HRD.out (bv_one _) (by omega) (by omega) hsz ?_))
           intro A7 c7 w3 hown hg3 _
           have HON:=hid (show w3.ownsRow z 5 1 (.slice A7 (n + 1) c7) (n + 1) (bv (acc ++ [d])) by rw [bv_append];exact hown)
           have HBN:=hid (show Below z w w3 from HBL.out.grown hg3 hsz (fun j hj=>(HOL.out.lt j hj).1))
           clear hown hg3
           go_wp2_with fail
           exact ⟨⟨j + 1,acc ++ [d],A7,n + 1,c7,by omega,by omega,by go_num,rfl,by omega,HON.out,HRE.out,HBN.out⟩,by simp [intOf];omega⟩
   · obtain rfl : j = l.length:=by omega
     have HRE:=hid (show R = .bad [] by rw [← HRJ.out,List.drop_eq_nil_of_le (Nat.le_refl _),textT_nil])
     go_wp2_with fail
     go_ret
     show TokPost q l k ts w R _ _
     rw [HRE.out]
     exact ⟨rfl,HBW.out.mono (by omega)⟩
end Go.Proofs.YtgmjpnnblhkbpaaDoor
namespace Go.Proofs.YtgmjpnnblhkbpaaDoor
open Go Go.RowKit Go.Sh Tx
open Go.Lib (hid)
theorem TokPost.drew {q k n : Nat} {l : Bs} {ts : List (Tk × Int)} {w w' : World} {r : TR} {e : Ending} (h : TokPost q l k ts (w.drewN n) r e w') : TokPost q l k ts w r e w':=by
 unfold TokPost at *
 cases r with
 | bad f=>exact ⟨h.1,(bl_q n).trans h.2⟩
 | ok t u=>
   obtain ⟨h1,k',h2,h3,h4,h5,h6⟩:=h
   exact ⟨h1,k',h2,h3,h4,h5,(bl_q n).trans h6⟩
theorem TokPost.ret {q k : Nat} {l : Bs} {ts : List (Tk × Int)} {w w' : World} {r : TR} {e : Ending} (h : TokPost q l k ts w r e w') : ∃ v : Int,e = .returned (.int .i64 v) ∧ TokPost q l k ts w r (.returned (.int .i64 v)) w':=by
 unfold TokPost at *
 cases r with
 | bad f=>obtain ⟨rfl,h⟩:=h;exact ⟨_,rfl,rfl,h⟩
 | ok t u=>obtain ⟨rfl,h⟩:=h;exact ⟨_,rfl,rfl,h⟩
set_option maxHeartbeats 8000000 in
set_option maxRecDepth 100000 in
theorem token_any (q : Nat) (l : Bs) (k : Nat) (ts : List (Tk × Int)) (w : World) (h : Sn w q l k ts) (hk : k < l.length) (hl : l.length ≤ 8000) (hn : ts.length ≤ 100000) :
   Calls Tryd.prog 19 #[.pointer (some ⟨q,0,none⟩)] w (TokPost q l k ts w (tokT (l.drop k))):=by
 have HSN:=hid h
 have c0 : w.cell? ⟨q,0,none⟩ = some (.string (sb l)):=h.src
 have c1 : w.cell? ⟨q,1,none⟩ = some (.int .i64 (k : Int)):=h.place
 have hls : (sb l).size = l.length:=sb_size l
 have hix:=index_sb l k hk
 have HT:=hid (show tokT (l.drop k) = if isL (bk l k) then nameT (l.drop k) else if isD (bk l k) then numberT (l.drop k) else if bk l k = 34 then textT [] (l.drop (k + 1)) else if marks.contains (bk l k) then .ok ⟨5,[bk l k],0⟩ (l.drop (k + 1)) else .bad (l.drop k) by rw [tokT,bk_drop,List.tail_drop])
 rw [HT.out]
 have HLT:=hid (fun c W=>letter_any c W)
 have HDT:=hid (fun c W=>digit_any c W)
 have HIB:=hid (fun (c : UInt8) W=>IndexByte_any ⟨#[59,44,123,125,40,41,61,62,64,33,43,45,42]⟩ c W)
 have HPO:=hid (show (l.length - (l.drop k).length : Nat) = k by rw [List.length_drop];omega)
 have HSL:=hid (show ∀ W,(Instr.slice 9 (.string (sb l)) (some (.int .i64 (k : Int))) (some (.int .i64 ((k : Int) + 1))) none).run Tryd.prog W = .ok (.string (sb [bk l k])) W from fun W=>by
   have:=slice_sb l k (k + 1) (by omega) (by omega) W
   rw [show (l.drop k).take (k + 1 - k) = [bk l k] by rw [drop_cons hk,show k + 1 - k = 1 by omega];rfl] at this
   exact this)
 have hw : IntKind.i64.wrap ((k : Int) + 1) = (k : Int) + 1:=by rw [IntKind.wrap_i64];omega
 have HNA:=hid (fun W (hs : Sn W q l k ts) (hL : isL (bk l k) = true)=>name_any q l k ts W hs hk hl hn hL)
 have HNU:=hid (fun W (hs : Sn W q l k ts) (hL : isD (bk l k) = true)=>number_any q l k ts W hs hk hl hn hL)
 have HTX:=hid (fun W (hs : Sn W q l k ts)=>text_any q l k ts W hs hk hl hn)
 obtain ⟨c,hc⟩ : ∃ c,bk l k = c:=⟨_,rfl⟩
 rw [hc] at hix HNA HNU HSL ⊢
 clear h hc
 cases hL : isL c with
 | true=>
   rw [if_pos rfl]
   have HLC:=hid (show ∀ W,Calls Tryd.prog 41 #[.int .u8 (c.toNat : Int)] W fun e w'=>e = .returned (.bool true) ∧ w' = W from fun W=>by have:=HLT.out c W;rwa [hL] at this)
   have HN2:=hid (fun W hs=>HNA.out W hs hL)
   obtain ⟨R,hR⟩ : ∃ R,nameT (l.drop k) = R:=⟨_,rfl⟩
   rw [hR] at HN2 ⊢
   clear hR hL
   go_enter Tryd.func19,Tryd.ntmps19
   go_wp2_with fail
   go_quiet (fail)
   have HN3:=hid (HN2.out (w.drewN nq) (HSN.out.drewN nq))
   have HTD:=hid (fun e w' (h : TokPost q l k ts (w.drewN nq) R e w')=>h.drew)
   generalize w.drewN nq = wq at *
   go_wp2_with (first | (go_at_call 41;refine (HLC.out _).mono ?_;rintro e w2 ⟨rfl,rfl⟩) | (go_at_call 42;refine HN3.out.mono ?_;rintro e w2 hp;obtain ⟨v,rfl,hp2⟩:=hp.ret))
   go_ret
   exact HTD.out _ _ hp2
 | false=>
   rw [if_neg (by decide)]
   cases hD : isD c with
   | true=>
     rw [if_pos rfl]
     have HLC:=hid (show ∀ W,Calls Tryd.prog 41 #[.int .u8 (c.toNat : Int)] W fun e w'=>e = .returned (.bool false) ∧ w' = W from fun W=>by have:=HLT.out c W;rwa [hL] at this)
     have HDC:=hid (show ∀ W,Calls Tryd.prog 43 #[.int .u8 (c.toNat : Int)] W fun e w'=>e = .returned (.bool true) ∧ w' = W from fun W=>by have:=HDT.out c W;rwa [hD] at this)
     have HN2:=hid (fun W hs=>HNU.out W hs hD)
     obtain ⟨R,hR⟩ : ∃ R,numberT (l.drop k) = R:=⟨_,rfl⟩
     rw [hR] at HN2 ⊢
     clear hR hL hD
     go_enter Tryd.func19,Tryd.ntmps19
     go_wp2_with fail
     go_quiet (fail)
     have HN3:=hid (HN2.out (w.drewN nq) (HSN.out.drewN nq))
     have HTD:=hid (fun e w' (h : TokPost q l k ts (w.drewN nq) R e w')=>h.drew)
     generalize w.drewN nq = wq at *
     go_wp2_with (first | (go_at_call 41;refine (HLC.out _).mono ?_;rintro e w2 ⟨rfl,rfl⟩) | (go_at_call 43;refine (HDC.out _).mono ?_;rintro e w2 ⟨rfl,rfl⟩) | (go_at_call 44;refine HN3.out.mono ?_;rintro e w2 hp;obtain ⟨v,rfl,hp2⟩:=hp.ret))
     go_ret
     exact HTD.out _ _ hp2
   | false=>
     rw [if_neg (by decide)]
     have HLC:=hid (show ∀ W,Calls Tryd.prog 41 #[.int .u8 (c.toNat : Int)] W fun e w'=>e = .returned (.bool false) ∧ w' = W from fun W=>by have:=HLT.out c W;rwa [hL] at this)
     have HDC:=hid (show ∀ W,Calls Tryd.prog 43 #[.int .u8 (c.toNat : Int)] W fun e w'=>e = .returned (.bool false) ∧ w' = W from fun W=>by have:=HDT.out c W;rwa [hD] at this)
     clear hL hD
     by_cases h34 : c = 34
     · rw [if_pos h34]
       have n34 : ((c.toNat : Int) == 34) = true:=by rw [h34];rfl
       have HN2:=HTX
       obtain ⟨R,hR⟩ : ∃ R,textT [] (l.drop (k + 1)) = R:=⟨_,rfl⟩
       rw [hR] at HN2 ⊢
       clear hR h34
       go_enter Tryd.func19,Tryd.ntmps19
       go_wp2_with fail
       go_quiet (fail)
       have HN3:=hid (HN2.out (w.drewN nq) (HSN.out.drewN nq))
       have HTD:=hid (fun e w' (h : TokPost q l k ts (w.drewN nq) R e w')=>h.drew)
       generalize w.drewN nq = wq at *
       go_wp2_with (first | (go_at_call 41;refine (HLC.out _).mono ?_;rintro e w2 ⟨rfl,rfl⟩) | (go_at_call 43;refine (HDC.out _).mono ?_;rintro e w2 ⟨rfl,rfl⟩) | (go_at_call 45;refine HN3.out.mono ?_;rintro e w2 hp;obtain ⟨v,rfl,hp2⟩:=hp.ret))
       go_ret
       exact HTD.out _ _ hp2
     · rw [if_neg h34]
       have n34 : ((c.toNat : Int) == 34) = false:=by rw [beq_eq_false_iff_ne];intro e;apply h34;apply UInt8.toNat_inj.1;show c.toNat = 34;omega
       obtain ⟨ib,hib⟩ : ∃ ib,Lib.indexByte marks c = ib:=⟨_,rfl⟩
       have HBI:=hid (show ∀ W,Calls Tryd.prog 40 #[.string ⟨#[59,44,123,125,40,41,61,62,64,33,43,45,42]⟩,.int .u8 (c.toNat : Int)] W fun e w'=>e = .returned (.int .i64 ib) ∧ w' = W from fun W=>by rw [← hib];exact HIB.out c W)
       have HII:=hid (show 0 ≤ ib ↔ marks.contains c = true by rw [← hib];exact ib_iff c marks)
       clear h34 hib
       cases hm : marks.contains c with
       | true=>
         rw [if_pos rfl]
         have g0 : (0 : Int) ≤ ib:=HII.out.2 hm
         have hsl:=HSL.out
         obtain ⟨X,hX⟩ : ∃ X,sb [c] = X:=⟨_,rfl⟩
         have HAD:=hid (fun W (hs : Sn W q l k ts)=>add_any q l k ts 5 [c] 0 (k + 1) W hs (by omega))
         rw [hX] at hsl HAD
         clear hm hX
         go_enter Tryd.func19,Tryd.ntmps19
         go_wp2_with fail
         go_quiet (fail)
         have HQ:=hid (HSN.out.drewN nq)
         have HBQ:=hid (show Below q w (w.drewN nq) from bl_q nq)
         have c0q : (w.drewN nq).cell? ⟨q,0,none⟩ = some (.string (sb l)):=c0
         have c1q : (w.drewN nq).cell? ⟨q,1,none⟩ = some (.int .i64 (k : Int)):=c1
         clear c0 c1
         generalize w.drewN nq = wq at *
         go_upto_region 9 with (first | (go_at_call 41;refine (HLC.out _).mono ?_;rintro e w2 ⟨rfl,rfl⟩) | (go_at_call 43;refine (HDC.out _).mono ?_;rintro e w2 ⟨rfl,rfl⟩) | (go_at_call 40;refine (HBI.out _).mono ?_;rintro e w2 ⟨rfl,rfl⟩))
         have c0d : w2.drew.cell? ⟨q,0,none⟩ = some (.string (sb l)):=c0q
         have c1d : w2.drew.cell? ⟨q,1,none⟩ = some (.int .i64 (k : Int)):=c1q
         have HA2:=hid (HAD.out w2.drew HQ.out.drew)
         have HBD:=hid (show Below q w w2.drew from HBQ.out.drew)
         go_still_tail 20,(by kernel_rfl)
         change wpList _ _ _ _ _ (World.drew _)
         generalize w2.drew = wd at *
         go_wp2_with (go_at_call 20;refine HA2.out.mono ?_;rintro e w3 ⟨rfl,hs3,hb3⟩)
         go_ret
         exact ⟨rfl,k + 1,by omega,by omega,rfl,hs3,HBD.out.trans hb3⟩
       | false=>
         rw [if_neg (by decide)]
         have g0 : ¬ (0 : Int) ≤ ib:=fun h=>by rw [HII.out.1 h] at hm;cases hm
         clear hm
         go_enter Tryd.func19,Tryd.ntmps19
         go_wp2_with fail
         go_quiet (fail)
         have c0q : (w.drewN nq).cell? ⟨q,0,none⟩ = some (.string (sb l)):=c0
         have c1q : (w.drewN nq).cell? ⟨q,1,none⟩ = some (.int .i64 (k : Int)):=c1
         have HBQ:=hid (show Below q w (w.drewN nq) from bl_q nq)
         clear c0 c1
         generalize w.drewN nq = wq at *
         go_wp2_with (first | (go_at_call 41;refine (HLC.out _).mono ?_;rintro e w2 ⟨rfl,rfl⟩) | (go_at_call 43;refine (HDC.out _).mono ?_;rintro e w2 ⟨rfl,rfl⟩) | (go_at_call 40;refine (HBI.out _).mono ?_;rintro e w2 ⟨rfl,rfl⟩))
         go_ret
         exact ⟨by rw [HPO.out];rfl,HBQ.out⟩
end Go.Proofs.YtgmjpnnblhkbpaaDoor
namespace Go.Proofs.YtgmjpnnblhkbpaaDoor
open Go Go.RowKit Go.Sh Tx
open Go.Lib (hid)
theorem skip_idem : ∀ (b : Bool) (s : Bs),skipC false (skipC b s) = skipC b s
 | b,[]=>by cases b <;> rfl
 | true,c :: r=>by
   rw [skipC]
   split
   · exact skip_idem false r
   · exact skip_idem true r
 | false,c :: r=>by
   rw [skipC]
   split
   · exact skip_idem false r
   · rename_i h1
     split
     · exact skip_idem true r
     · rename_i h2
       rw [skipC,if_neg h1,if_neg h2]
theorem ScR.skip {s : Bs} {ts : List Tk} {o : Option Bs} (h : ScR (skipC false s) ts o) : ScR s ts o:=by
 cases h with
 | done h=>exact .done (by rw [skip_idem] at h;exact h)
 | bad h1 h2 h3=>exact .bad (by rw [skip_idem] at h1;exact h1) h2 h3
 | more h1 h2 h3 h4=>exact .more (by rw [skip_idem] at h1;exact h1) h2 h3 h4
set_option maxRecDepth 100000 in
theorem results_tmp_cell {fn : Func} {t u : Tmp} {ty : TypeId} (h : fn.results = #[.tmp u,.cell t ty]) (ts : Array Value) (P : Program) (w : World) (ad : Addr) (v x : Value) (h2 : ts.getD t undef = .pointer (some ad)) (hx : ts.getD u undef = x) (h3 : (loadVar ty ad).run P w = .ok v w) :
   (results fn ts).run P w = .ok (.tuple #[x,v]) w:=by
 subst hx
 have h2' : ts[t]?.getD undef = .pointer (some ad):=by simpa using h2
 simp [results,h,h2',asAddr,h3]
def Flt (w : World) (b : Nat) (e k : Int) : Prop:=w.heap[b]? = some (.cells #[.int .i64 e,.int .i64 k] 28 (0,0))
set_option maxRecDepth 100000 in
theorem Flt.load {w : World} {b : Nat} {e k : Int} (h : Flt w b e k) : (loadVar 28 ⟨b,0,none⟩).run Tryd.prog w = .ok (.agg #[.int .i64 e,.int .i64 k]) w:=by
 have h2:=run_loadVar_mid (P:=Tryd.prog) w b 0 28 [.int .i64 e,.int .i64 k] _ (blk_range h) Tryd.underlying28 rfl (by kernel_rfl)
 exact h2
theorem Flt.free {w : World} {b : Nat} {e k : Int} (h : Flt w b e k) (i : Nat) : w.frozen? ⟨b,i,none⟩ = false:=frozen_of_row _ _ i _ _ h
theorem Flt.far {w w' : World} {b q : Nat} {e k : Int} (h : Flt w b e k) (hq : b < q) (hb : Below q w w') : Flt w' b e k:=by
 unfold Flt;rw [hb.block b hq];exact h
theorem Flt.put {w : World} {b : Nat} {e k : Int} (h : Flt w b e k) (e' k' : Int) : Flt ((w.setCell ⟨b,0,none⟩ (.int .i64 e')).setCell ⟨b,1,none⟩ (.int .i64 k')) b e' k':=by
 exact blk_set (blk_set h _) _
theorem Flt.c0 {w : World} {b : Nat} {e k : Int} (h : Flt w b e k) : w.cell? ⟨b,0,none⟩ = some (.int .i64 e):=blk_cell h
theorem Flt.c1 {w : World} {b : Nat} {e k : Int} (h : Flt w b e k) : w.cell? ⟨b,1,none⟩ = some (.int .i64 k):=blk_cell h
def ScanPost (l : Bs) (w : World) (e : Ending) (w' : World) : Prop:=
 Below w.heap.size w w' ∧
 ((8000 < l.length ∧ e = .returned (.tuple #[.slice none 0 0,.agg #[.int .i64 2,.int .i64 0]])) ∨
  (l.length ≤ 8000 ∧ ∃ ts o,ScR l ts o ∧
     ((∃ f : Bs,o = some f ∧ e = .returned (.tuple #[.slice none 0 0,.agg #[.int .i64 9,.int .i64 ((l.length - f.length : Nat) : Int)]])) ∨
      (o = none ∧ ts.length ≤ 8000 ∧ ∃ (tks : List (Tk × Int)) (A : Option Addr) (n c : Nat),tks.map Prod.fst = ts ++ [endT] ∧ n = tks.length ∧
         e = .returned (.tuple #[.slice A n c,.agg #[.int .i64 0,.int .i64 0]]) ∧ w'.ownsRow w.heap.size 73 4 (.slice A n c) n (tkv tks)))))
theorem bl_least {b b' : Nat} {w w' : World} (h : Below b w w') (hb : b' ≤ b) : Below b' w w':=⟨h.os,h.tape,h.output,h.size,fun i hi=>h.block i (by omega)⟩
section
set_option maxHeartbeats 8000000
set_option maxRecDepth 100000
set_option maxRecDepth 100000 in
theorem scan_big (l : Bs) (w : World) (h : 8000 < l.length) :
   Calls Tryd.prog 6 #[.string (sb l)] w (ScanPost l w):=by
 have hsz : (sb l).size = l.length:=sb_size l
 obtain ⟨S,hS⟩ : ∃ S,sb l = S:=⟨_,rfl⟩
 rw [hS] at hsz ⊢
 have h1 : (8000 : Int) < (l.length : Int):=by omega
 have HH:=hid h
 clear h hS
 go_enter Tryd.func6,Tryd.ntmps6
 go_wp2_with fail
 refine bodyPost_ret (v:=.tuple #[.slice none 0 0,.agg #[.int .i64 2,.int .i64 0]]) (results_tmp_cell rfl _ _ _ ⟨w.heap.size,0,none⟩ _ _ rfl rfl (Flt.load (heap_alloc_new w _))) rfl ?_
 exact ⟨(Below.refl _ w).alloc (Nat.le_refl _) _,Or.inl ⟨HH.out,rfl⟩⟩
set_option maxRecDepth 100000 in
theorem scan_any (l : Bs) (w : World) (h : l.length ≤ 8000) :
   Calls Tryd.prog 6 #[.string (sb l)] w (ScanPost l w):=by
 have hsz : (sb l).size = l.length:=sb_size l
 obtain ⟨S,hS⟩ : ∃ S,sb l = S:=⟨_,rfl⟩
 rw [hS] at hsz ⊢
 have h1 : ¬ (8000 : Int) < (l.length : Int):=by omega
 have HH:=hid h
 have HS:=hid hS
 clear h hS
 go_enter Tryd.func6,Tryd.ntmps6
 go_wp2_with fail
 have HF0:=hid (show Flt (w.alloc (.cells #[.int .i64 0,.int .i64 0] 28)) w.heap.size 0 0 from heap_alloc_new w _)
 have HB0:=hid (show Below w.heap.size w (w.alloc (.cells #[.int .i64 0,.int .i64 0] 28)) from (Below.refl _ w).alloc (Nat.le_refl _) _)
 have hz1 : (w.alloc (.cells #[.int .i64 0,.int .i64 0] 28)).heap.size = w.heap.size + 1:=Array.size_push _
 generalize w.alloc (.cells #[.int .i64 0,.int .i64 0] 28) = w1 at *
 have HF1:=hid (show Flt (w1.alloc (.cells #[.string S,.int .i64 0,.slice none 0 0] 68)) w.heap.size 0 0 from HF0.out.far (q:=w1.heap.size) (by omega) ((Below.refl _ w1).alloc (Nat.le_refl _) _))
 have HB1:=hid (show Below w.heap.size w (w1.alloc (.cells #[.string S,.int .i64 0,.slice none 0 0] 68)) from HB0.out.alloc (by omega) _)
 have HS1:=hid (show Sn (w1.alloc (.cells #[.string S,.int .i64 0,.slice none 0 0] 68)) (w.heap.size + 1) l 0 [] from ⟨none,0,0,by rw [HS.out,← hz1];exact heap_alloc_new w1 _,⟨rfl,Or.inl ⟨rfl,rfl⟩⟩⟩)
 obtain ⟨z,hz⟩ : ∃ z,w.heap.size = z:=⟨_,rfl⟩
 have HZ:=hid hz
 rw [hz] at HF1 HB1 HS1 hz1 ⊢
 have hz2 : z + 1 ≤ (w1.alloc (.cells #[.string S,.int .i64 0,.slice none 0 0] 68)).heap.size:=Nat.le_of_lt HS1.out.lt
 generalize w1.alloc (.cells #[.string S,.int .i64 0,.slice none 0 0] 68) = w2 at *
 clear HF0 HB0 hz1 hz
 have HK:=hid (skip_any (z + 1) l 0 [] w2 HS1.out (Nat.zero_le _) HH.out)
 refine HK.out.mono ?_
 rintro e w3 ⟨rfl,k1,-,hk1,hd1,hs3,hb3⟩
 clear HK
 have HF3:=hid (HF1.out.far (Nat.lt_succ_self z) hb3)
 have HB3:=hid (HB1.out.trans (bl_least hb3 (Nat.le_succ z)))
 have HS3:=hid hs3
 have HD3:=hid hd1
 clear HF1 HB1 HS1 hs3 hb3 hd1 hz2
 go_wp2_with fail
 go_loopw [5] (fun _ wr=>∃ (j : Nat) (ts : List (Tk × Int)),j ≤ l.length ∧ ts.length ≤ j ∧ skipC false (l.drop j) = l.drop j ∧ Sn wr (z + 1) l j ts ∧ Flt wr z 0 0 ∧ Below z w wr ∧ ∀ us o,ScR (l.drop j) us o → ScR l (ts.map Prod.fst ++ us) o) (fun _ wr=>mS l (z + 1) wr)
 case atStart=>
   exact ⟨k1,[],hk1,Nat.zero_le _,by rw [HD3.out,skip_idem],HS3.out,HF3.out,HB3.out,fun us o h=>by rw [HD3.out] at h;exact ScR.skip h⟩
 case round=>
   obtain ⟨j,ts,hj,htj,hsk,hs,hf,hb,hc⟩:=hrel
   have HSJ:=hid hs
   have HFJ:=hid hf
   have HBJ:=hid hb
   have HCJ:=hid hc
   have HKJ:=hid hsk
   have HMS:=hid (mS_of hs)
   have HTJ:=hid htj
   have c0 : wr.cell? ⟨z + 1,1,none⟩ = some (.int .i64 (j : Int)):=hs.place
   clear hs hf hb hc hsk htj HF3 HB3 HS3 HD3
   by_cases hlt : j < l.length
   · have hji : (j : Int) < (l.length : Int):=by omega
     have HTK:=hid (token_any (z + 1) l j ts wr HSJ.out hlt HH.out (by have:=HTJ.out;have:=HH.out;omega))
     obtain ⟨R,hR⟩ : ∃ R,tokT (l.drop j) = R:=⟨_,rfl⟩
     rw [hR] at HTK
     have HR:=hid hR
     clear hR
     cases R with
     | bad f=>
       go_wp2_with fail
       refine HTK.out.mono ?_
       rintro e w4 ⟨rfl,hb4⟩
       have HF4:=hid (HFJ.out.far (Nat.lt_succ_self z) hb4)
       have HB4:=hid (HBJ.out.trans (bl_least hb4 (Nat.le_succ z)))
       have hf0 : w4.frozen? ⟨z,0,none⟩ = false:=HF4.out.free 0
       have hf1 : w4.frozen? ⟨z,1,none⟩ = false:=HF4.out.free 1
       have g0 : w4.cell? ⟨z,0,none⟩ = some (.int .i64 0):=HF4.out.c0
       have g1 : w4.cell? ⟨z,1,none⟩ = some (.int .i64 0):=HF4.out.c1
       obtain ⟨u,hu⟩ : ∃ u,l.length - f.length = u:=⟨_,rfl⟩
       have HU:=hid hu
       rw [hu]
       clear hb4 hu
       have hu0 : (0 : Int) ≤ (u : Int):=by omega
       go_wp2_with fail
       refine bodyPost_ret (v:=.tuple #[.slice none 0 0,.agg #[.int .i64 9,.int .i64 (u : Int)]]) (results_tmp_cell rfl _ _ _ ⟨z,0,none⟩ _ _ rfl rfl (Flt.load (HF4.out.put 9 u))) rfl ?_
       refine ⟨?_,Or.inr ⟨HH.out,ts.map Prod.fst,some f,?_,Or.inl ⟨f,rfl,by rw [HU.out]⟩⟩⟩
       · rw [HZ.out]
         exact (HB4.out.setCell (p:=⟨z,0,none⟩) (Nat.le_refl _) _).setCell (p:=⟨z,1,none⟩) (Nat.le_refl _) _
       · have h:=HCJ.out [] (some f) (ScR.bad HKJ.out (by rw [drop_cons hlt];exact List.cons_ne_nil _ _) HR.out)
         rwa [List.append_nil] at h
     | ok t r=>
       go_wp2_with fail
       refine HTK.out.mono ?_
       rintro e w4 ⟨rfl,k',hk1,hk2,hr,hs4,hb4⟩
       have HF4:=hid (HFJ.out.far (Nat.lt_succ_self z) hb4)
       have HB4:=hid (HBJ.out.trans (bl_least hb4 (Nat.le_succ z)))
       have HK:=hid (skip_any (z + 1) l k' _ w4 hs4 hk2 HH.out)
       have HR4:=hid hr
       clear hb4 hs4 hr
       go_wp2_with fail
       refine HK.out.mono ?_
       rintro e w5 ⟨rfl,k2,hk3,hk4,hd5,hs5,hb5⟩
       have HF5:=hid (HF4.out.far (Nat.lt_succ_self z) hb5)
       have HB5:=hid (HB4.out.trans (bl_least hb5 (Nat.le_succ z)))
       have HS5:=hid hs5
       have HD5:=hid hd5
       clear hs5 hb5 hd5 HK HF4 HB4
       go_wp2_with fail
       refine ⟨⟨k2,ts ++ [(t,(j : Int))],hk4,by rw [List.length_append];have:=HTJ.out;simp;omega,by rw [HD5.out,skip_idem],HS5.out,HF5.out,HB5.out,?_⟩,?_⟩
       · intro us o h
         rw [HD5.out,HR4.out] at h
         have h2:=HCJ.out _ _ (ScR.more HKJ.out (by rw [drop_cons hlt];exact List.cons_ne_nil _ _) HR.out (ScR.skip h))
         rwa [List.map_append,List.append_assoc]
       · rw [mS_of HS5.out,HMS.out];omega
   · have hji : ¬ (j : Int) < (l.length : Int):=by omega
     have hjl : j = l.length:=by omega
     have HAD:=hid (add_any (z + 1) l j ts 6 [] 0 l.length wr HSJ.out (by have:=HTJ.out;have:=HH.out;omega))
     go_wp2_with fail
     refine HAD.out.mono ?_
     rintro e w4 ⟨rfl,hs4,hb4⟩
     have HF4:=hid (HFJ.out.far (Nat.lt_succ_self z) hb4)
     have HB4:=hid (HBJ.out.trans (bl_least hb4 (Nat.le_succ z)))
     have hf0 : w4.frozen? ⟨z,0,none⟩ = false:=HF4.out.free 0
     have hf1 : w4.frozen? ⟨z,1,none⟩ = false:=HF4.out.free 1
     have g0 : w4.cell? ⟨z,0,none⟩ = some (.int .i64 0):=HF4.out.c0
     have g1 : w4.cell? ⟨z,1,none⟩ = some (.int .i64 0):=HF4.out.c1
     obtain ⟨A,n,c,hq,ho⟩:=hs4
     have g2 : w4.cell? ⟨z + 1,2,none⟩ = some (.slice A n c):=blk_cell hq
     have HO:=hid ho
     clear hb4 hq ho HAD
     go_wp2_with fail
     refine bodyPost_ret (v:=.tuple #[.slice A n c,.agg #[.int .i64 0,.int .i64 0]]) (results_tmp_cell rfl _ _ _ ⟨z,0,none⟩ _ _ rfl rfl (Flt.load (HF4.out.put 0 0))) rfl ?_
     have hn : n = (ts ++ [((⟨6,[],0⟩ : Tk),(j : Int))]).length:=by
       have:=HO.out.1
       rw [tkv_len] at this
       omega
     refine ⟨?_,Or.inr ⟨HH.out,ts.map Prod.fst,none,?_,Or.inr ⟨rfl,by rw [List.length_map];have:=HTJ.out;have:=HH.out;omega,ts ++ [(⟨6,[],0⟩,(j : Int))],A,n,c,by rw [List.map_append];rfl,hn,rfl,?_⟩⟩⟩
     · rw [HZ.out]
       exact (HB4.out.setCell (p:=⟨z,0,none⟩) (Nat.le_refl _) _).setCell (p:=⟨z,1,none⟩) (Nat.le_refl _) _
     · have h:=HCJ.out [] none (ScR.done (by rw [HKJ.out,hjl,List.drop_length]))
       rwa [List.append_nil] at h
     · rw [HZ.out]
       exact own_base (ownsRow_setCell_below (ownsRow_setCell_below HO.out (a:=⟨z,0,none⟩) (by show z < z + 1 + 1;omega) _) (a:=⟨z,1,none⟩) (by show z < z + 1 + 1;omega) _) (by omega)
end
end Go.Proofs.YtgmjpnnblhkbpaaDoor
