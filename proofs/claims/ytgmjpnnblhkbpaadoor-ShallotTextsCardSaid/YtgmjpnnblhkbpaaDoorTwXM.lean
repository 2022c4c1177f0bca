/-
  The parser's place. No conditions.
-/
import Derived.Test.YtgmjpnnblhkbpaaDoorTwWM
namespace Go.Proofs.YtgmjpnnblhkbpaaDoor
open Go Go.RowKit Go.Sh Tx
open Go.Lib (hid)
theorem wl_store_all {P : Program} {ops : Array Oper} {rest : List Oper} {op : Oper} {a : Act} {w : World} {Q : Exit → Act → World → Prop} (hw : Region.wanted op (yielded ops a.tmps) = true) (ty : TypeId) (x y : Operand) (ho : op.op = .store ty x y)
   (b : Nat) (cells : Array Value) (hx : a.eval x = .pointer (some ⟨b,0,none⟩)) (hy : a.eval y = .agg cells) (cs : Array Value) (t : TypeId) (hg : w.heap[b]? = some (.cells cs t (0,0))) (hs : cells.size = cs.size)
   (hi : (P.info? ty).map (·.size) = some cells.size) (h1 : ∀ v ∈ cells.toList,v.oneCell' = true)
   (h : wpList P ops Q rest (a.put op.dst undef) (w.setRow b cells)) : wpList P ops Q (op :: rest) a w:=by
 refine wl_step hw fun K hK=>?_
 have hrun:=run_store_whole (P:=P) w b ty cells cs t hg hs hi h1
 unfold Oper.wp execOp
 simp only [ho,hx,hy,Sem.run_bind,Sem.run_pure,Result.andThen_ok,hrun]
 exact hK _ _ h
def PB (w : World) (y : Nat) (q : Q2) (d f : Q5) : Prop:=w.heap[y]? = some (.cells (q.cells ++ d.cells ++ f.cells).toArray 88 (0,0))
section
variable {w w' : World} {y : Nat} {q : Q2} {d f : Q5}
theorem PB.far (h : PB w y q d f) (hz : w'.heap[y]? = w.heap[y]?) : PB w' y q d f:=hz.trans h
theorem PB.free (h : PB w y q d f) (i : Nat) : w.frozen? ⟨y,i,none⟩ = false:=frozen_of_row _ _ i _ _ h
theorem PB.cell (h : PB w y q d f) (i : Nat) : w.cell? ⟨y,i,none⟩ = (q.cells ++ d.cells ++ f.cells)[i]?:=by rw [blk_cell h];simp
theorem PB.range (h : PB w y q d f) : w.rangeAt y 0 (q.cells ++ d.cells ++ f.cells):=blk_range h
theorem PB.putD (h : PB w y q d f) (e : Q5) : PB (((((w.setCell ⟨y,2,none⟩ (.string e.o)).setCell ⟨y,3,none⟩ (.int .i64 e.m)).setCell ⟨y,4,none⟩ (.string e.t)).setCell ⟨y,5,none⟩ (.int .i64 e.a)).setCell ⟨y,6,none⟩ (.slice e.A e.n e.d)) y q e f:=blk_set (blk_set (blk_set (blk_set (blk_set h _) _) _) _) _
theorem PB.putF (h : PB w y q d f) (e : Q5) : PB (((((w.setCell ⟨y,7,none⟩ (.string e.o)).setCell ⟨y,8,none⟩ (.int .i64 e.m)).setCell ⟨y,9,none⟩ (.string e.t)).setCell ⟨y,10,none⟩ (.int .i64 e.a)).setCell ⟨y,11,none⟩ (.slice e.A e.n e.d)) y q d e:=blk_set (blk_set (blk_set (blk_set (blk_set h _) _) _) _) _
end
theorem farK {w : World} {z b i : Nat} (h : b ≠ z) (a0 a1 a2 a3 a4 : Value) : (((((w.setCell ⟨z,i,none⟩ a0).setCell ⟨z,i + 1,none⟩ a1).setCell ⟨z,i + 2,none⟩ a2).setCell ⟨z,i + 3,none⟩ a3).setCell ⟨z,i + 4,none⟩ a4).heap[b]? = w.heap[b]?:=
 (Below.heap_setCell _ ⟨z,i + 4,none⟩ _ b h).trans ((Below.heap_setCell _ ⟨z,i + 3,none⟩ _ b h).trans ((Below.heap_setCell _ ⟨z,i + 2,none⟩ _ b h).trans ((Below.heap_setCell _ ⟨z,i + 1,none⟩ _ b h).trans (Below.heap_setCell _ ⟨z,i,none⟩ _ b h))))
theorem belowK {W V : World} {z i : Nat} (h : Below z W V) (a0 a1 a2 a3 a4 : Value) : Below z W (((((V.setCell ⟨z,i,none⟩ a0).setCell ⟨z,i + 1,none⟩ a1).setCell ⟨z,i + 2,none⟩ a2).setCell ⟨z,i + 3,none⟩ a3).setCell ⟨z,i + 4,none⟩ a4):=
 ((((h.setCell (p:=⟨z,i,none⟩) (Nat.le_refl _) _).setCell (p:=⟨z,i + 1,none⟩) (Nat.le_refl _) _).setCell (p:=⟨z,i + 2,none⟩) (Nat.le_refl _) _).setCell (p:=⟨z,i + 3,none⟩) (Nat.le_refl _) _).setCell (p:=⟨z,i + 4,none⟩) (Nat.le_refl _) _
def PlacePost (p q b : Nat) (s : PS) (w : World) (e : Ending) (w' : World) : Prop:=
 ∃ (x : Pl) (s' : PS) (cs : List Value),PlaceR s x s' ∧ e = .returned (.agg cs.toArray) ∧ plR.R (Fr w w') w' [x] [cs] ∧ Ps w' p q s' b 0 ∧ Kx q p w.heap.size w w'
section
set_option maxHeartbeats 16000000
set_option maxRecDepth 100000
set_option maxRecDepth 100000 in
theorem place_any (p q b : Nat) (s : PS) (w : World) (h : Ps w p q s b 0) : Calls Tryd.prog 34 #[.pointer (some ⟨p,0,none⟩)] w (PlacePost p q b s w):=by
 have hp:=h.size
 have hqp:=h.lt
 have HRE:=hid (fun (s : PS) W (hs : Ps W p q s b 0)=>ref_any p q b 0 s W hs)
 have HAT:=hid (fun (s : PS) W (hs : Ps W p q s b 0)=>patom_any p q b 0 s W hs (fun _=>by decide))
 have HA1:=hid (fun (s : PS) W (hs : Ps W p q s b 0)=>(show Calls Tryd.prog 35 #[.pointer (some ⟨p,0,none⟩),.string ⟨#[64]⟩] W _ from also_any p q b 0 s kAt W hs))
 have HA2:=hid (fun (s : PS) W (hs : Ps W p q s b 0)=>(show Calls Tryd.prog 35 #[.pointer (some ⟨p,0,none⟩),.string ⟨#[33]⟩] W _ from also_any p q b 0 s kBang W hs))
 have HB1:=hid (show Below w.heap.size w (w.alloc (.cells #[.string ⟨#[]⟩,.int .i64 0,.string ⟨#[]⟩,.int .i64 0,.string ⟨#[]⟩,.int .i64 0,.slice none 0 0,.string ⟨#[]⟩,.int .i64 0,.string ⟨#[]⟩,.int .i64 0,.slice none 0 0] 88)) from (Below.refl _ w).alloc (Nat.le_refl _) _)
 have HP1:=hid (h.below hp HB1.out)
 have HE1:=hid (show PB (w.alloc (.cells #[.string ⟨#[]⟩,.int .i64 0,.string ⟨#[]⟩,.int .i64 0,.string ⟨#[]⟩,.int .i64 0,.slice none 0 0,.string ⟨#[]⟩,.int .i64 0,.string ⟨#[]⟩,.int .i64 0,.slice none 0 0] 88)) w.heap.size .zero .zero .zero from heap_alloc_new w _)
 have hs1 : (w.alloc (.cells #[.string ⟨#[]⟩,.int .i64 0,.string ⟨#[]⟩,.int .i64 0,.string ⟨#[]⟩,.int .i64 0,.slice none 0 0,.string ⟨#[]⟩,.int .i64 0,.string ⟨#[]⟩,.int .i64 0,.slice none 0 0] 88)).heap.size = w.heap.size + 1:=Array.size_push _
 clear h
 go_enter Tryd.func34,Tryd.ntmps34
 go_wp2_with fail
 obtain ⟨z,hz⟩ : ∃ z,w.heap.size = z:=⟨_,rfl⟩
 have HZ:=hid hz
 rw [hz] at HB1 HE1 hs1 hp
 have HK1:=hid (show Kx q p z w _ from Kx.of HB1.out (Nat.le_refl _))
 rw [hz]
 have hz1 : z + 1 ≤ (w.alloc (.cells #[.string ⟨#[]⟩,.int .i64 0,.string ⟨#[]⟩,.int .i64 0,.string ⟨#[]⟩,.int .i64 0,.slice none 0 0,.string ⟨#[]⟩,.int .i64 0,.string ⟨#[]⟩,.int .i64 0,.slice none 0 0] 88)).heap.size:=Nat.le_of_eq hs1.symm
 have hzq : z ≠ q:=by omega
 have hzp : z ≠ p:=by omega
 clear hz hs1 HB1
 generalize w.alloc (.cells #[.string ⟨#[]⟩,.int .i64 0,.string ⟨#[]⟩,.int .i64 0,.string ⟨#[]⟩,.int .i64 0,.slice none 0 0,.string ⟨#[]⟩,.int .i64 0,.string ⟨#[]⟩,.int .i64 0,.slice none 0 0] 88) = w1 at *
 refine (HRE.out s w1 HP1.out).mono ?_
 rintro e w2 ⟨⟨a2,rfl⟩,hp2,hk2⟩
 obtain ⟨r2,hr2⟩ : ∃ r2,refS s = r2:=⟨_,rfl⟩
 rw [hr2] at hp2 ⊢
 have HR2:=hid hr2
 have HP2:=hid hp2
 clear hp2 hr2
 have HE2:=hid (HE1.out.far (hk2.block z (by omega) hzq hzp))
 have HK2:=hid (HK1.out.trans (hk2.least (by omega)))
 have hz2 : z + 1 ≤ w2.heap.size:=Nat.le_trans hz1 hk2.size
 clear hk2 HE1 HK1
 go_upto_region 2 with fail
 have hla3 : Below w2.heap.size w2 (w2.alloc (.cells #[.string (sb r2.1),.int .i64 a2,.string ⟨#[]⟩,.int .i64 0,.string ⟨#[]⟩,.int .i64 0,.slice none 0 0,.string ⟨#[]⟩,.int .i64 0,.string ⟨#[]⟩,.int .i64 0,.slice none 0 0] 88)):=(Below.refl _ w2).alloc (Nat.le_refl _) _
 have hy3 : (w2.alloc (.cells #[.string (sb r2.1),.int .i64 a2,.string ⟨#[]⟩,.int .i64 0,.string ⟨#[]⟩,.int .i64 0,.slice none 0 0,.string ⟨#[]⟩,.int .i64 0,.string ⟨#[]⟩,.int .i64 0,.slice none 0 0] 88)).heap[w2.heap.size]? = some (.cells #[.string (sb r2.1),.int .i64 a2,.string ⟨#[]⟩,.int .i64 0,.string ⟨#[]⟩,.int .i64 0,.slice none 0 0,.string ⟨#[]⟩,.int .i64 0,.string ⟨#[]⟩,.int .i64 0,.slice none 0 0] 88 (0,0)):=heap_alloc_new w2 _
 have hk3 : Kx q p w2.heap.size w2 (w2.alloc (.cells #[.string (sb r2.1),.int .i64 a2,.string ⟨#[]⟩,.int .i64 0,.string ⟨#[]⟩,.int .i64 0,.slice none 0 0,.string ⟨#[]⟩,.int .i64 0,.string ⟨#[]⟩,.int .i64 0,.slice none 0 0] 88)):=Kx.of hla3 (Nat.le_refl _)
 have HP3:=hid (HP2.out.below HP2.out.size hla3)
 have hl3 : (w2.alloc (.cells #[.string (sb r2.1),.int .i64 a2,.string ⟨#[]⟩,.int .i64 0,.string ⟨#[]⟩,.int .i64 0,.slice none 0 0,.string ⟨#[]⟩,.int .i64 0,.string ⟨#[]⟩,.int .i64 0,.slice none 0 0] 88)).heap.size = w2.heap.size + 1:=Array.size_push _
 have HY3:=hid hy3
 clear hla3 hy3
 generalize w2.alloc (.cells #[.string (sb r2.1),.int .i64 a2,.string ⟨#[]⟩,.int .i64 0,.string ⟨#[]⟩,.int .i64 0,.slice none 0 0,.string ⟨#[]⟩,.int .i64 0,.string ⟨#[]⟩,.int .i64 0,.slice none 0 0] 88) = w3 at *
 have HE3:=hid (HE2.out.far (hk3.block z (by omega) hzq hzp))
 have HK3:=hid (HK2.out.trans (hk3.least (by omega)))
 have hz3 : z + 1 ≤ w3.heap.size:=Nat.le_trans hz2 hk3.size
 clear hk3 HE2 HK2
 obtain ⟨y,hy⟩ : ∃ y,w2.heap.size = y:=⟨_,rfl⟩
 rw [hy] at HY3 hl3 ⊢
 have hzy : z < y:=by omega
 have hy3 : y + 1 ≤ w3.heap.size:=Nat.le_of_eq hl3.symm
 have HY3:=hid (show PB w3 y ⟨sb r2.1,a2⟩ .zero .zero from HY3.out)
 have HD3:=hid (show TrV (Fx z y w3) w3 [.none] [Q5.zero.cells] from TrV.leaf .none rfl 0)
 have HF3:=hid (show TrV (Fx z y w3) w3 [.none] [Q5.zero.cells] from TrV.leaf .none rfl 0)
 clear hy hl3
 go_wp2_with fail
 refine (HA1.out r2.2 w3 HP3.out).mono ?_
 rintro e w4 ⟨rfl,hp4,hk4⟩
 have HP4:=hid hp4
 clear hp4
 have HY4:=hid (HY3.out.far (hk4.block y (by omega) (by omega) (by omega)))
 have HD4:=hid ((HD3.out.keep (fun g hg=>hk4.block g hg.2.1 (by have:=hg.1;omega) (by have:=hg.1;omega))).mono (fun g hg=>hg.more hk4.size))
 have HF4:=hid ((HF3.out.keep (fun g hg=>hk4.block g hg.2.1 (by have:=hg.1;omega) (by have:=hg.1;omega))).mono (fun g hg=>hg.more hk4.size))
 have hy4 : y + 1 ≤ w4.heap.size:=Nat.le_trans hy3 hk4.size
 have HE4:=hid (HE3.out.far (hk4.block z (by omega) hzq hzp))
 have HK4:=hid (HK3.out.trans (hk4.least (by omega)))
 have hz4 : z + 1 ≤ w4.heap.size:=Nat.le_trans hz3 hk4.size
 clear hk4 HE3 HK3
 clear HY3 HD3 HF3 HP3
 cases hd3 : sees r2.2 [kAt] with
 | false=>
   have hal : alsoS r2.2 kAt = r2.2:=by rw [alsoS,if_neg (by rw [hd3];decide)]
   rw [hal] at HP4
   clear hal
   go_wp2_with fail
   refine (HA2.out r2.2 w4 HP4.out).mono ?_
   rintro e w5 ⟨rfl,hp5,hk5⟩
   have HP5:=hid hp5
   clear hp5
   have HY5:=hid (HY4.out.far (hk5.block y (by omega) (by omega) (by omega)))
   have HD5:=hid ((HD4.out.keep (fun g hg=>hk5.block g hg.2.1 (by have:=hg.1;omega) (by have:=hg.1;omega))).mono (fun g hg=>hg.more hk5.size))
   have HF5:=hid ((HF4.out.keep (fun g hg=>hk5.block g hg.2.1 (by have:=hg.1;omega) (by have:=hg.1;omega))).mono (fun g hg=>hg.more hk5.size))
   have hy5 : y + 1 ≤ w5.heap.size:=Nat.le_trans hy4 hk5.size
   have HE5:=hid (HE4.out.far (hk5.block z (by omega) hzq hzp))
   have HK5:=hid (HK4.out.trans (hk5.least (by omega)))
   have hz5 : z + 1 ≤ w5.heap.size:=Nat.le_trans hz4 hk5.size
   clear hk5 HE4 HK4
   clear HY4 HD4 HF4 HP4
   cases hf4 : sees r2.2 [kBang] with
   | false=>
     have hal : alsoS r2.2 kBang = r2.2:=by rw [alsoS,if_neg (by rw [hf4];decide)]
     rw [hal] at HP5
     clear hal
     obtain ⟨X,hX⟩ : ∃ X,(Q2.mk (sb r2.1) a2).cells ++ Q5.zero.cells ++ Q5.zero.cells = X:=⟨_,rfl⟩
     have HX:=hid hX
     have hXs : X.length = 12:=by rw [← hX];rfl
     have hX1 : ∀ v ∈ X,v.oneCell' = true:=fun v hv=>by rw [← hX] at hv;rw [List.mem_append,List.mem_append] at hv;rcases hv with (hv | hv) | hv;exact Q2.one _ v hv;exact Q5.one _ v hv;exact Q5.one _ v hv
     have hr : w5.rangeAt y 0 X:=by rw [← hX];exact HY5.out.range
     clear hX
     obtain ⟨ZC,hZC⟩ : ∃ ZC : Array Value,((Q2.zero.cells ++ Q5.zero.cells ++ Q5.zero.cells).toArray) = ZC:=⟨_,rfl⟩
     have hg : w5.heap[z]? = some (.cells ZC 88 (0,0)):=by rw [← hZC];exact HE5.out
     have hZs : ZC.size = 12:=by rw [← hZC];rfl
     clear hZC
     have HI:=hid (show (Tryd.prog.info? 88).map (·.size) = some X.toArray.size by rw [List.size_toArray,hXs];kernel_rfl)
     have HI2:=hid (show (Tryd.prog.info? 88).map (·.size) = some X.length by rw [hXs];kernel_rfl)
     go_wp2_with (first | (refine wl_load_mid (by rfl) 88 (.tmp 3) rfl y 0 rfl X _ hr Tryd.underlying88 rfl HI2.out ?_) | (refine wl_store_all (by rfl) 88 (.tmp 2) (.tmp 17) rfl z X.toArray rfl rfl ZC _ hg (by rw [List.size_toArray,hXs,hZs]) HI.out (fun v hv=>hX1 v (by simpa using hv)) ?_))
     have hb:=below_setRow (Below.refl z w5) (Nat.le_refl z) X.toArray
     have hg2 : (w5.setRow z X.toArray).heap[z]? = some (.cells X.toArray 88 (0,0)):=setRow_heap w5 z _ _ _ _ hg
     refine bodyPost_ret (v:=.agg X.toArray) (results_c1 rfl _ _ _ ⟨z,0,none⟩ _ rfl (run_loadVar_mid (P:=Tryd.prog) _ z 0 88 X _ (blk_range hg2) Tryd.underlying88 rfl HI2.out)) rfl ?_
     have hT : ∀ e cs,TrV (Fx z y w5) w5 [e] [cs] → TrV (Fr w (w5.setRow z X.toArray)) (w5.setRow z X.toArray) [e] [cs]:=fun e cs h=>(h.keep fun g hg=>setRow_other w5 z g _ (by have:=hg.1;omega)).mono fun g hg=>⟨by have:=hg.1;have:=HZ.out;omega,Nat.lt_of_lt_of_le hg.2.1 hb.size⟩
     refine ⟨⟨(refS s).1,_,_⟩,_,X,PlaceR.mk (by rw [HR2.out];exact (OptA.no hd3)) (OptA.no hf4),rfl,?_,HP5.out.below hp hb,by rw [HZ.out];exact HK5.out.trans (Kx.of hb (Nat.le_refl _))⟩
     have hpl:=PlV.cons (e:=⟨(refS s).1,_,_⟩) (q:=Q2.mk (sb r2.1) a2) (d:=Q5.zero) (f:=Q5.zero) (by rw [HR2.out]) (hT _ _ HD5.out) (hT _ _ HF5.out) .nil
     rw [HX.out] at hpl
     exact hpl
   | true=>
     have hal : alsoS r2.2 kBang = nx r2.2:=by rw [alsoS,if_pos hf4]
     rw [hal] at HP5
     clear hal
     go_wp2_with fail
     refine (HAT.out (nx r2.2) w5 HP5.out).mono ?_
     rintro e w6 ⟨xf,sf,of,tf,mf,af,Af,nf,df,hrf,rfl,htf,hp6,hk6⟩
     have HP6:=hid hp6
     have HN:=hid (htf.mono (fun g hg=>Fr.fx (z:=z) (y:=y) (w2:=w6) hg (by omega) (.inl (by omega)) (Nat.le_refl _)))
     clear hp6 htf
     have HY6:=hid (HY5.out.far (hk6.block y (by omega) (by omega) (by omega)))
     have HD6:=hid ((HD5.out.keep (fun g hg=>hk6.block g hg.2.1 (by have:=hg.1;omega) (by have:=hg.1;omega))).mono (fun g hg=>hg.more hk6.size))
     have HF6:=hid ((HF5.out.keep (fun g hg=>hk6.block g hg.2.1 (by have:=hg.1;omega) (by have:=hg.1;omega))).mono (fun g hg=>hg.more hk6.size))
     have hy6 : y + 1 ≤ w6.heap.size:=Nat.le_trans hy5 hk6.size
     have HE6:=hid (HE5.out.far (hk6.block z (by omega) hzq hzp))
     have HK6:=hid (HK5.out.trans (hk6.least (by omega)))
     have hz6 : z + 1 ≤ w6.heap.size:=Nat.le_trans hz5 hk6.size
     clear hk6 HE5 HK5
     clear HY5 HD5 HF5 HP5
     have g0 : w6.cell? ⟨y,7,none⟩ = _:=HY6.out.cell 7
     have l0:=HY6.out.free 7
     have g1 : w6.cell? ⟨y,8,none⟩ = _:=HY6.out.cell 8
     have l1:=HY6.out.free 8
     have g2 : w6.cell? ⟨y,9,none⟩ = _:=HY6.out.cell 9
     have l2:=HY6.out.free 9
     have g3 : w6.cell? ⟨y,10,none⟩ = _:=HY6.out.cell 10
     have l3:=HY6.out.free 10
     have g4 : w6.cell? ⟨y,11,none⟩ = _:=HY6.out.cell 11
     have l4:=HY6.out.free 11
     simp only [Q2.cells,Q5.cells,Q5.zero,List.cons_append,List.nil_append,List.getElem?_cons_succ,List.getElem?_cons_zero] at g0 g1 g2 g3 g4
     go_upto_region 6 with fail
     have hb : Below y w6 (((((w6.setCell ⟨y,7,none⟩ (.string of)).setCell ⟨y,8,none⟩ (.int .i64 mf)).setCell ⟨y,9,none⟩ (.string tf)).setCell ⟨y,10,none⟩ (.int .i64 af)).setCell ⟨y,11,none⟩ (.slice Af nf df)):=belowK (i:=7) (Below.refl y w6) _ _ _ _ _
     have hf : ∀ g,g ≠ y → (((((w6.setCell ⟨y,7,none⟩ (.string of)).setCell ⟨y,8,none⟩ (.int .i64 mf)).setCell ⟨y,9,none⟩ (.string tf)).setCell ⟨y,10,none⟩ (.int .i64 af)).setCell ⟨y,11,none⟩ (.slice Af nf df)).heap[g]? = w6.heap[g]?:=fun g hg=>farK (i:=7) hg _ _ _ _ _
     have HP7:=hid (HP6.out.below (show p < y by omega) hb)
     have HY7:=hid (HY6.out.putF (Q5.mk of mf tf af Af nf df))
     have HE7:=hid (HE6.out.far (hf z (by omega)))
     have HK7:=hid (HK6.out.trans (Kx.of hb (by omega)))
     have hz7:=Nat.le_trans hz6 hb.size
     have hy7:=Nat.le_trans hy6 hb.size
     have HD7:=hid ((HD6.out.keep (fun g hg=>hf g hg.2.2)).mono (fun g hg=>hg.more hb.size))
     have HF7:=hid ((HN.out.keep (fun g hg=>hf g hg.2.2)).mono (fun g hg=>hg.more hb.size))
     clear hb hf g0 g1 g2 g3 g4 l0 l1 l2 l3 l4 HN HP6 HY6 HE6 HK6 HD6 HF6
     generalize (((((w6.setCell ⟨y,7,none⟩ (.string of)).setCell ⟨y,8,none⟩ (.int .i64 mf)).setCell ⟨y,9,none⟩ (.string tf)).setCell ⟨y,10,none⟩ (.int .i64 af)).setCell ⟨y,11,none⟩ (.slice Af nf df)) = w7 at *
     obtain ⟨X,hX⟩ : ∃ X,(Q2.mk (sb r2.1) a2).cells ++ Q5.zero.cells ++ (Q5.mk of mf tf af Af nf df).cells = X:=⟨_,rfl⟩
     have HX:=hid hX
     have hXs : X.length = 12:=by rw [← hX];rfl
     have hX1 : ∀ v ∈ X,v.oneCell' = true:=fun v hv=>by rw [← hX] at hv;rw [List.mem_append,List.mem_append] at hv;rcases hv with (hv | hv) | hv;exact Q2.one _ v hv;exact Q5.one _ v hv;exact Q5.one _ v hv
     have hr : w7.rangeAt y 0 X:=by rw [← hX];exact HY7.out.range
     clear hX
     obtain ⟨ZC,hZC⟩ : ∃ ZC : Array Value,((Q2.zero.cells ++ Q5.zero.cells ++ Q5.zero.cells).toArray) = ZC:=⟨_,rfl⟩
     have hg : w7.heap[z]? = some (.cells ZC 88 (0,0)):=by rw [← hZC];exact HE7.out
     have hZs : ZC.size = 12:=by rw [← hZC];rfl
     clear hZC
     have HI:=hid (show (Tryd.prog.info? 88).map (·.size) = some X.toArray.size by rw [List.size_toArray,hXs];kernel_rfl)
     have HI2:=hid (show (Tryd.prog.info? 88).map (·.size) = some X.length by rw [hXs];kernel_rfl)
     go_wp2_with (first | (refine wl_load_mid (by rfl) 88 (.tmp 3) rfl y 0 rfl X _ hr Tryd.underlying88 rfl HI2.out ?_) | (refine wl_store_all (by rfl) 88 (.tmp 2) (.tmp 17) rfl z X.toArray rfl rfl ZC _ hg (by rw [List.size_toArray,hXs,hZs]) HI.out (fun v hv=>hX1 v (by simpa using hv)) ?_))
     have hb:=below_setRow (Below.refl z w7) (Nat.le_refl z) X.toArray
     have hg2 : (w7.setRow z X.toArray).heap[z]? = some (.cells X.toArray 88 (0,0)):=setRow_heap w7 z _ _ _ _ hg
     refine bodyPost_ret (v:=.agg X.toArray) (results_c1 rfl _ _ _ ⟨z,0,none⟩ _ rfl (run_loadVar_mid (P:=Tryd.prog) _ z 0 88 X _ (blk_range hg2) Tryd.underlying88 rfl HI2.out)) rfl ?_
     have hT : ∀ e cs,TrV (Fx z y w7) w7 [e] [cs] → TrV (Fr w (w7.setRow z X.toArray)) (w7.setRow z X.toArray) [e] [cs]:=fun e cs h=>(h.keep fun g hg=>setRow_other w7 z g _ (by have:=hg.1;omega)).mono fun g hg=>⟨by have:=hg.1;have:=HZ.out;omega,Nat.lt_of_lt_of_le hg.2.1 hb.size⟩
     refine ⟨⟨(refS s).1,_,_⟩,_,X,PlaceR.mk (by rw [HR2.out];exact (OptA.no hd3)) (OptA.yes hf4 hrf),rfl,?_,HP7.out.below hp hb,by rw [HZ.out];exact HK7.out.trans (Kx.of hb (Nat.le_refl _))⟩
     have hpl:=PlV.cons (e:=⟨(refS s).1,_,_⟩) (q:=Q2.mk (sb r2.1) a2) (d:=Q5.zero) (f:=(Q5.mk of mf tf af Af nf df)) (by rw [HR2.out]) (hT _ _ HD7.out) (hT _ _ HF7.out) .nil
     rw [HX.out] at hpl
     exact hpl
 | true=>
   have hal : alsoS r2.2 kAt = nx r2.2:=by rw [alsoS,if_pos hd3]
   rw [hal] at HP4
   clear hal
   go_wp2_with fail
   refine (HAT.out (nx r2.2) w4 HP4.out).mono ?_
   rintro e w5 ⟨xd,sd,od,td,md,ad,Ad,nd,dd,hrd,rfl,htd,hp5,hk5⟩
   have HP5:=hid hp5
   have HN:=hid (htd.mono (fun g hg=>Fr.fx (z:=z) (y:=y) (w2:=w5) hg (by omega) (.inl (by omega)) (Nat.le_refl _)))
   clear hp5 htd
   have HY5:=hid (HY4.out.far (hk5.block y (by omega) (by omega) (by omega)))
   have HD5:=hid ((HD4.out.keep (fun g hg=>hk5.block g hg.2.1 (by have:=hg.1;omega) (by have:=hg.1;omega))).mono (fun g hg=>hg.more hk5.size))
   have HF5:=hid ((HF4.out.keep (fun g hg=>hk5.block g hg.2.1 (by have:=hg.1;omega) (by have:=hg.1;omega))).mono (fun g hg=>hg.more hk5.size))
   have hy5 : y + 1 ≤ w5.heap.size:=Nat.le_trans hy4 hk5.size
   have HE5:=hid (HE4.out.far (hk5.block z (by omega) hzq hzp))
   have HK5:=hid (HK4.out.trans (hk5.least (by omega)))
   have hz5 : z + 1 ≤ w5.heap.size:=Nat.le_trans hz4 hk5.size
   clear hk5 HE4 HK4
   clear HY4 HD4 HF4 HP4
   have g0 : w5.cell? ⟨y,2,none⟩ = _:=HY5.out.cell 2
   have l0:=HY5.out.free 2
   have g1 : w5.cell? ⟨y,3,none⟩ = _:=HY5.out.cell 3
   have l1:=HY5.out.free 3
   have g2 : w5.cell? ⟨y,4,none⟩ = _:=HY5.out.cell 4
   have l2:=HY5.out.free 4
   have g3 : w5.cell? ⟨y,5,none⟩ = _:=HY5.out.cell 5
   have l3:=HY5.out.free 5
   have g4 : w5.cell? ⟨y,6,none⟩ = _:=HY5.out.cell 6
   have l4:=HY5.out.free 6
   simp only [Q2.cells,Q5.cells,Q5.zero,List.cons_append,List.nil_append,List.getElem?_cons_succ,List.getElem?_cons_zero] at g0 g1 g2 g3 g4
   go_upto_region 4 with fail
   have hb : Below y w5 (((((w5.setCell ⟨y,2,none⟩ (.string od)).setCell ⟨y,3,none⟩ (.int .i64 md)).setCell ⟨y,4,none⟩ (.string td)).setCell ⟨y,5,none⟩ (.int .i64 ad)).setCell ⟨y,6,none⟩ (.slice Ad nd dd)):=belowK (i:=2) (Below.refl y w5) _ _ _ _ _
   have hf : ∀ g,g ≠ y → (((((w5.setCell ⟨y,2,none⟩ (.string od)).setCell ⟨y,3,none⟩ (.int .i64 md)).setCell ⟨y,4,none⟩ (.string td)).setCell ⟨y,5,none⟩ (.int .i64 ad)).setCell ⟨y,6,none⟩ (.slice Ad nd dd)).heap[g]? = w5.heap[g]?:=fun g hg=>farK (i:=2) hg _ _ _ _ _
   have HP6:=hid (HP5.out.below (show p < y by omega) hb)
   have HY6:=hid (HY5.out.putD (Q5.mk od md td ad Ad nd dd))
   have HE6:=hid (HE5.out.far (hf z (by omega)))
   have HK6:=hid (HK5.out.trans (Kx.of hb (by omega)))
   have hz6:=Nat.le_trans hz5 hb.size
   have hy6:=Nat.le_trans hy5 hb.size
   have HD6:=hid ((HN.out.keep (fun g hg=>hf g hg.2.2)).mono (fun g hg=>hg.more hb.size))
   have HF6:=hid ((HF5.out.keep (fun g hg=>hf g hg.2.2)).mono (fun g hg=>hg.more hb.size))
   clear hb hf g0 g1 g2 g3 g4 l0 l1 l2 l3 l4 HN HP5 HY5 HE5 HK5 HD5 HF5
   generalize (((((w5.setCell ⟨y,2,none⟩ (.string od)).setCell ⟨y,3,none⟩ (.int .i64 md)).setCell ⟨y,4,none⟩ (.string td)).setCell ⟨y,5,none⟩ (.int .i64 ad)).setCell ⟨y,6,none⟩ (.slice Ad nd dd)) = w6 at *
   go_wp2_with fail
   refine (HA2.out sd w6 HP6.out).mono ?_
   rintro e w7 ⟨rfl,hp7,hk7⟩
   have HP7:=hid hp7
   clear hp7
   have HY7:=hid (HY6.out.far (hk7.block y (by omega) (by omega) (by omega)))
   have HD7:=hid ((HD6.out.keep (fun g hg=>hk7.block g hg.2.1 (by have:=hg.1;omega) (by have:=hg.1;omega))).mono (fun g hg=>hg.more hk7.size))
   have HF7:=hid ((HF6.out.keep (fun g hg=>hk7.block g hg.2.1 (by have:=hg.1;omega) (by have:=hg.1;omega))).mono (fun g hg=>hg.more hk7.size))
   have hy7 : y + 1 ≤ w7.heap.size:=Nat.le_trans hy6 hk7.size
   have HE7:=hid (HE6.out.far (hk7.block z (by omega) hzq hzp))
   have HK7:=hid (HK6.out.trans (hk7.least (by omega)))
   have hz7 : z + 1 ≤ w7.heap.size:=Nat.le_trans hz6 hk7.size
   clear hk7 HE6 HK6
   clear HY6 HD6 HF6 HP6
   cases hf6 : sees sd [kBang] with
   | false=>
     have hal : alsoS sd kBang = sd:=by rw [alsoS,if_neg (by rw [hf6];decide)]
     rw [hal] at HP7
     clear hal
     obtain ⟨X,hX⟩ : ∃ X,(Q2.mk (sb r2.1) a2).cells ++ (Q5.mk od md td ad Ad nd dd).cells ++ Q5.zero.cells = X:=⟨_,rfl⟩
     have HX:=hid hX
     have hXs : X.length = 12:=by rw [← hX];rfl
     have hX1 : ∀ v ∈ X,v.oneCell' = true:=fun v hv=>by rw [← hX] at hv;rw [List.mem_append,List.mem_append] at hv;rcases hv with (hv | hv) | hv;exact Q2.one _ v hv;exact Q5.one _ v hv;exact Q5.one _ v hv
     have hr : w7.rangeAt y 0 X:=by rw [← hX];exact HY7.out.range
     clear hX
     obtain ⟨ZC,hZC⟩ : ∃ ZC : Array Value,((Q2.zero.cells ++ Q5.zero.cells ++ Q5.zero.cells).toArray) = ZC:=⟨_,rfl⟩
     have hg : w7.heap[z]? = some (.cells ZC 88 (0,0)):=by rw [← hZC];exact HE7.out
     have hZs : ZC.size = 12:=by rw [← hZC];rfl
     clear hZC
     have HI:=hid (show (Tryd.prog.info? 88).map (·.size) = some X.toArray.size by rw [List.size_toArray,hXs];kernel_rfl)
     have HI2:=hid (show (Tryd.prog.info? 88).map (·.size) = some X.length by rw [hXs];kernel_rfl)
     go_wp2_with (first | (refine wl_load_mid (by rfl) 88 (.tmp 3) rfl y 0 rfl X _ hr Tryd.underlying88 rfl HI2.out ?_) | (refine wl_store_all (by rfl) 88 (.tmp 2) (.tmp 17) rfl z X.toArray rfl rfl ZC _ hg (by rw [List.size_toArray,hXs,hZs]) HI.out (fun v hv=>hX1 v (by simpa using hv)) ?_))
     have hb:=below_setRow (Below.refl z w7) (Nat.le_refl z) X.toArray
     have hg2 : (w7.setRow z X.toArray).heap[z]? = some (.cells X.toArray 88 (0,0)):=setRow_heap w7 z _ _ _ _ hg
     refine bodyPost_ret (v:=.agg X.toArray) (results_c1 rfl _ _ _ ⟨z,0,none⟩ _ rfl (run_loadVar_mid (P:=Tryd.prog) _ z 0 88 X _ (blk_range hg2) Tryd.underlying88 rfl HI2.out)) rfl ?_
     have hT : ∀ e cs,TrV (Fx z y w7) w7 [e] [cs] → TrV (Fr w (w7.setRow z X.toArray)) (w7.setRow z X.toArray) [e] [cs]:=fun e cs h=>(h.keep fun g hg=>setRow_other w7 z g _ (by have:=hg.1;omega)).mono fun g hg=>⟨by have:=hg.1;have:=HZ.out;omega,Nat.lt_of_lt_of_le hg.2.1 hb.size⟩
     refine ⟨⟨(refS s).1,_,_⟩,_,X,PlaceR.mk (by rw [HR2.out];exact (OptA.yes hd3 hrd)) (OptA.no hf6),rfl,?_,HP7.out.below hp hb,by rw [HZ.out];exact HK7.out.trans (Kx.of hb (Nat.le_refl _))⟩
     have hpl:=PlV.cons (e:=⟨(refS s).1,_,_⟩) (q:=Q2.mk (sb r2.1) a2) (d:=(Q5.mk od md td ad Ad nd dd)) (f:=Q5.zero) (by rw [HR2.out]) (hT _ _ HD7.out) (hT _ _ HF7.out) .nil
     rw [HX.out] at hpl
     exact hpl
   | true=>
     have hal : alsoS sd kBang = nx sd:=by rw [alsoS,if_pos hf6]
     rw [hal] at HP7
     clear hal
     go_wp2_with fail
     refine (HAT.out (nx sd) w7 HP7.out).mono ?_
     rintro e w8 ⟨xf,sf,of,tf,mf,af,Af,nf,df,hrf,rfl,htf,hp8,hk8⟩
     have HP8:=hid hp8
     have HN:=hid (htf.mono (fun g hg=>Fr.fx (z:=z) (y:=y) (w2:=w8) hg (by omega) (.inl (by omega)) (Nat.le_refl _)))
     clear hp8 htf
     have HY8:=hid (HY7.out.far (hk8.block y (by omega) (by omega) (by omega)))
     have HD8:=hid ((HD7.out.keep (fun g hg=>hk8.block g hg.2.1 (by have:=hg.1;omega) (by have:=hg.1;omega))).mono (fun g hg=>hg.more hk8.size))
     have HF8:=hid ((HF7.out.keep (fun g hg=>hk8.block g hg.2.1 (by have:=hg.1;omega) (by have:=hg.1;omega))).mono (fun g hg=>hg.more hk8.size))
     have hy8 : y + 1 ≤ w8.heap.size:=Nat.le_trans hy7 hk8.size
     have HE8:=hid (HE7.out.far (hk8.block z (by omega) hzq hzp))
     have HK8:=hid (HK7.out.trans (hk8.least (by omega)))
     have hz8 : z + 1 ≤ w8.heap.size:=Nat.le_trans hz7 hk8.size
     clear hk8 HE7 HK7
     clear HY7 HD7 HF7 HP7
     have g0 : w8.cell? ⟨y,7,none⟩ = _:=HY8.out.cell 7
     have l0:=HY8.out.free 7
     have g1 : w8.cell? ⟨y,8,none⟩ = _:=HY8.out.cell 8
     have l1:=HY8.out.free 8
     have g2 : w8.cell? ⟨y,9,none⟩ = _:=HY8.out.cell 9
     have l2:=HY8.out.free 9
     have g3 : w8.cell? ⟨y,10,none⟩ = _:=HY8.out.cell 10
     have l3:=HY8.out.free 10
     have g4 : w8.cell? ⟨y,11,none⟩ = _:=HY8.out.cell 11
     have l4:=HY8.out.free 11
     simp only [Q2.cells,Q5.cells,Q5.zero,List.cons_append,List.nil_append,List.getElem?_cons_succ,List.getElem?_cons_zero] at g0 g1 g2 g3 g4
     go_upto_region 6 with fail
     have hb : Below y w8 (((((w8.setCell ⟨y,7,none⟩ (.string of)).setCell ⟨y,8,none⟩ (.int .i64 mf)).setCell ⟨y,9,none⟩ (.string tf)).setCell ⟨y,10,none⟩ (.int .i64 af)).setCell ⟨y,11,none⟩ (.slice Af nf df)):=belowK (i:=7) (Below.refl y w8) _ _ _ _ _
     have hf : ∀ g,g ≠ y → (((((w8.setCell ⟨y,7,none⟩ (.string of)).setCell ⟨y,8,none⟩ (.int .i64 mf)).setCell ⟨y,9,none⟩ (.string tf)).setCell ⟨y,10,none⟩ (.int .i64 af)).setCell ⟨y,11,none⟩ (.slice Af nf df)).heap[g]? = w8.heap[g]?:=fun g hg=>farK (i:=7) hg _ _ _ _ _
     have HP9:=hid (HP8.out.below (show p < y by omega) hb)
     have HY9:=hid (HY8.out.putF (Q5.mk of mf tf af Af nf df))
     have HE9:=hid (HE8.out.far (hf z (by omega)))
     have HK9:=hid (HK8.out.trans (Kx.of hb (by omega)))
     have hz9:=Nat.le_trans hz8 hb.size
     have hy9:=Nat.le_trans hy8 hb.size
     have HD9:=hid ((HD8.out.keep (fun g hg=>hf g hg.2.2)).mono (fun g hg=>hg.more hb.size))
     have HF9:=hid ((HN.out.keep (fun g hg=>hf g hg.2.2)).mono (fun g hg=>hg.more hb.size))
     clear hb hf g0 g1 g2 g3 g4 l0 l1 l2 l3 l4 HN HP8 HY8 HE8 HK8 HD8 HF8
     generalize (((((w8.setCell ⟨y,7,none⟩ (.string of)).setCell ⟨y,8,none⟩ (.int .i64 mf)).setCell ⟨y,9,none⟩ (.string tf)).setCell ⟨y,10,none⟩ (.int .i64 af)).setCell ⟨y,11,none⟩ (.slice Af nf df)) = w9 at *
     obtain ⟨X,hX⟩ : ∃ X,(Q2.mk (sb r2.1) a2).cells ++ (Q5.mk od md td ad Ad nd dd).cells ++ (Q5.mk of mf tf af Af nf df).cells = X:=⟨_,rfl⟩
     have HX:=hid hX
     have hXs : X.length = 12:=by rw [← hX];rfl
     have hX1 : ∀ v ∈ X,v.oneCell' = true:=fun v hv=>by rw [← hX] at hv;rw [List.mem_append,List.mem_append] at hv;rcases hv with (hv | hv) | hv;exact Q2.one _ v hv;exact Q5.one _ v hv;exact Q5.one _ v hv
     have hr : w9.rangeAt y 0 X:=by rw [← hX];exact HY9.out.range
     clear hX
     obtain ⟨ZC,hZC⟩ : ∃ ZC : Array Value,((Q2.zero.cells ++ Q5.zero.cells ++ Q5.zero.cells).toArray) = ZC:=⟨_,rfl⟩
     have hg : w9.heap[z]? = some (.cells ZC 88 (0,0)):=by rw [← hZC];exact HE9.out
     have hZs : ZC.size = 12:=by rw [← hZC];rfl
     clear hZC
     have HI:=hid (show (Tryd.prog.info? 88).map (·.size) = some X.toArray.size by rw [List.size_toArray,hXs];kernel_rfl)
     have HI2:=hid (show (Tryd.prog.info? 88).map (·.size) = some X.length by rw [hXs];kernel_rfl)
     go_wp2_with (first | (refine wl_load_mid (by rfl) 88 (.tmp 3) rfl y 0 rfl X _ hr Tryd.underlying88 rfl HI2.out ?_) | (refine wl_store_all (by rfl) 88 (.tmp 2) (.tmp 17) rfl z X.toArray rfl rfl ZC _ hg (by rw [List.size_toArray,hXs,hZs]) HI.out (fun v hv=>hX1 v (by simpa using hv)) ?_))
     have hb:=below_setRow (Below.refl z w9) (Nat.le_refl z) X.toArray
     have hg2 : (w9.setRow z X.toArray).heap[z]? = some (.cells X.toArray 88 (0,0)):=setRow_heap w9 z _ _ _ _ hg
     refine bodyPost_ret (v:=.agg X.toArray) (results_c1 rfl _ _ _ ⟨z,0,none⟩ _ rfl (run_loadVar_mid (P:=Tryd.prog) _ z 0 88 X _ (blk_range hg2) Tryd.underlying88 rfl HI2.out)) rfl ?_
     have hT : ∀ e cs,TrV (Fx z y w9) w9 [e] [cs] → TrV (Fr w (w9.setRow z X.toArray)) (w9.setRow z X.toArray) [e] [cs]:=fun e cs h=>(h.keep fun g hg=>setRow_other w9 z g _ (by have:=hg.1;omega)).mono fun g hg=>⟨by have:=hg.1;have:=HZ.out;omega,Nat.lt_of_lt_of_le hg.2.1 hb.size⟩
     refine ⟨⟨(refS s).1,_,_⟩,_,X,PlaceR.mk (by rw [HR2.out];exact (OptA.yes hd3 hrd)) (OptA.yes hf6 hrf),rfl,?_,HP9.out.below hp hb,by rw [HZ.out];exact HK9.out.trans (Kx.of hb (Nat.le_refl _))⟩
     have hpl:=PlV.cons (e:=⟨(refS s).1,_,_⟩) (q:=Q2.mk (sb r2.1) a2) (d:=(Q5.mk od md td ad Ad nd dd)) (f:=(Q5.mk of mf tf af Af nf df)) (by rw [HR2.out]) (hT _ _ HD9.out) (hT _ _ HF9.out) .nil
     rw [HX.out] at hpl
     exact hpl
end
end Go.Proofs.YtgmjpnnblhkbpaaDoor
