/-
  The parser's line. Conditions: the statement's kind is one of those without bodies.
-/
import Derived.Test.YtgmjpnnblhkbpaaDoorTwXM
namespace Go.Proofs.YtgmjpnnblhkbpaaDoor
open Go Go.RowKit Go.Sh Tx
open Go.Lib (hid)
def SB (w : World) (y : Nat) (c : SC) : Prop:=w.heap[y]? = some (.cells c.cells.toArray 64 (0,0))
section
variable {w w' : World} {y : Nat} {c : SC}
theorem SB.far (h : SB w y c) (hz : w'.heap[y]? = w.heap[y]?) : SB w' y c:=hz.trans h
theorem SB.free (h : SB w y c) (i : Nat) : w.frozen? ⟨y,i,none⟩ = false:=frozen_of_row _ _ i _ _ h
theorem SB.cell (h : SB w y c) (i : Nat) : w.cell? ⟨y,i,none⟩ = c.cells[i]?:=by rw [blk_cell h];simp
theorem SB.putName (h : SB w y c) (q : Q2) : SB ((w.setCell ⟨y,2,none⟩ (.string q.t)).setCell ⟨y,3,none⟩ (.int .i64 q.a)) y ⟨c.kind,c.at_,q,c.a,c.b,c.c,c.routes,c.block,c.tag,c.body,c.els⟩:=(blk_set (blk_set h _) _)
theorem SB.putA (h : SB w y c) (q : Q5) : SB (((((w.setCell ⟨y,4,none⟩ (.string q.o)).setCell ⟨y,5,none⟩ (.int .i64 q.m)).setCell ⟨y,6,none⟩ (.string q.t)).setCell ⟨y,7,none⟩ (.int .i64 q.a)).setCell ⟨y,8,none⟩ (.slice q.A q.n q.d)) y ⟨c.kind,c.at_,c.name,q,c.b,c.c,c.routes,c.block,c.tag,c.body,c.els⟩:=(blk_set (blk_set (blk_set (blk_set (blk_set h _) _) _) _) _)
theorem SB.putB (h : SB w y c) (q : Q5) : SB (((((w.setCell ⟨y,9,none⟩ (.string q.o)).setCell ⟨y,10,none⟩ (.int .i64 q.m)).setCell ⟨y,11,none⟩ (.string q.t)).setCell ⟨y,12,none⟩ (.int .i64 q.a)).setCell ⟨y,13,none⟩ (.slice q.A q.n q.d)) y ⟨c.kind,c.at_,c.name,c.a,q,c.c,c.routes,c.block,c.tag,c.body,c.els⟩:=(blk_set (blk_set (blk_set (blk_set (blk_set h _) _) _) _) _)
theorem SB.putC (h : SB w y c) (q : Q5) : SB (((((w.setCell ⟨y,14,none⟩ (.string q.o)).setCell ⟨y,15,none⟩ (.int .i64 q.m)).setCell ⟨y,16,none⟩ (.string q.t)).setCell ⟨y,17,none⟩ (.int .i64 q.a)).setCell ⟨y,18,none⟩ (.slice q.A q.n q.d)) y ⟨c.kind,c.at_,c.name,c.a,c.b,q,c.routes,c.block,c.tag,c.body,c.els⟩:=(blk_set (blk_set (blk_set (blk_set (blk_set h _) _) _) _) _)
theorem SB.putR (h : SB w y c) (q : QS) : SB (w.setCell ⟨y,19,none⟩ (.slice q.A q.n q.d)) y ⟨c.kind,c.at_,c.name,c.a,c.b,c.c,q,c.block,c.tag,c.body,c.els⟩:=(blk_set h _)
theorem SB.putBlock (h : SB w y c) (q : Q2) : SB ((w.setCell ⟨y,20,none⟩ (.string q.t)).setCell ⟨y,21,none⟩ (.int .i64 q.a)) y ⟨c.kind,c.at_,c.name,c.a,c.b,c.c,c.routes,q,c.tag,c.body,c.els⟩:=(blk_set (blk_set h _) _)
theorem SB.putTag (h : SB w y c) (q : Q2) : SB ((w.setCell ⟨y,22,none⟩ (.string q.t)).setCell ⟨y,23,none⟩ (.int .i64 q.a)) y ⟨c.kind,c.at_,c.name,c.a,c.b,c.c,c.routes,c.block,q,c.body,c.els⟩:=(blk_set (blk_set h _) _)
theorem SB.putBody (h : SB w y c) (q : QS) : SB (w.setCell ⟨y,24,none⟩ (.slice q.A q.n q.d)) y ⟨c.kind,c.at_,c.name,c.a,c.b,c.c,c.routes,c.block,c.tag,q,c.els⟩:=(blk_set h _)
theorem SB.putEls (h : SB w y c) (q : QS) : SB (w.setCell ⟨y,25,none⟩ (.slice q.A q.n q.d)) y ⟨c.kind,c.at_,c.name,c.a,c.b,c.c,c.routes,c.block,c.tag,c.body,q⟩:=(blk_set h _)
end
def RtV (X : Nat → Prop) (w : World) (l : List Bs) (q : QS) : Prop:=∃ rs,RfV l rs ∧ RP X w 2 q.A q.n rs ∧ q.n ≤ q.d
theorem RtV.keep {X : Nat → Prop} {w w' : World} {l : List Bs} {q : QS} (h : RtV X w l q) (hb : ∀ b,X b → w'.heap[b]? = w.heap[b]?) : RtV X w' l q:=by
 obtain ⟨rs,h1,h2,h3⟩:=h
 exact ⟨rs,h1,h2.keep hb,h3⟩
theorem RtV.mono {X Y : Nat → Prop} {w : World} {l : List Bs} {q : QS} (h : RtV X w l q) (hb : ∀ b,X b → Y b) : RtV Y w l q:=by
 obtain ⟨rs,h1,h2,h3⟩:=h
 exact ⟨rs,h1,h2.mono hb,h3⟩
theorem RtV.zero {X : Nat → Prop} {w : World} : RtV X w [] .zero:=⟨[],.nil,RP.none_,Nat.le_refl _⟩
theorem RtV.lit {X : Nat → Prop} {w : World} {g : Nat} (t : Bs) (a : Int) (h : w.heap[g]? = some (.cells #[.string (sb t),.int .i64 a] 52 (0,0))) (hX : X g) : RtV X w [t] ⟨some ⟨g,0,none⟩,1,1⟩:=
 ⟨[(Q2.mk (sb t) a).cells],.cons rfl .nil,RP.lit (w:=w) (t:=52) h rfl (fun cs hcs=>by rw [List.mem_singleton.1 hcs];rfl) hX,Nat.le_refl _⟩
def LinePost (p q b y : Nat) (kind : Bs) (s : PS) (w : World) (e : Ending) (w' : World) : Prop:=
 ∃ (t : St) (s' : PS) (c : SC),LineR kind s t s' ∧ e = .returned (.tuple #[]) ∧ SB w' y c ∧ StV (Fr w w') w' [t] [c.cells] ∧ Ps w' p q s' b 0 ∧ Kx q p y w w' ∧ w.heap.size ≤ w'.heap.size
def SC.start (kind : Bs) (a : Int) : SC:=⟨sb kind,a,.zero,.zero,.zero,.zero,.zero,.zero,.zero,.zero,.zero⟩
section
set_option maxHeartbeats 16000000
set_option maxRecDepth 100000
set_option maxRecDepth 100000 in
theorem line_wait (p q b y : Nat) (at0 : Int) (s : PS) (w0 : World) (h : Ps w0 p q s b 0) (hy : SB w0 y (SC.start kWait at0)) (hpy : p < y) :
   Calls Tryd.prog 39 #[.pointer (some ⟨p,0,none⟩),.pointer (some ⟨y,0,none⟩)] w0 (LinePost p q b y kWait s w0):=by
 have hqp:=h.lt
 have HP0:=hid h
 have HY0:=hid (show SB w0 y ⟨sb kWait,at0,.zero,.zero,.zero,.zero,.zero,.zero,.zero,.zero,.zero⟩ from hy)
 have HK0:=hid (show Kx q p y w0 w0 from Kx.refl)
 have hs0 : y + 1 ≤ w0.heap.size:=(Array.getElem?_eq_some_iff.1 hy).1
 have hg0 : w0.heap.size ≤ w0.heap.size:=Nat.le_refl _
 have HA0:=hid (show TrV (Fr w0 w0) w0 [.none] [Q5.zero.cells] from TrV.leaf .none rfl 0)
 have HB0:=HA0
 have HC0:=HA0
 have HR0:=hid (show RtV (Fr w0 w0) w0 [] .zero from .zero)
 have k0 : w0.cell? ⟨y,0,none⟩ = some (.string ⟨#[119,97,105,116]⟩):=hy.cell 0
 clear h hy
 go_enter Tryd.func39,Tryd.ntmps39
 go_wp2_with fail
 refine (expr_any p q b 0 s w0 HP0.out (fun _=>by decide)).mono ?_
 rintro e w1 ⟨x1,s1,o1,t1,m1,a1,A1,n1,d1,hr1,rfl,htr,hp1,hk1⟩
 have HP1:=hid hp1
 have HN:=hid (htr.mono (fun g hg=>(⟨Nat.le_trans hg0 hg.1,hg.2⟩ : Fr w0 w1 g)))
 clear hp1 htr HP0
 have HY1:=hid (HY0.out.far (hk1.block y (by omega) (by omega) (by omega)))
 have HK1:=hid (HK0.out.trans (hk1.least (by omega)))
 have hs1 : y + 1 ≤ w1.heap.size:=Nat.le_trans hs0 hk1.size
 have hg1 : w0.heap.size ≤ w1.heap.size:=Nat.le_trans hg0 hk1.size
 have HA1:=hid ((HA0.out.keep (fun g hg=>hk1.block g hg.2 (by have:=hg.1;omega) (by have:=hg.1;omega))).mono (fun g hg=>(⟨hg.1,Nat.lt_of_lt_of_le hg.2 hk1.size⟩ : Fr w0 w1 g)))
 have HB1:=hid ((HB0.out.keep (fun g hg=>hk1.block g hg.2 (by have:=hg.1;omega) (by have:=hg.1;omega))).mono (fun g hg=>(⟨hg.1,Nat.lt_of_lt_of_le hg.2 hk1.size⟩ : Fr w0 w1 g)))
 have HC1:=hid ((HC0.out.keep (fun g hg=>hk1.block g hg.2 (by have:=hg.1;omega) (by have:=hg.1;omega))).mono (fun g hg=>(⟨hg.1,Nat.lt_of_lt_of_le hg.2 hk1.size⟩ : Fr w0 w1 g)))
 have HR1:=hid ((HR0.out.keep (fun g hg=>hk1.block g hg.2 (by have:=hg.1;omega) (by have:=hg.1;omega))).mono (fun g hg=>(⟨hg.1,Nat.lt_of_lt_of_le hg.2 hk1.size⟩ : Fr w0 w1 g)))
 clear hk1 HY0 HK0 HA0 HB0 HC0 HR0
 obtain ⟨v0,g0⟩ : ∃ v,w1.cell? ⟨y,4,none⟩ = some v:=⟨_,HY1.out.cell 4⟩
 have l0:=HY1.out.free 4
 obtain ⟨v1,g1⟩ : ∃ v,w1.cell? ⟨y,5,none⟩ = some v:=⟨_,HY1.out.cell 5⟩
 have l1:=HY1.out.free 5
 obtain ⟨v2,g2⟩ : ∃ v,w1.cell? ⟨y,6,none⟩ = some v:=⟨_,HY1.out.cell 6⟩
 have l2:=HY1.out.free 6
 obtain ⟨v3,g3⟩ : ∃ v,w1.cell? ⟨y,7,none⟩ = some v:=⟨_,HY1.out.cell 7⟩
 have l3:=HY1.out.free 7
 obtain ⟨v4,g4⟩ : ∃ v,w1.cell? ⟨y,8,none⟩ = some v:=⟨_,HY1.out.cell 8⟩
 have l4:=HY1.out.free 8
 go_wp2_with fail
 have hb : Below y w1 (((((w1.setCell ⟨y,4,none⟩ (.string o1)).setCell ⟨y,5,none⟩ (.int .i64 m1)).setCell ⟨y,6,none⟩ (.string t1)).setCell ⟨y,7,none⟩ (.int .i64 a1)).setCell ⟨y,8,none⟩ (.slice A1 n1 d1)):=((((((Below.refl y w1).setCell (p:=⟨y,4,none⟩) (Nat.le_refl _) _).setCell (p:=⟨y,5,none⟩) (Nat.le_refl _) _).setCell (p:=⟨y,6,none⟩) (Nat.le_refl _) _).setCell (p:=⟨y,7,none⟩) (Nat.le_refl _) _).setCell (p:=⟨y,8,none⟩) (Nat.le_refl _) _)
 have hf : ∀ g,g ≠ y → (((((w1.setCell ⟨y,4,none⟩ (.string o1)).setCell ⟨y,5,none⟩ (.int .i64 m1)).setCell ⟨y,6,none⟩ (.string t1)).setCell ⟨y,7,none⟩ (.int .i64 a1)).setCell ⟨y,8,none⟩ (.slice A1 n1 d1)).heap[g]? = w1.heap[g]?:=fun g hg=>(Below.heap_setCell _ ⟨y,8,none⟩ _ g hg).trans ((Below.heap_setCell _ ⟨y,7,none⟩ _ g hg).trans ((Below.heap_setCell _ ⟨y,6,none⟩ _ g hg).trans ((Below.heap_setCell _ ⟨y,5,none⟩ _ g hg).trans (Below.heap_setCell _ ⟨y,4,none⟩ _ g hg))))
 have HP2:=hid (HP1.out.below (show p < y by omega) hb)
 have HY2:=hid (HY1.out.putA (Q5.mk o1 m1 t1 a1 A1 n1 d1))
 have HK2:=hid (HK1.out.trans (Kx.of hb (Nat.le_refl _)))
 have hs2:=Nat.le_trans hs1 hb.size
 have hg2:=Nat.le_trans hg1 hb.size
 have HA2:=hid ((HN.out.keep (fun g hg=>hf g (by have:=hg.1;omega))).mono (fun g hg=>(⟨hg.1,Nat.lt_of_lt_of_le hg.2 hb.size⟩ : Fr w0 (((((w1.setCell ⟨y,4,none⟩ (.string o1)).setCell ⟨y,5,none⟩ (.int .i64 m1)).setCell ⟨y,6,none⟩ (.string t1)).setCell ⟨y,7,none⟩ (.int .i64 a1)).setCell ⟨y,8,none⟩ (.slice A1 n1 d1)) g)))
 have HB2:=hid ((HB1.out.keep (fun g hg=>hf g (by have:=hg.1;omega))).mono (fun g hg=>(⟨hg.1,Nat.lt_of_lt_of_le hg.2 hb.size⟩ : Fr w0 (((((w1.setCell ⟨y,4,none⟩ (.string o1)).setCell ⟨y,5,none⟩ (.int .i64 m1)).setCell ⟨y,6,none⟩ (.string t1)).setCell ⟨y,7,none⟩ (.int .i64 a1)).setCell ⟨y,8,none⟩ (.slice A1 n1 d1)) g)))
 have HC2:=hid ((HC1.out.keep (fun g hg=>hf g (by have:=hg.1;omega))).mono (fun g hg=>(⟨hg.1,Nat.lt_of_lt_of_le hg.2 hb.size⟩ : Fr w0 (((((w1.setCell ⟨y,4,none⟩ (.string o1)).setCell ⟨y,5,none⟩ (.int .i64 m1)).setCell ⟨y,6,none⟩ (.string t1)).setCell ⟨y,7,none⟩ (.int .i64 a1)).setCell ⟨y,8,none⟩ (.slice A1 n1 d1)) g)))
 have HR2:=hid ((HR1.out.keep (fun g hg=>hf g (by have:=hg.1;omega))).mono (fun g hg=>(⟨hg.1,Nat.lt_of_lt_of_le hg.2 hb.size⟩ : Fr w0 (((((w1.setCell ⟨y,4,none⟩ (.string o1)).setCell ⟨y,5,none⟩ (.int .i64 m1)).setCell ⟨y,6,none⟩ (.string t1)).setCell ⟨y,7,none⟩ (.int .i64 a1)).setCell ⟨y,8,none⟩ (.slice A1 n1 d1)) g)))
 clear hb hf g0 l0 g1 l1 g2 l2 g3 l3 g4 l4 HP1 HY1 HK1 HA1 HB1 HC1 HR1 HN
 generalize (((((w1.setCell ⟨y,4,none⟩ (.string o1)).setCell ⟨y,5,none⟩ (.int .i64 m1)).setCell ⟨y,6,none⟩ (.string t1)).setCell ⟨y,7,none⟩ (.int .i64 a1)).setCell ⟨y,8,none⟩ (.slice A1 n1 d1)) = w2 at *
 go_end0
 have hL:=LineR.wait hr1
 obtain ⟨rs,hv1,hv2,hv3⟩:=HR2.out
 exact ⟨_,_,⟨(sb kWait),at0,Q2.zero,(Q5.mk o1 m1 t1 a1 A1 n1 d1),Q5.zero,Q5.zero,QS.zero,Q2.zero,Q2.zero,QS.zero,QS.zero⟩,hL,rfl,HY2.out,StV.cons rfl rfl HA2.out HB2.out HC2.out ⟨hv1,hv2,hv3⟩ rfl rfl .nil ⟨RP.none_,Nat.le_refl _⟩ .nil ⟨RP.none_,Nat.le_refl _⟩ .nil,HP2.out,HK2.out,hg2⟩
set_option maxRecDepth 100000 in
theorem line_split (p q b y : Nat) (at0 : Int) (s : PS) (w0 : World) (h : Ps w0 p q s b 0) (hy : SB w0 y (SC.start kSplit at0)) (hpy : p < y) :
   Calls Tryd.prog 39 #[.pointer (some ⟨p,0,none⟩),.pointer (some ⟨y,0,none⟩)] w0 (LinePost p q b y kSplit s w0):=by
 have hqp:=h.lt
 have HP0:=hid h
 have HY0:=hid (show SB w0 y ⟨sb kSplit,at0,.zero,.zero,.zero,.zero,.zero,.zero,.zero,.zero,.zero⟩ from hy)
 have HK0:=hid (show Kx q p y w0 w0 from Kx.refl)
 have hs0 : y + 1 ≤ w0.heap.size:=(Array.getElem?_eq_some_iff.1 hy).1
 have hg0 : w0.heap.size ≤ w0.heap.size:=Nat.le_refl _
 have HA0:=hid (show TrV (Fr w0 w0) w0 [.none] [Q5.zero.cells] from TrV.leaf .none rfl 0)
 have HB0:=HA0
 have HC0:=HA0
 have HR0:=hid (show RtV (Fr w0 w0) w0 [] .zero from .zero)
 have k0 : w0.cell? ⟨y,0,none⟩ = some (.string ⟨#[115,112,108,105,116]⟩):=hy.cell 0
 clear h hy
 go_enter Tryd.func39,Tryd.ntmps39
 go_wp2_with fail
 refine (expr_any p q b 0 s w0 HP0.out (fun _=>by decide)).mono ?_
 rintro e w1 ⟨x1,s1,o1,t1,m1,a1,A1,n1,d1,hr1,rfl,htr,hp1,hk1⟩
 have HP1:=hid hp1
 have HN:=hid (htr.mono (fun g hg=>(⟨Nat.le_trans hg0 hg.1,hg.2⟩ : Fr w0 w1 g)))
 clear hp1 htr HP0
 have HY1:=hid (HY0.out.far (hk1.block y (by omega) (by omega) (by omega)))
 have HK1:=hid (HK0.out.trans (hk1.least (by omega)))
 have hs1 : y + 1 ≤ w1.heap.size:=Nat.le_trans hs0 hk1.size
 have hg1 : w0.heap.size ≤ w1.heap.size:=Nat.le_trans hg0 hk1.size
 have HA1:=hid ((HA0.out.keep (fun g hg=>hk1.block g hg.2 (by have:=hg.1;omega) (by have:=hg.1;omega))).mono (fun g hg=>(⟨hg.1,Nat.lt_of_lt_of_le hg.2 hk1.size⟩ : Fr w0 w1 g)))
 have HB1:=hid ((HB0.out.keep (fun g hg=>hk1.block g hg.2 (by have:=hg.1;omega) (by have:=hg.1;omega))).mono (fun g hg=>(⟨hg.1,Nat.lt_of_lt_of_le hg.2 hk1.size⟩ : Fr w0 w1 g)))
 have HC1:=hid ((HC0.out.keep (fun g hg=>hk1.block g hg.2 (by have:=hg.1;omega) (by have:=hg.1;omega))).mono (fun g hg=>(⟨hg.1,Nat.lt_of_lt_of_le hg.2 hk1.size⟩ : Fr w0 w1 g)))
 have HR1:=hid ((HR0.out.keep (fun g hg=>hk1.block g hg.2 (by have:=hg.1;omega) (by have:=hg.1;omega))).mono (fun g hg=>(⟨hg.1,Nat.lt_of_lt_of_le hg.2 hk1.size⟩ : Fr w0 w1 g)))
 clear hk1 HY0 HK0 HA0 HB0 HC0 HR0
 obtain ⟨v0,g0⟩ : ∃ v,w1.cell? ⟨y,4,none⟩ = some v:=⟨_,HY1.out.cell 4⟩
 have l0:=HY1.out.free 4
 obtain ⟨v1,g1⟩ : ∃ v,w1.cell? ⟨y,5,none⟩ = some v:=⟨_,HY1.out.cell 5⟩
 have l1:=HY1.out.free 5
 obtain ⟨v2,g2⟩ : ∃ v,w1.cell? ⟨y,6,none⟩ = some v:=⟨_,HY1.out.cell 6⟩
 have l2:=HY1.out.free 6
 obtain ⟨v3,g3⟩ : ∃ v,w1.cell? ⟨y,7,none⟩ = some v:=⟨_,HY1.out.cell 7⟩
 have l3:=HY1.out.free 7
 obtain ⟨v4,g4⟩ : ∃ v,w1.cell? ⟨y,8,none⟩ = some v:=⟨_,HY1.out.cell 8⟩
 have l4:=HY1.out.free 8
 go_upto_region 9 with fail
 have hb : Below y w1 (((((w1.setCell ⟨y,4,none⟩ (.string o1)).setCell ⟨y,5,none⟩ (.int .i64 m1)).setCell ⟨y,6,none⟩ (.string t1)).setCell ⟨y,7,none⟩ (.int .i64 a1)).setCell ⟨y,8,none⟩ (.slice A1 n1 d1)):=((((((Below.refl y w1).setCell (p:=⟨y,4,none⟩) (Nat.le_refl _) _).setCell (p:=⟨y,5,none⟩) (Nat.le_refl _) _).setCell (p:=⟨y,6,none⟩) (Nat.le_refl _) _).setCell (p:=⟨y,7,none⟩) (Nat.le_refl _) _).setCell (p:=⟨y,8,none⟩) (Nat.le_refl _) _)
 have hf : ∀ g,g ≠ y → (((((w1.setCell ⟨y,4,none⟩ (.string o1)).setCell ⟨y,5,none⟩ (.int .i64 m1)).setCell ⟨y,6,none⟩ (.string t1)).setCell ⟨y,7,none⟩ (.int .i64 a1)).setCell ⟨y,8,none⟩ (.slice A1 n1 d1)).heap[g]? = w1.heap[g]?:=fun g hg=>(Below.heap_setCell _ ⟨y,8,none⟩ _ g hg).trans ((Below.heap_setCell _ ⟨y,7,none⟩ _ g hg).trans ((Below.heap_setCell _ ⟨y,6,none⟩ _ g hg).trans ((Below.heap_setCell _ ⟨y,5,none⟩ _ g hg).trans (Below.heap_setCell _ ⟨y,4,none⟩ _ g hg))))
 have HP2:=hid (HP1.out.below (show p < y by omega) hb)
 have HY2:=hid (HY1.out.putA (Q5.mk o1 m1 t1 a1 A1 n1 d1))
 have HK2:=hid (HK1.out.trans (Kx.of hb (Nat.le_refl _)))
 have hs2:=Nat.le_trans hs1 hb.size
 have hg2:=Nat.le_trans hg1 hb.size
 have HA2:=hid ((HN.out.keep (fun g hg=>hf g (by have:=hg.1;omega))).mono (fun g hg=>(⟨hg.1,Nat.lt_of_lt_of_le hg.2 hb.size⟩ : Fr w0 (((((w1.setCell ⟨y,4,none⟩ (.string o1)).setCell ⟨y,5,none⟩ (.int .i64 m1)).setCell ⟨y,6,none⟩ (.string t1)).setCell ⟨y,7,none⟩ (.int .i64 a1)).setCell ⟨y,8,none⟩ (.slice A1 n1 d1)) g)))
 have HB2:=hid ((HB1.out.keep (fun g hg=>hf g (by have:=hg.1;omega))).mono (fun g hg=>(⟨hg.1,Nat.lt_of_lt_of_le hg.2 hb.size⟩ : Fr w0 (((((w1.setCell ⟨y,4,none⟩ (.string o1)).setCell ⟨y,5,none⟩ (.int .i64 m1)).setCell ⟨y,6,none⟩ (.string t1)).setCell ⟨y,7,none⟩ (.int .i64 a1)).setCell ⟨y,8,none⟩ (.slice A1 n1 d1)) g)))
 have HC2:=hid ((HC1.out.keep (fun g hg=>hf g (by have:=hg.1;omega))).mono (fun g hg=>(⟨hg.1,Nat.lt_of_lt_of_le hg.2 hb.size⟩ : Fr w0 (((((w1.setCell ⟨y,4,none⟩ (.string o1)).setCell ⟨y,5,none⟩ (.int .i64 m1)).setCell ⟨y,6,none⟩ (.string t1)).setCell ⟨y,7,none⟩ (.int .i64 a1)).setCell ⟨y,8,none⟩ (.slice A1 n1 d1)) g)))
 have HR2:=hid ((HR1.out.keep (fun g hg=>hf g (by have:=hg.1;omega))).mono (fun g hg=>(⟨hg.1,Nat.lt_of_lt_of_le hg.2 hb.size⟩ : Fr w0 (((((w1.setCell ⟨y,4,none⟩ (.string o1)).setCell ⟨y,5,none⟩ (.int .i64 m1)).setCell ⟨y,6,none⟩ (.string t1)).setCell ⟨y,7,none⟩ (.int .i64 a1)).setCell ⟨y,8,none⟩ (.slice A1 n1 d1)) g)))
 clear hb hf g0 l0 g1 l1 g2 l2 g3 l3 g4 l4 HP1 HY1 HK1 HA1 HB1 HC1 HR1 HN
 generalize (((((w1.setCell ⟨y,4,none⟩ (.string o1)).setCell ⟨y,5,none⟩ (.int .i64 m1)).setCell ⟨y,6,none⟩ (.string t1)).setCell ⟨y,7,none⟩ (.int .i64 a1)).setCell ⟨y,8,none⟩ (.slice A1 n1 d1)) = w2 at *
 go_wp2_with fail
 refine (via_any p q b 0 true s1 w2 HP2.out).mono ?_
 rintro e w3 ⟨l2,s2,A2,n2,d2,rs2,hr2,rfl,⟨hv1,hv2,hv3⟩,hp3,hk3⟩
 have HP3:=hid hp3
 have HN:=hid (show RtV (Fr w0 w3) w3 l2 ⟨A2,n2,d2⟩ from ⟨rs2,hv1,hv2.mono (fun g hg=>⟨Nat.le_trans hg2 hg.1,hg.2⟩),hv3⟩)
 clear hp3 hv1 hv2 hv3 HP2
 have HY3:=hid (HY2.out.far (hk3.block y (by omega) (by omega) (by omega)))
 have HK3:=hid (HK2.out.trans (hk3.least (by omega)))
 have hs3 : y + 1 ≤ w3.heap.size:=Nat.le_trans hs2 hk3.size
 have hg3 : w0.heap.size ≤ w3.heap.size:=Nat.le_trans hg2 hk3.size
 have HA3:=hid ((HA2.out.keep (fun g hg=>hk3.block g hg.2 (by have:=hg.1;omega) (by have:=hg.1;omega))).mono (fun g hg=>(⟨hg.1,Nat.lt_of_lt_of_le hg.2 hk3.size⟩ : Fr w0 w3 g)))
 have HB3:=hid ((HB2.out.keep (fun g hg=>hk3.block g hg.2 (by have:=hg.1;omega) (by have:=hg.1;omega))).mono (fun g hg=>(⟨hg.1,Nat.lt_of_lt_of_le hg.2 hk3.size⟩ : Fr w0 w3 g)))
 have HC3:=hid ((HC2.out.keep (fun g hg=>hk3.block g hg.2 (by have:=hg.1;omega) (by have:=hg.1;omega))).mono (fun g hg=>(⟨hg.1,Nat.lt_of_lt_of_le hg.2 hk3.size⟩ : Fr w0 w3 g)))
 have HR3:=hid ((HR2.out.keep (fun g hg=>hk3.block g hg.2 (by have:=hg.1;omega) (by have:=hg.1;omega))).mono (fun g hg=>(⟨hg.1,Nat.lt_of_lt_of_le hg.2 hk3.size⟩ : Fr w0 w3 g)))
 clear hk3 HY2 HK2 HA2 HB2 HC2 HR2
 obtain ⟨v0,g0⟩ : ∃ v,w3.cell? ⟨y,19,none⟩ = some v:=⟨_,HY3.out.cell 19⟩
 have l0:=HY3.out.free 19
 go_upto_region 10 with fail
 have hb : Below y w3 (w3.setCell ⟨y,19,none⟩ (.slice A2 n2 d2)):=((Below.refl y w3).setCell (p:=⟨y,19,none⟩) (Nat.le_refl _) _)
 have hf : ∀ g,g ≠ y → (w3.setCell ⟨y,19,none⟩ (.slice A2 n2 d2)).heap[g]? = w3.heap[g]?:=fun g hg=>Below.heap_setCell _ ⟨y,19,none⟩ _ g hg
 have HP4:=hid (HP3.out.below (show p < y by omega) hb)
 have HY4:=hid (HY3.out.putR (QS.mk A2 n2 d2))
 have HK4:=hid (HK3.out.trans (Kx.of hb (Nat.le_refl _)))
 have hs4:=Nat.le_trans hs3 hb.size
 have hg4:=Nat.le_trans hg3 hb.size
 have HA4:=hid ((HA3.out.keep (fun g hg=>hf g (by have:=hg.1;omega))).mono (fun g hg=>(⟨hg.1,Nat.lt_of_lt_of_le hg.2 hb.size⟩ : Fr w0 (w3.setCell ⟨y,19,none⟩ (.slice A2 n2 d2)) g)))
 have HB4:=hid ((HB3.out.keep (fun g hg=>hf g (by have:=hg.1;omega))).mono (fun g hg=>(⟨hg.1,Nat.lt_of_lt_of_le hg.2 hb.size⟩ : Fr w0 (w3.setCell ⟨y,19,none⟩ (.slice A2 n2 d2)) g)))
 have HC4:=hid ((HC3.out.keep (fun g hg=>hf g (by have:=hg.1;omega))).mono (fun g hg=>(⟨hg.1,Nat.lt_of_lt_of_le hg.2 hb.size⟩ : Fr w0 (w3.setCell ⟨y,19,none⟩ (.slice A2 n2 d2)) g)))
 have HR4:=hid ((HN.out.keep (fun g hg=>hf g (by have:=hg.1;omega))).mono (fun g hg=>(⟨hg.1,Nat.lt_of_lt_of_le hg.2 hb.size⟩ : Fr w0 (w3.setCell ⟨y,19,none⟩ (.slice A2 n2 d2)) g)))
 clear hb hf g0 l0 HP3 HY3 HK3 HA3 HB3 HC3 HR3 HN
 generalize (w3.setCell ⟨y,19,none⟩ (.slice A2 n2 d2)) = w4 at *
 go_wp2_with fail
 refine (tag_any p q b 0 s2 w4 HP4.out).mono ?_
 rintro e w5 ⟨⟨a3,rfl⟩,hp5,hk5⟩
 have HP5:=hid hp5
 clear hp5 HP4
 have HY5:=hid (HY4.out.far (hk5.block y (by omega) (by omega) (by omega)))
 have HK5:=hid (HK4.out.trans (hk5.least (by omega)))
 have hs5 : y + 1 ≤ w5.heap.size:=Nat.le_trans hs4 hk5.size
 have hg5 : w0.heap.size ≤ w5.heap.size:=Nat.le_trans hg4 hk5.size
 have HA5:=hid ((HA4.out.keep (fun g hg=>hk5.block g hg.2 (by have:=hg.1;omega) (by have:=hg.1;omega))).mono (fun g hg=>(⟨hg.1,Nat.lt_of_lt_of_le hg.2 hk5.size⟩ : Fr w0 w5 g)))
 have HB5:=hid ((HB4.out.keep (fun g hg=>hk5.block g hg.2 (by have:=hg.1;omega) (by have:=hg.1;omega))).mono (fun g hg=>(⟨hg.1,Nat.lt_of_lt_of_le hg.2 hk5.size⟩ : Fr w0 w5 g)))
 have HC5:=hid ((HC4.out.keep (fun g hg=>hk5.block g hg.2 (by have:=hg.1;omega) (by have:=hg.1;omega))).mono (fun g hg=>(⟨hg.1,Nat.lt_of_lt_of_le hg.2 hk5.size⟩ : Fr w0 w5 g)))
 have HR5:=hid ((HR4.out.keep (fun g hg=>hk5.block g hg.2 (by have:=hg.1;omega) (by have:=hg.1;omega))).mono (fun g hg=>(⟨hg.1,Nat.lt_of_lt_of_le hg.2 hk5.size⟩ : Fr w0 w5 g)))
 clear hk5 HY4 HK4 HA4 HB4 HC4 HR4
 obtain ⟨u3,hu3⟩ : ∃ u3,(tagS s2).1 = u3:=⟨_,rfl⟩
 rw [hu3]
 have HU3:=hid hu3
 clear hu3
 obtain ⟨v0,g0⟩ : ∃ v,w5.cell? ⟨y,22,none⟩ = some v:=⟨_,HY5.out.cell 22⟩
 have l0:=HY5.out.free 22
 obtain ⟨v1,g1⟩ : ∃ v,w5.cell? ⟨y,23,none⟩ = some v:=⟨_,HY5.out.cell 23⟩
 have l1:=HY5.out.free 23
 go_wp2_with fail
 have hb : Below y w5 ((w5.setCell ⟨y,22,none⟩ (.string (sb u3))).setCell ⟨y,23,none⟩ (.int .i64 a3)):=(((Below.refl y w5).setCell (p:=⟨y,22,none⟩) (Nat.le_refl _) _).setCell (p:=⟨y,23,none⟩) (Nat.le_refl _) _)
 have hf : ∀ g,g ≠ y → ((w5.setCell ⟨y,22,none⟩ (.string (sb u3))).setCell ⟨y,23,none⟩ (.int .i64 a3)).heap[g]? = w5.heap[g]?:=fun g hg=>(Below.heap_setCell _ ⟨y,23,none⟩ _ g hg).trans (Below.heap_setCell _ ⟨y,22,none⟩ _ g hg)
 have HP6:=hid (HP5.out.below (show p < y by omega) hb)
 have HY6:=hid (HY5.out.putTag (Q2.mk (sb u3) a3))
 have HK6:=hid (HK5.out.trans (Kx.of hb (Nat.le_refl _)))
 have hs6:=Nat.le_trans hs5 hb.size
 have hg6:=Nat.le_trans hg5 hb.size
 have HA6:=hid ((HA5.out.keep (fun g hg=>hf g (by have:=hg.1;omega))).mono (fun g hg=>(⟨hg.1,Nat.lt_of_lt_of_le hg.2 hb.size⟩ : Fr w0 ((w5.setCell ⟨y,22,none⟩ (.string (sb u3))).setCell ⟨y,23,none⟩ (.int .i64 a3)) g)))
 have HB6:=hid ((HB5.out.keep (fun g hg=>hf g (by have:=hg.1;omega))).mono (fun g hg=>(⟨hg.1,Nat.lt_of_lt_of_le hg.2 hb.size⟩ : Fr w0 ((w5.setCell ⟨y,22,none⟩ (.string (sb u3))).setCell ⟨y,23,none⟩ (.int .i64 a3)) g)))
 have HC6:=hid ((HC5.out.keep (fun g hg=>hf g (by have:=hg.1;omega))).mono (fun g hg=>(⟨hg.1,Nat.lt_of_lt_of_le hg.2 hb.size⟩ : Fr w0 ((w5.setCell ⟨y,22,none⟩ (.string (sb u3))).setCell ⟨y,23,none⟩ (.int .i64 a3)) g)))
 have HR6:=hid ((HR5.out.keep (fun g hg=>hf g (by have:=hg.1;omega))).mono (fun g hg=>(⟨hg.1,Nat.lt_of_lt_of_le hg.2 hb.size⟩ : Fr w0 ((w5.setCell ⟨y,22,none⟩ (.string (sb u3))).setCell ⟨y,23,none⟩ (.int .i64 a3)) g)))
 clear hb hf g0 l0 g1 l1 HP5 HY5 HK5 HA5 HB5 HC5 HR5
 generalize ((w5.setCell ⟨y,22,none⟩ (.string (sb u3))).setCell ⟨y,23,none⟩ (.int .i64 a3)) = w6 at *
 go_end0
 have hL:=LineR.split hr1 hr2
 obtain ⟨rs,hv1,hv2,hv3⟩:=HR6.out
 exact ⟨_,_,⟨(sb kSplit),at0,Q2.zero,(Q5.mk o1 m1 t1 a1 A1 n1 d1),Q5.zero,Q5.zero,(QS.mk A2 n2 d2),Q2.zero,(Q2.mk (sb u3) a3),QS.zero,QS.zero⟩,hL,rfl,HY6.out,StV.cons rfl rfl HA6.out HB6.out HC6.out ⟨hv1,hv2,hv3⟩ rfl (by rw [HU3.out]) .nil ⟨RP.none_,Nat.le_refl _⟩ .nil ⟨RP.none_,Nat.le_refl _⟩ .nil,HP6.out,HK6.out,hg6⟩
set_option maxRecDepth 100000 in
theorem line_cover (p q b y : Nat) (at0 : Int) (s : PS) (w0 : World) (h : Ps w0 p q s b 0) (hy : SB w0 y (SC.start kCover at0)) (hpy : p < y) :
   Calls Tryd.prog 39 #[.pointer (some ⟨p,0,none⟩),.pointer (some ⟨y,0,none⟩)] w0 (LinePost p q b y kCover s w0):=by
 have hqp:=h.lt
 have HP0:=hid h
 have HY0:=hid (show SB w0 y ⟨sb kCover,at0,.zero,.zero,.zero,.zero,.zero,.zero,.zero,.zero,.zero⟩ from hy)
 have HK0:=hid (show Kx q p y w0 w0 from Kx.refl)
 have hs0 : y + 1 ≤ w0.heap.size:=(Array.getElem?_eq_some_iff.1 hy).1
 have hg0 : w0.heap.size ≤ w0.heap.size:=Nat.le_refl _
 have HA0:=hid (show TrV (Fr w0 w0) w0 [.none] [Q5.zero.cells] from TrV.leaf .none rfl 0)
 have HB0:=HA0
 have HC0:=HA0
 have HR0:=hid (show RtV (Fr w0 w0) w0 [] .zero from .zero)
 have k0 : w0.cell? ⟨y,0,none⟩ = some (.string ⟨#[99,111,118,101,114]⟩):=hy.cell 0
 clear h hy
 go_enter Tryd.func39,Tryd.ntmps39
 go_wp2_with fail
 refine (ref_any p q b 0 s w0 HP0.out).mono ?_
 rintro e w1 ⟨⟨a1,rfl⟩,hp1,hk1⟩
 have HP1:=hid hp1
 clear hp1 HP0
 have HY1:=hid (HY0.out.far (hk1.block y (by omega) (by omega) (by omega)))
 have HK1:=hid (HK0.out.trans (hk1.least (by omega)))
 have hs1 : y + 1 ≤ w1.heap.size:=Nat.le_trans hs0 hk1.size
 have hg1 : w0.heap.size ≤ w1.heap.size:=Nat.le_trans hg0 hk1.size
 have HA1:=hid ((HA0.out.keep (fun g hg=>hk1.block g hg.2 (by have:=hg.1;omega) (by have:=hg.1;omega))).mono (fun g hg=>(⟨hg.1,Nat.lt_of_lt_of_le hg.2 hk1.size⟩ : Fr w0 w1 g)))
 have HB1:=hid ((HB0.out.keep (fun g hg=>hk1.block g hg.2 (by have:=hg.1;omega) (by have:=hg.1;omega))).mono (fun g hg=>(⟨hg.1,Nat.lt_of_lt_of_le hg.2 hk1.size⟩ : Fr w0 w1 g)))
 have HC1:=hid ((HC0.out.keep (fun g hg=>hk1.block g hg.2 (by have:=hg.1;omega) (by have:=hg.1;omega))).mono (fun g hg=>(⟨hg.1,Nat.lt_of_lt_of_le hg.2 hk1.size⟩ : Fr w0 w1 g)))
 have HR1:=hid ((HR0.out.keep (fun g hg=>hk1.block g hg.2 (by have:=hg.1;omega) (by have:=hg.1;omega))).mono (fun g hg=>(⟨hg.1,Nat.lt_of_lt_of_le hg.2 hk1.size⟩ : Fr w0 w1 g)))
 clear hk1 HY0 HK0 HA0 HB0 HC0 HR0
 obtain ⟨u1,hu1⟩ : ∃ u1,(refS s).1 = u1:=⟨_,rfl⟩
 rw [hu1]
 have HU1:=hid hu1
 clear hu1
 have hla : Below w1.heap.size w1 (w1.alloc (.cells #[.string (sb u1),.int .i64 a1] 52)):=(Below.refl _ w1).alloc (Nat.le_refl _) _
 have hl2 : (w1.alloc (.cells #[.string (sb u1),.int .i64 a1] 52)).heap.size = w1.heap.size + 1:=Array.size_push _
 have hk2 : Kx q p w1.heap.size w1 (w1.alloc (.cells #[.string (sb u1),.int .i64 a1] 52)):=Kx.of hla (Nat.le_refl _)
 have HP2:=hid (HP1.out.below HP1.out.size hla)
 have HN:=hid (RtV.lit (X:=Fr w0 (w1.alloc (.cells #[.string (sb u1),.int .i64 a1] 52))) (w:=(w1.alloc (.cells #[.string (sb u1),.int .i64 a1] 52))) (g:=w1.heap.size) u1 a1 (heap_alloc_new w1 _) ⟨hg1,by omega⟩)
 clear hla HP1
 obtain ⟨w2,hw2⟩ : ∃ w2,(w1.alloc (.cells #[.string (sb u1),.int .i64 a1] 52)) = w2:=⟨_,rfl⟩
 rw [hw2] at hk2 HP2 HN hl2
 have HY2:=hid (HY1.out.far (hk2.block y (by omega) (by omega) (by omega)))
 have HK2:=hid (HK1.out.trans (hk2.least (by omega)))
 have hs2 : y + 1 ≤ w2.heap.size:=Nat.le_trans hs1 hk2.size
 have hg2 : w0.heap.size ≤ w2.heap.size:=Nat.le_trans hg1 hk2.size
 have HA2:=hid ((HA1.out.keep (fun g hg=>hk2.block g hg.2 (by have:=hg.1;omega) (by have:=hg.1;omega))).mono (fun g hg=>(⟨hg.1,Nat.lt_of_lt_of_le hg.2 hk2.size⟩ : Fr w0 w2 g)))
 have HB2:=hid ((HB1.out.keep (fun g hg=>hk2.block g hg.2 (by have:=hg.1;omega) (by have:=hg.1;omega))).mono (fun g hg=>(⟨hg.1,Nat.lt_of_lt_of_le hg.2 hk2.size⟩ : Fr w0 w2 g)))
 have HC2:=hid ((HC1.out.keep (fun g hg=>hk2.block g hg.2 (by have:=hg.1;omega) (by have:=hg.1;omega))).mono (fun g hg=>(⟨hg.1,Nat.lt_of_lt_of_le hg.2 hk2.size⟩ : Fr w0 w2 g)))
 have HR2:=hid ((HR1.out.keep (fun g hg=>hk2.block g hg.2 (by have:=hg.1;omega) (by have:=hg.1;omega))).mono (fun g hg=>(⟨hg.1,Nat.lt_of_lt_of_le hg.2 hk2.size⟩ : Fr w0 w2 g)))
 clear hk2 HY1 HK1 HA1 HB1 HC1 HR1
 obtain ⟨v0,g0⟩ : ∃ v,w2.cell? ⟨y,19,none⟩ = some v:=⟨_,HY2.out.cell 19⟩
 have l0:=HY2.out.free 19
 go_wp2_with fail
 clear hw2
 have hb : Below y w2 (w2.setCell ⟨y,19,none⟩ (.slice (some ⟨w1.heap.size,0,none⟩) 1 1)):=((Below.refl y w2).setCell (p:=⟨y,19,none⟩) (Nat.le_refl _) _)
 have hf : ∀ g,g ≠ y → (w2.setCell ⟨y,19,none⟩ (.slice (some ⟨w1.heap.size,0,none⟩) 1 1)).heap[g]? = w2.heap[g]?:=fun g hg=>Below.heap_setCell _ ⟨y,19,none⟩ _ g hg
 have HP3:=hid (HP2.out.below (show p < y by omega) hb)
 have HY3:=hid (HY2.out.putR (QS.mk (some ⟨w1.heap.size,0,none⟩) 1 1))
 have HK3:=hid (HK2.out.trans (Kx.of hb (Nat.le_refl _)))
 have hs3:=Nat.le_trans hs2 hb.size
 have hg3:=Nat.le_trans hg2 hb.size
 have HA3:=hid ((HA2.out.keep (fun g hg=>hf g (by have:=hg.1;omega))).mono (fun g hg=>(⟨hg.1,Nat.lt_of_lt_of_le hg.2 hb.size⟩ : Fr w0 (w2.setCell ⟨y,19,none⟩ (.slice (some ⟨w1.heap.size,0,none⟩) 1 1)) g)))
 have HB3:=hid ((HB2.out.keep (fun g hg=>hf g (by have:=hg.1;omega))).mono (fun g hg=>(⟨hg.1,Nat.lt_of_lt_of_le hg.2 hb.size⟩ : Fr w0 (w2.setCell ⟨y,19,none⟩ (.slice (some ⟨w1.heap.size,0,none⟩) 1 1)) g)))
 have HC3:=hid ((HC2.out.keep (fun g hg=>hf g (by have:=hg.1;omega))).mono (fun g hg=>(⟨hg.1,Nat.lt_of_lt_of_le hg.2 hb.size⟩ : Fr w0 (w2.setCell ⟨y,19,none⟩ (.slice (some ⟨w1.heap.size,0,none⟩) 1 1)) g)))
 have HR3:=hid ((HN.out.keep (fun g hg=>hf g (by have:=hg.1;omega))).mono (fun g hg=>(⟨hg.1,Nat.lt_of_lt_of_le hg.2 hb.size⟩ : Fr w0 (w2.setCell ⟨y,19,none⟩ (.slice (some ⟨w1.heap.size,0,none⟩) 1 1)) g)))
 clear hb hf g0 l0 HP2 HY2 HK2 HA2 HB2 HC2 HR2 HN
 generalize (w2.setCell ⟨y,19,none⟩ (.slice (some ⟨w1.heap.size,0,none⟩) 1 1)) = w3 at *
 go_end0
 have hL:=LineR.cover (s:=s)
 obtain ⟨rs,hv1,hv2,hv3⟩:=HR3.out
 rw [← HU1.out] at hv1
 exact ⟨_,_,⟨(sb kCover),at0,Q2.zero,Q5.zero,Q5.zero,Q5.zero,(QS.mk (some ⟨w1.heap.size,0,none⟩) 1 1),Q2.zero,Q2.zero,QS.zero,QS.zero⟩,hL,rfl,HY3.out,StV.cons rfl rfl HA3.out HB3.out HC3.out ⟨hv1,hv2,hv3⟩ rfl rfl .nil ⟨RP.none_,Nat.le_refl _⟩ .nil ⟨RP.none_,Nat.le_refl _⟩ .nil,HP3.out,HK3.out,hg3⟩
set_option maxRecDepth 100000 in
theorem line_block (p q b y : Nat) (at0 : Int) (s : PS) (w0 : World) (h : Ps w0 p q s b 0) (hy : SB w0 y (SC.start kBlock at0)) (hpy : p < y) :
   Calls Tryd.prog 39 #[.pointer (some ⟨p,0,none⟩),.pointer (some ⟨y,0,none⟩)] w0 (LinePost p q b y kBlock s w0):=by
 have hqp:=h.lt
 have HP0:=hid h
 have HY0:=hid (show SB w0 y ⟨sb kBlock,at0,.zero,.zero,.zero,.zero,.zero,.zero,.zero,.zero,.zero⟩ from hy)
 have HK0:=hid (show Kx q p y w0 w0 from Kx.refl)
 have hs0 : y + 1 ≤ w0.heap.size:=(Array.getElem?_eq_some_iff.1 hy).1
 have hg0 : w0.heap.size ≤ w0.heap.size:=Nat.le_refl _
 have HA0:=hid (show TrV (Fr w0 w0) w0 [.none] [Q5.zero.cells] from TrV.leaf .none rfl 0)
 have HB0:=HA0
 have HC0:=HA0
 have HR0:=hid (show RtV (Fr w0 w0) w0 [] .zero from .zero)
 have k0 : w0.cell? ⟨y,0,none⟩ = some (.string ⟨#[98,108,111,99,107]⟩):=hy.cell 0
 clear h hy
 go_enter Tryd.func39,Tryd.ntmps39
 go_wp2_with fail
 refine (ref_any p q b 0 s w0 HP0.out).mono ?_
 rintro e w1 ⟨⟨a1,rfl⟩,hp1,hk1⟩
 have HP1:=hid hp1
 clear hp1 HP0
 have HY1:=hid (HY0.out.far (hk1.block y (by omega) (by omega) (by omega)))
 have HK1:=hid (HK0.out.trans (hk1.least (by omega)))
 have hs1 : y + 1 ≤ w1.heap.size:=Nat.le_trans hs0 hk1.size
 have hg1 : w0.heap.size ≤ w1.heap.size:=Nat.le_trans hg0 hk1.size
 have HA1:=hid ((HA0.out.keep (fun g hg=>hk1.block g hg.2 (by have:=hg.1;omega) (by have:=hg.1;omega))).mono (fun g hg=>(⟨hg.1,Nat.lt_of_lt_of_le hg.2 hk1.size⟩ : Fr w0 w1 g)))
 have HB1:=hid ((HB0.out.keep (fun g hg=>hk1.block g hg.2 (by have:=hg.1;omega) (by have:=hg.1;omega))).mono (fun g hg=>(⟨hg.1,Nat.lt_of_lt_of_le hg.2 hk1.size⟩ : Fr w0 w1 g)))
 have HC1:=hid ((HC0.out.keep (fun g hg=>hk1.block g hg.2 (by have:=hg.1;omega) (by have:=hg.1;omega))).mono (fun g hg=>(⟨hg.1,Nat.lt_of_lt_of_le hg.2 hk1.size⟩ : Fr w0 w1 g)))
 have HR1:=hid ((HR0.out.keep (fun g hg=>hk1.block g hg.2 (by have:=hg.1;omega) (by have:=hg.1;omega))).mono (fun g hg=>(⟨hg.1,Nat.lt_of_lt_of_le hg.2 hk1.size⟩ : Fr w0 w1 g)))
 clear hk1 HY0 HK0 HA0 HB0 HC0 HR0
 obtain ⟨u1,hu1⟩ : ∃ u1,(refS s).1 = u1:=⟨_,rfl⟩
 rw [hu1]
 have HU1:=hid hu1
 clear hu1
 obtain ⟨v0,g0⟩ : ∃ v,w1.cell? ⟨y,2,none⟩ = some v:=⟨_,HY1.out.cell 2⟩
 have l0:=HY1.out.free 2
 obtain ⟨v1,g1⟩ : ∃ v,w1.cell? ⟨y,3,none⟩ = some v:=⟨_,HY1.out.cell 3⟩
 have l1:=HY1.out.free 3
 go_upto_region 17 with fail
 have hb : Below y w1 ((w1.setCell ⟨y,2,none⟩ (.string (sb u1))).setCell ⟨y,3,none⟩ (.int .i64 a1)):=(((Below.refl y w1).setCell (p:=⟨y,2,none⟩) (Nat.le_refl _) _).setCell (p:=⟨y,3,none⟩) (Nat.le_refl _) _)
 have hf : ∀ g,g ≠ y → ((w1.setCell ⟨y,2,none⟩ (.string (sb u1))).setCell ⟨y,3,none⟩ (.int .i64 a1)).heap[g]? = w1.heap[g]?:=fun g hg=>(Below.heap_setCell _ ⟨y,3,none⟩ _ g hg).trans (Below.heap_setCell _ ⟨y,2,none⟩ _ g hg)
 have HP2:=hid (HP1.out.below (show p < y by omega) hb)
 have HY2:=hid (HY1.out.putName (Q2.mk (sb u1) a1))
 have HK2:=hid (HK1.out.trans (Kx.of hb (Nat.le_refl _)))
 have hs2:=Nat.le_trans hs1 hb.size
 have hg2:=Nat.le_trans hg1 hb.size
 have HA2:=hid ((HA1.out.keep (fun g hg=>hf g (by have:=hg.1;omega))).mono (fun g hg=>(⟨hg.1,Nat.lt_of_lt_of_le hg.2 hb.size⟩ : Fr w0 ((w1.setCell ⟨y,2,none⟩ (.string (sb u1))).setCell ⟨y,3,none⟩ (.int .i64 a1)) g)))
 have HB2:=hid ((HB1.out.keep (fun g hg=>hf g (by have:=hg.1;omega))).mono (fun g hg=>(⟨hg.1,Nat.lt_of_lt_of_le hg.2 hb.size⟩ : Fr w0 ((w1.setCell ⟨y,2,none⟩ (.string (sb u1))).setCell ⟨y,3,none⟩ (.int .i64 a1)) g)))
 have HC2:=hid ((HC1.out.keep (fun g hg=>hf g (by have:=hg.1;omega))).mono (fun g hg=>(⟨hg.1,Nat.lt_of_lt_of_le hg.2 hb.size⟩ : Fr w0 ((w1.setCell ⟨y,2,none⟩ (.string (sb u1))).setCell ⟨y,3,none⟩ (.int .i64 a1)) g)))
 have HR2:=hid ((HR1.out.keep (fun g hg=>hf g (by have:=hg.1;omega))).mono (fun g hg=>(⟨hg.1,Nat.lt_of_lt_of_le hg.2 hb.size⟩ : Fr w0 ((w1.setCell ⟨y,2,none⟩ (.string (sb u1))).setCell ⟨y,3,none⟩ (.int .i64 a1)) g)))
 clear hb hf g0 l0 g1 l1 HP1 HY1 HK1 HA1 HB1 HC1 HR1
 generalize ((w1.setCell ⟨y,2,none⟩ (.string (sb u1))).setCell ⟨y,3,none⟩ (.int .i64 a1)) = w2 at *
 go_wp2_with fail
 refine (via_any p q b 0 false (refS s).2 w2 HP2.out).mono ?_
 rintro e w3 ⟨l2,s2,A2,n2,d2,rs2,hr2,rfl,⟨hv1,hv2,hv3⟩,hp3,hk3⟩
 have HP3:=hid hp3
 have HN:=hid (show RtV (Fr w0 w3) w3 l2 ⟨A2,n2,d2⟩ from ⟨rs2,hv1,hv2.mono (fun g hg=>⟨Nat.le_trans hg2 hg.1,hg.2⟩),hv3⟩)
 clear hp3 hv1 hv2 hv3 HP2
 have HY3:=hid (HY2.out.far (hk3.block y (by omega) (by omega) (by omega)))
 have HK3:=hid (HK2.out.trans (hk3.least (by omega)))
 have hs3 : y + 1 ≤ w3.heap.size:=Nat.le_trans hs2 hk3.size
 have hg3 : w0.heap.size ≤ w3.heap.size:=Nat.le_trans hg2 hk3.size
 have HA3:=hid ((HA2.out.keep (fun g hg=>hk3.block g hg.2 (by have:=hg.1;omega) (by have:=hg.1;omega))).mono (fun g hg=>(⟨hg.1,Nat.lt_of_lt_of_le hg.2 hk3.size⟩ : Fr w0 w3 g)))
 have HB3:=hid ((HB2.out.keep (fun g hg=>hk3.block g hg.2 (by have:=hg.1;omega) (by have:=hg.1;omega))).mono (fun g hg=>(⟨hg.1,Nat.lt_of_lt_of_le hg.2 hk3.size⟩ : Fr w0 w3 g)))
 have HC3:=hid ((HC2.out.keep (fun g hg=>hk3.block g hg.2 (by have:=hg.1;omega) (by have:=hg.1;omega))).mono (fun g hg=>(⟨hg.1,Nat.lt_of_lt_of_le hg.2 hk3.size⟩ : Fr w0 w3 g)))
 have HR3:=hid ((HR2.out.keep (fun g hg=>hk3.block g hg.2 (by have:=hg.1;omega) (by have:=hg.1;omega))).mono (fun g hg=>(⟨hg.1,Nat.lt_of_lt_of_le hg.2 hk3.size⟩ : Fr w0 w3 g)))
 clear hk3 HY2 HK2 HA2 HB2 HC2 HR2
 obtain ⟨v0,g0⟩ : ∃ v,w3.cell? ⟨y,19,none⟩ = some v:=⟨_,HY3.out.cell 19⟩
 have l0:=HY3.out.free 19
 go_wp2_with fail
 have hb : Below y w3 (w3.setCell ⟨y,19,none⟩ (.slice A2 n2 d2)):=((Below.refl y w3).setCell (p:=⟨y,19,none⟩) (Nat.le_refl _) _)
 have hf : ∀ g,g ≠ y → (w3.setCell ⟨y,19,none⟩ (.slice A2 n2 d2)).heap[g]? = w3.heap[g]?:=fun g hg=>Below.heap_setCell _ ⟨y,19,none⟩ _ g hg
 have HP4:=hid (HP3.out.below (show p < y by omega) hb)
 have HY4:=hid (HY3.out.putR (QS.mk A2 n2 d2))
 have HK4:=hid (HK3.out.trans (Kx.of hb (Nat.le_refl _)))
 have hs4:=Nat.le_trans hs3 hb.size
 have hg4:=Nat.le_trans hg3 hb.size
 have HA4:=hid ((HA3.out.keep (fun g hg=>hf g (by have:=hg.1;omega))).mono (fun g hg=>(⟨hg.1,Nat.lt_of_lt_of_le hg.2 hb.size⟩ : Fr w0 (w3.setCell ⟨y,19,none⟩ (.slice A2 n2 d2)) g)))
 have HB4:=hid ((HB3.out.keep (fun g hg=>hf g (by have:=hg.1;omega))).mono (fun g hg=>(⟨hg.1,Nat.lt_of_lt_of_le hg.2 hb.size⟩ : Fr w0 (w3.setCell ⟨y,19,none⟩ (.slice A2 n2 d2)) g)))
 have HC4:=hid ((HC3.out.keep (fun g hg=>hf g (by have:=hg.1;omega))).mono (fun g hg=>(⟨hg.1,Nat.lt_of_lt_of_le hg.2 hb.size⟩ : Fr w0 (w3.setCell ⟨y,19,none⟩ (.slice A2 n2 d2)) g)))
 have HR4:=hid ((HN.out.keep (fun g hg=>hf g (by have:=hg.1;omega))).mono (fun g hg=>(⟨hg.1,Nat.lt_of_lt_of_le hg.2 hb.size⟩ : Fr w0 (w3.setCell ⟨y,19,none⟩ (.slice A2 n2 d2)) g)))
 clear hb hf g0 l0 HP3 HY3 HK3 HA3 HB3 HC3 HR3 HN
 generalize (w3.setCell ⟨y,19,none⟩ (.slice A2 n2 d2)) = w4 at *
 go_end0
 have hL:=LineR.block (s:=s) hr2
 obtain ⟨rs,hv1,hv2,hv3⟩:=HR4.out
 exact ⟨_,_,⟨(sb kBlock),at0,(Q2.mk (sb u1) a1),Q5.zero,Q5.zero,Q5.zero,(QS.mk A2 n2 d2),Q2.zero,Q2.zero,QS.zero,QS.zero⟩,hL,rfl,HY4.out,StV.cons rfl (by rw [HU1.out]) HA4.out HB4.out HC4.out ⟨hv1,hv2,hv3⟩ rfl rfl .nil ⟨RP.none_,Nat.le_refl _⟩ .nil ⟨RP.none_,Nat.le_refl _⟩ .nil,HP4.out,HK4.out,hg4⟩
set_option maxRecDepth 100000 in
theorem line_retry (p q b y : Nat) (at0 : Int) (s : PS) (w0 : World) (h : Ps w0 p q s b 0) (hy : SB w0 y (SC.start kRetry at0)) (hpy : p < y) :
   Calls Tryd.prog 39 #[.pointer (some ⟨p,0,none⟩),.pointer (some ⟨y,0,none⟩)] w0 (LinePost p q b y kRetry s w0):=by
 have hqp:=h.lt
 have HP0:=hid h
 have HY0:=hid (show SB w0 y ⟨sb kRetry,at0,.zero,.zero,.zero,.zero,.zero,.zero,.zero,.zero,.zero⟩ from hy)
 have HK0:=hid (show Kx q p y w0 w0 from Kx.refl)
 have hs0 : y + 1 ≤ w0.heap.size:=(Array.getElem?_eq_some_iff.1 hy).1
 have hg0 : w0.heap.size ≤ w0.heap.size:=Nat.le_refl _
 have HA0:=hid (show TrV (Fr w0 w0) w0 [.none] [Q5.zero.cells] from TrV.leaf .none rfl 0)
 have HB0:=HA0
 have HC0:=HA0
 have HR0:=hid (show RtV (Fr w0 w0) w0 [] .zero from .zero)
 have k0 : w0.cell? ⟨y,0,none⟩ = some (.string ⟨#[114,101,116,114,121]⟩):=hy.cell 0
 clear h hy
 go_enter Tryd.func39,Tryd.ntmps39
 go_wp2_with fail
 refine (expr_any p q b 0 s w0 HP0.out (fun _=>by decide)).mono ?_
 rintro e w1 ⟨x1,s1,o1,t1,m1,a1,A1,n1,d1,hr1,rfl,htr,hp1,hk1⟩
 have HP1:=hid hp1
 have HN:=hid (htr.mono (fun g hg=>(⟨Nat.le_trans hg0 hg.1,hg.2⟩ : Fr w0 w1 g)))
 clear hp1 htr HP0
 have HY1:=hid (HY0.out.far (hk1.block y (by omega) (by omega) (by omega)))
 have HK1:=hid (HK0.out.trans (hk1.least (by omega)))
 have hs1 : y + 1 ≤ w1.heap.size:=Nat.le_trans hs0 hk1.size
 have hg1 : w0.heap.size ≤ w1.heap.size:=Nat.le_trans hg0 hk1.size
 have HA1:=hid ((HA0.out.keep (fun g hg=>hk1.block g hg.2 (by have:=hg.1;omega) (by have:=hg.1;omega))).mono (fun g hg=>(⟨hg.1,Nat.lt_of_lt_of_le hg.2 hk1.size⟩ : Fr w0 w1 g)))
 have HB1:=hid ((HB0.out.keep (fun g hg=>hk1.block g hg.2 (by have:=hg.1;omega) (by have:=hg.1;omega))).mono (fun g hg=>(⟨hg.1,Nat.lt_of_lt_of_le hg.2 hk1.size⟩ : Fr w0 w1 g)))
 have HC1:=hid ((HC0.out.keep (fun g hg=>hk1.block g hg.2 (by have:=hg.1;omega) (by have:=hg.1;omega))).mono (fun g hg=>(⟨hg.1,Nat.lt_of_lt_of_le hg.2 hk1.size⟩ : Fr w0 w1 g)))
 have HR1:=hid ((HR0.out.keep (fun g hg=>hk1.block g hg.2 (by have:=hg.1;omega) (by have:=hg.1;omega))).mono (fun g hg=>(⟨hg.1,Nat.lt_of_lt_of_le hg.2 hk1.size⟩ : Fr w0 w1 g)))
 clear hk1 HY0 HK0 HA0 HB0 HC0 HR0
 obtain ⟨v0,g0⟩ : ∃ v,w1.cell? ⟨y,4,none⟩ = some v:=⟨_,HY1.out.cell 4⟩
 have l0:=HY1.out.free 4
 obtain ⟨v1,g1⟩ : ∃ v,w1.cell? ⟨y,5,none⟩ = some v:=⟨_,HY1.out.cell 5⟩
 have l1:=HY1.out.free 5
 obtain ⟨v2,g2⟩ : ∃ v,w1.cell? ⟨y,6,none⟩ = some v:=⟨_,HY1.out.cell 6⟩
 have l2:=HY1.out.free 6
 obtain ⟨v3,g3⟩ : ∃ v,w1.cell? ⟨y,7,none⟩ = some v:=⟨_,HY1.out.cell 7⟩
 have l3:=HY1.out.free 7
 obtain ⟨v4,g4⟩ : ∃ v,w1.cell? ⟨y,8,none⟩ = some v:=⟨_,HY1.out.cell 8⟩
 have l4:=HY1.out.free 8
 go_upto_region 20 with fail
 have hb : Below y w1 (((((w1.setCell ⟨y,4,none⟩ (.string o1)).setCell ⟨y,5,none⟩ (.int .i64 m1)).setCell ⟨y,6,none⟩ (.string t1)).setCell ⟨y,7,none⟩ (.int .i64 a1)).setCell ⟨y,8,none⟩ (.slice A1 n1 d1)):=((((((Below.refl y w1).setCell (p:=⟨y,4,none⟩) (Nat.le_refl _) _).setCell (p:=⟨y,5,none⟩) (Nat.le_refl _) _).setCell (p:=⟨y,6,none⟩) (Nat.le_refl _) _).setCell (p:=⟨y,7,none⟩) (Nat.le_refl _) _).setCell (p:=⟨y,8,none⟩) (Nat.le_refl _) _)
 have hf : ∀ g,g ≠ y → (((((w1.setCell ⟨y,4,none⟩ (.string o1)).setCell ⟨y,5,none⟩ (.int .i64 m1)).setCell ⟨y,6,none⟩ (.string t1)).setCell ⟨y,7,none⟩ (.int .i64 a1)).setCell ⟨y,8,none⟩ (.slice A1 n1 d1)).heap[g]? = w1.heap[g]?:=fun g hg=>(Below.heap_setCell _ ⟨y,8,none⟩ _ g hg).trans ((Below.heap_setCell _ ⟨y,7,none⟩ _ g hg).trans ((Below.heap_setCell _ ⟨y,6,none⟩ _ g hg).trans ((Below.heap_setCell _ ⟨y,5,none⟩ _ g hg).trans (Below.heap_setCell _ ⟨y,4,none⟩ _ g hg))))
 have HP2:=hid (HP1.out.below (show p < y by omega) hb)
 have HY2:=hid (HY1.out.putA (Q5.mk o1 m1 t1 a1 A1 n1 d1))
 have HK2:=hid (HK1.out.trans (Kx.of hb (Nat.le_refl _)))
 have hs2:=Nat.le_trans hs1 hb.size
 have hg2:=Nat.le_trans hg1 hb.size
 have HA2:=hid ((HN.out.keep (fun g hg=>hf g (by have:=hg.1;omega))).mono (fun g hg=>(⟨hg.1,Nat.lt_of_lt_of_le hg.2 hb.size⟩ : Fr w0 (((((w1.setCell ⟨y,4,none⟩ (.string o1)).setCell ⟨y,5,none⟩ (.int .i64 m1)).setCell ⟨y,6,none⟩ (.string t1)).setCell ⟨y,7,none⟩ (.int .i64 a1)).setCell ⟨y,8,none⟩ (.slice A1 n1 d1)) g)))
 have HB2:=hid ((HB1.out.keep (fun g hg=>hf g (by have:=hg.1;omega))).mono (fun g hg=>(⟨hg.1,Nat.lt_of_lt_of_le hg.2 hb.size⟩ : Fr w0 (((((w1.setCell ⟨y,4,none⟩ (.string o1)).setCell ⟨y,5,none⟩ (.int .i64 m1)).setCell ⟨y,6,none⟩ (.string t1)).setCell ⟨y,7,none⟩ (.int .i64 a1)).setCell ⟨y,8,none⟩ (.slice A1 n1 d1)) g)))
 have HC2:=hid ((HC1.out.keep (fun g hg=>hf g (by have:=hg.1;omega))).mono (fun g hg=>(⟨hg.1,Nat.lt_of_lt_of_le hg.2 hb.size⟩ : Fr w0 (((((w1.setCell ⟨y,4,none⟩ (.string o1)).setCell ⟨y,5,none⟩ (.int .i64 m1)).setCell ⟨y,6,none⟩ (.string t1)).setCell ⟨y,7,none⟩ (.int .i64 a1)).setCell ⟨y,8,none⟩ (.slice A1 n1 d1)) g)))
 have HR2:=hid ((HR1.out.keep (fun g hg=>hf g (by have:=hg.1;omega))).mono (fun g hg=>(⟨hg.1,Nat.lt_of_lt_of_le hg.2 hb.size⟩ : Fr w0 (((((w1.setCell ⟨y,4,none⟩ (.string o1)).setCell ⟨y,5,none⟩ (.int .i64 m1)).setCell ⟨y,6,none⟩ (.string t1)).setCell ⟨y,7,none⟩ (.int .i64 a1)).setCell ⟨y,8,none⟩ (.slice A1 n1 d1)) g)))
 clear hb hf g0 l0 g1 l1 g2 l2 g3 l3 g4 l4 HP1 HY1 HK1 HA1 HB1 HC1 HR1 HN
 generalize (((((w1.setCell ⟨y,4,none⟩ (.string o1)).setCell ⟨y,5,none⟩ (.int .i64 m1)).setCell ⟨y,6,none⟩ (.string t1)).setCell ⟨y,7,none⟩ (.int .i64 a1)).setCell ⟨y,8,none⟩ (.slice A1 n1 d1)) = w2 at *
 go_wp2_with fail
 refine (show Calls Tryd.prog 32 #[.pointer (some ⟨p,0,none⟩),.string ⟨#[101,118,101,114,121]⟩] w2 _ from take_any p q b 0 s1 kEvery w2 HP2.out).mono ?_
 rintro e w3 ⟨rfl,hp3,hk3⟩
 have HP3:=hid hp3
 clear hp3 HP2
 have HY3:=hid (HY2.out.far (hk3.block y (by omega) (by omega) (by omega)))
 have HK3:=hid (HK2.out.trans (hk3.least (by omega)))
 have hs3 : y + 1 ≤ w3.heap.size:=Nat.le_trans hs2 hk3.size
 have hg3 : w0.heap.size ≤ w3.heap.size:=Nat.le_trans hg2 hk3.size
 have HA3:=hid ((HA2.out.keep (fun g hg=>hk3.block g hg.2 (by have:=hg.1;omega) (by have:=hg.1;omega))).mono (fun g hg=>(⟨hg.1,Nat.lt_of_lt_of_le hg.2 hk3.size⟩ : Fr w0 w3 g)))
 have HB3:=hid ((HB2.out.keep (fun g hg=>hk3.block g hg.2 (by have:=hg.1;omega) (by have:=hg.1;omega))).mono (fun g hg=>(⟨hg.1,Nat.lt_of_lt_of_le hg.2 hk3.size⟩ : Fr w0 w3 g)))
 have HC3:=hid ((HC2.out.keep (fun g hg=>hk3.block g hg.2 (by have:=hg.1;omega) (by have:=hg.1;omega))).mono (fun g hg=>(⟨hg.1,Nat.lt_of_lt_of_le hg.2 hk3.size⟩ : Fr w0 w3 g)))
 have HR3:=hid ((HR2.out.keep (fun g hg=>hk3.block g hg.2 (by have:=hg.1;omega) (by have:=hg.1;omega))).mono (fun g hg=>(⟨hg.1,Nat.lt_of_lt_of_le hg.2 hk3.size⟩ : Fr w0 w3 g)))
 clear hk3 HY2 HK2 HA2 HB2 HC2 HR2
 go_wp2_with fail
 refine (expr_any p q b 0 (takeS s1 kEvery) w3 HP3.out (fun _=>by decide)).mono ?_
 rintro e w4 ⟨x2,s2,o2,t2,m2,a2,A2,n2,d2,hr2,rfl,htr,hp4,hk4⟩
 have HP4:=hid hp4
 have HN:=hid (htr.mono (fun g hg=>(⟨Nat.le_trans hg3 hg.1,hg.2⟩ : Fr w0 w4 g)))
 clear hp4 htr HP3
 have HY4:=hid (HY3.out.far (hk4.block y (by omega) (by omega) (by omega)))
 have HK4:=hid (HK3.out.trans (hk4.least (by omega)))
 have hs4 : y + 1 ≤ w4.heap.size:=Nat.le_trans hs3 hk4.size
 have hg4 : w0.heap.size ≤ w4.heap.size:=Nat.le_trans hg3 hk4.size
 have HA4:=hid ((HA3.out.keep (fun g hg=>hk4.block g hg.2 (by have:=hg.1;omega) (by have:=hg.1;omega))).mono (fun g hg=>(⟨hg.1,Nat.lt_of_lt_of_le hg.2 hk4.size⟩ : Fr w0 w4 g)))
 have HB4:=hid ((HB3.out.keep (fun g hg=>hk4.block g hg.2 (by have:=hg.1;omega) (by have:=hg.1;omega))).mono (fun g hg=>(⟨hg.1,Nat.lt_of_lt_of_le hg.2 hk4.size⟩ : Fr w0 w4 g)))
 have HC4:=hid ((HC3.out.keep (fun g hg=>hk4.block g hg.2 (by have:=hg.1;omega) (by have:=hg.1;omega))).mono (fun g hg=>(⟨hg.1,Nat.lt_of_lt_of_le hg.2 hk4.size⟩ : Fr w0 w4 g)))
 have HR4:=hid ((HR3.out.keep (fun g hg=>hk4.block g hg.2 (by have:=hg.1;omega) (by have:=hg.1;omega))).mono (fun g hg=>(⟨hg.1,Nat.lt_of_lt_of_le hg.2 hk4.size⟩ : Fr w0 w4 g)))
 clear hk4 HY3 HK3 HA3 HB3 HC3 HR3
 obtain ⟨v0,g0⟩ : ∃ v,w4.cell? ⟨y,9,none⟩ = some v:=⟨_,HY4.out.cell 9⟩
 have l0:=HY4.out.free 9
 obtain ⟨v1,g1⟩ : ∃ v,w4.cell? ⟨y,10,none⟩ = some v:=⟨_,HY4.out.cell 10⟩
 have l1:=HY4.out.free 10
 obtain ⟨v2,g2⟩ : ∃ v,w4.cell? ⟨y,11,none⟩ = some v:=⟨_,HY4.out.cell 11⟩
 have l2:=HY4.out.free 11
 obtain ⟨v3,g3⟩ : ∃ v,w4.cell? ⟨y,12,none⟩ = some v:=⟨_,HY4.out.cell 12⟩
 have l3:=HY4.out.free 12
 obtain ⟨v4,g4⟩ : ∃ v,w4.cell? ⟨y,13,none⟩ = some v:=⟨_,HY4.out.cell 13⟩
 have l4:=HY4.out.free 13
 go_upto_region 22 with fail
 have hb : Below y w4 (((((w4.setCell ⟨y,9,none⟩ (.string o2)).setCell ⟨y,10,none⟩ (.int .i64 m2)).setCell ⟨y,11,none⟩ (.string t2)).setCell ⟨y,12,none⟩ (.int .i64 a2)).setCell ⟨y,13,none⟩ (.slice A2 n2 d2)):=((((((Below.refl y w4).setCell (p:=⟨y,9,none⟩) (Nat.le_refl _) _).setCell (p:=⟨y,10,none⟩) (Nat.le_refl _) _).setCell (p:=⟨y,11,none⟩) (Nat.le_refl _) _).setCell (p:=⟨y,12,none⟩) (Nat.le_refl _) _).setCell (p:=⟨y,13,none⟩) (Nat.le_refl _) _)
 have hf : ∀ g,g ≠ y → (((((w4.setCell ⟨y,9,none⟩ (.string o2)).setCell ⟨y,10,none⟩ (.int .i64 m2)).setCell ⟨y,11,none⟩ (.string t2)).setCell ⟨y,12,none⟩ (.int .i64 a2)).setCell ⟨y,13,none⟩ (.slice A2 n2 d2)).heap[g]? = w4.heap[g]?:=fun g hg=>(Below.heap_setCell _ ⟨y,13,none⟩ _ g hg).trans ((Below.heap_setCell _ ⟨y,12,none⟩ _ g hg).trans ((Below.heap_setCell _ ⟨y,11,none⟩ _ g hg).trans ((Below.heap_setCell _ ⟨y,10,none⟩ _ g hg).trans (Below.heap_setCell _ ⟨y,9,none⟩ _ g hg))))
 have HP5:=hid (HP4.out.below (show p < y by omega) hb)
 have HY5:=hid (HY4.out.putB (Q5.mk o2 m2 t2 a2 A2 n2 d2))
 have HK5:=hid (HK4.out.trans (Kx.of hb (Nat.le_refl _)))
 have hs5:=Nat.le_trans hs4 hb.size
 have hg5:=Nat.le_trans hg4 hb.size
 have HA5:=hid ((HA4.out.keep (fun g hg=>hf g (by have:=hg.1;omega))).mono (fun g hg=>(⟨hg.1,Nat.lt_of_lt_of_le hg.2 hb.size⟩ : Fr w0 (((((w4.setCell ⟨y,9,none⟩ (.string o2)).setCell ⟨y,10,none⟩ (.int .i64 m2)).setCell ⟨y,11,none⟩ (.string t2)).setCell ⟨y,12,none⟩ (.int .i64 a2)).setCell ⟨y,13,none⟩ (.slice A2 n2 d2)) g)))
 have HB5:=hid ((HN.out.keep (fun g hg=>hf g (by have:=hg.1;omega))).mono (fun g hg=>(⟨hg.1,Nat.lt_of_lt_of_le hg.2 hb.size⟩ : Fr w0 (((((w4.setCell ⟨y,9,none⟩ (.string o2)).setCell ⟨y,10,none⟩ (.int .i64 m2)).setCell ⟨y,11,none⟩ (.string t2)).setCell ⟨y,12,none⟩ (.int .i64 a2)).setCell ⟨y,13,none⟩ (.slice A2 n2 d2)) g)))
 have HC5:=hid ((HC4.out.keep (fun g hg=>hf g (by have:=hg.1;omega))).mono (fun g hg=>(⟨hg.1,Nat.lt_of_lt_of_le hg.2 hb.size⟩ : Fr w0 (((((w4.setCell ⟨y,9,none⟩ (.string o2)).setCell ⟨y,10,none⟩ (.int .i64 m2)).setCell ⟨y,11,none⟩ (.string t2)).setCell ⟨y,12,none⟩ (.int .i64 a2)).setCell ⟨y,13,none⟩ (.slice A2 n2 d2)) g)))
 have HR5:=hid ((HR4.out.keep (fun g hg=>hf g (by have:=hg.1;omega))).mono (fun g hg=>(⟨hg.1,Nat.lt_of_lt_of_le hg.2 hb.size⟩ : Fr w0 (((((w4.setCell ⟨y,9,none⟩ (.string o2)).setCell ⟨y,10,none⟩ (.int .i64 m2)).setCell ⟨y,11,none⟩ (.string t2)).setCell ⟨y,12,none⟩ (.int .i64 a2)).setCell ⟨y,13,none⟩ (.slice A2 n2 d2)) g)))
 clear hb hf g0 l0 g1 l1 g2 l2 g3 l3 g4 l4 HP4 HY4 HK4 HA4 HB4 HC4 HR4 HN
 generalize (((((w4.setCell ⟨y,9,none⟩ (.string o2)).setCell ⟨y,10,none⟩ (.int .i64 m2)).setCell ⟨y,11,none⟩ (.string t2)).setCell ⟨y,12,none⟩ (.int .i64 a2)).setCell ⟨y,13,none⟩ (.slice A2 n2 d2)) = w5 at *
 go_wp2_with fail
 refine (show Calls Tryd.prog 32 #[.pointer (some ⟨p,0,none⟩),.string ⟨#[115,101,110,100]⟩] w5 _ from take_any p q b 0 s2 kSend w5 HP5.out).mono ?_
 rintro e w6 ⟨rfl,hp6,hk6⟩
 have HP6:=hid hp6
 clear hp6 HP5
 have HY6:=hid (HY5.out.far (hk6.block y (by omega) (by omega) (by omega)))
 have HK6:=hid (HK5.out.trans (hk6.least (by omega)))
 have hs6 : y + 1 ≤ w6.heap.size:=Nat.le_trans hs5 hk6.size
 have hg6 : w0.heap.size ≤ w6.heap.size:=Nat.le_trans hg5 hk6.size
 have HA6:=hid ((HA5.out.keep (fun g hg=>hk6.block g hg.2 (by have:=hg.1;omega) (by have:=hg.1;omega))).mono (fun g hg=>(⟨hg.1,Nat.lt_of_lt_of_le hg.2 hk6.size⟩ : Fr w0 w6 g)))
 have HB6:=hid ((HB5.out.keep (fun g hg=>hk6.block g hg.2 (by have:=hg.1;omega) (by have:=hg.1;omega))).mono (fun g hg=>(⟨hg.1,Nat.lt_of_lt_of_le hg.2 hk6.size⟩ : Fr w0 w6 g)))
 have HC6:=hid ((HC5.out.keep (fun g hg=>hk6.block g hg.2 (by have:=hg.1;omega) (by have:=hg.1;omega))).mono (fun g hg=>(⟨hg.1,Nat.lt_of_lt_of_le hg.2 hk6.size⟩ : Fr w0 w6 g)))
 have HR6:=hid ((HR5.out.keep (fun g hg=>hk6.block g hg.2 (by have:=hg.1;omega) (by have:=hg.1;omega))).mono (fun g hg=>(⟨hg.1,Nat.lt_of_lt_of_le hg.2 hk6.size⟩ : Fr w0 w6 g)))
 clear hk6 HY5 HK5 HA5 HB5 HC5 HR5
 go_wp2_with fail
 refine (expr_any p q b 0 (takeS s2 kSend) w6 HP6.out (fun _=>by decide)).mono ?_
 rintro e w7 ⟨x3,s3,o3,t3,m3,a3,A3,n3,d3,hr3,rfl,htr,hp7,hk7⟩
 have HP7:=hid hp7
 have HN:=hid (htr.mono (fun g hg=>(⟨Nat.le_trans hg6 hg.1,hg.2⟩ : Fr w0 w7 g)))
 clear hp7 htr HP6
 have HY7:=hid (HY6.out.far (hk7.block y (by omega) (by omega) (by omega)))
 have HK7:=hid (HK6.out.trans (hk7.least (by omega)))
 have hs7 : y + 1 ≤ w7.heap.size:=Nat.le_trans hs6 hk7.size
 have hg7 : w0.heap.size ≤ w7.heap.size:=Nat.le_trans hg6 hk7.size
 have HA7:=hid ((HA6.out.keep (fun g hg=>hk7.block g hg.2 (by have:=hg.1;omega) (by have:=hg.1;omega))).mono (fun g hg=>(⟨hg.1,Nat.lt_of_lt_of_le hg.2 hk7.size⟩ : Fr w0 w7 g)))
 have HB7:=hid ((HB6.out.keep (fun g hg=>hk7.block g hg.2 (by have:=hg.1;omega) (by have:=hg.1;omega))).mono (fun g hg=>(⟨hg.1,Nat.lt_of_lt_of_le hg.2 hk7.size⟩ : Fr w0 w7 g)))
 have HC7:=hid ((HC6.out.keep (fun g hg=>hk7.block g hg.2 (by have:=hg.1;omega) (by have:=hg.1;omega))).mono (fun g hg=>(⟨hg.1,Nat.lt_of_lt_of_le hg.2 hk7.size⟩ : Fr w0 w7 g)))
 have HR7:=hid ((HR6.out.keep (fun g hg=>hk7.block g hg.2 (by have:=hg.1;omega) (by have:=hg.1;omega))).mono (fun g hg=>(⟨hg.1,Nat.lt_of_lt_of_le hg.2 hk7.size⟩ : Fr w0 w7 g)))
 clear hk7 HY6 HK6 HA6 HB6 HC6 HR6
 obtain ⟨v0,g0⟩ : ∃ v,w7.cell? ⟨y,14,none⟩ = some v:=⟨_,HY7.out.cell 14⟩
 have l0:=HY7.out.free 14
 obtain ⟨v1,g1⟩ : ∃ v,w7.cell? ⟨y,15,none⟩ = some v:=⟨_,HY7.out.cell 15⟩
 have l1:=HY7.out.free 15
 obtain ⟨v2,g2⟩ : ∃ v,w7.cell? ⟨y,16,none⟩ = some v:=⟨_,HY7.out.cell 16⟩
 have l2:=HY7.out.free 16
 obtain ⟨v3,g3⟩ : ∃ v,w7.cell? ⟨y,17,none⟩ = some v:=⟨_,HY7.out.cell 17⟩
 have l3:=HY7.out.free 17
 obtain ⟨v4,g4⟩ : ∃ v,w7.cell? ⟨y,18,none⟩ = some v:=⟨_,HY7.out.cell 18⟩
 have l4:=HY7.out.free 18
 go_upto_region 24 with fail
 have hb : Below y w7 (((((w7.setCell ⟨y,14,none⟩ (.string o3)).setCell ⟨y,15,none⟩ (.int .i64 m3)).setCell ⟨y,16,none⟩ (.string t3)).setCell ⟨y,17,none⟩ (.int .i64 a3)).setCell ⟨y,18,none⟩ (.slice A3 n3 d3)):=((((((Below.refl y w7).setCell (p:=⟨y,14,none⟩) (Nat.le_refl _) _).setCell (p:=⟨y,15,none⟩) (Nat.le_refl _) _).setCell (p:=⟨y,16,none⟩) (Nat.le_refl _) _).setCell (p:=⟨y,17,none⟩) (Nat.le_refl _) _).setCell (p:=⟨y,18,none⟩) (Nat.le_refl _) _)
 have hf : ∀ g,g ≠ y → (((((w7.setCell ⟨y,14,none⟩ (.string o3)).setCell ⟨y,15,none⟩ (.int .i64 m3)).setCell ⟨y,16,none⟩ (.string t3)).setCell ⟨y,17,none⟩ (.int .i64 a3)).setCell ⟨y,18,none⟩ (.slice A3 n3 d3)).heap[g]? = w7.heap[g]?:=fun g hg=>(Below.heap_setCell _ ⟨y,18,none⟩ _ g hg).trans ((Below.heap_setCell _ ⟨y,17,none⟩ _ g hg).trans ((Below.heap_setCell _ ⟨y,16,none⟩ _ g hg).trans ((Below.heap_setCell _ ⟨y,15,none⟩ _ g hg).trans (Below.heap_setCell _ ⟨y,14,none⟩ _ g hg))))
 have HP8:=hid (HP7.out.below (show p < y by omega) hb)
 have HY8:=hid (HY7.out.putC (Q5.mk o3 m3 t3 a3 A3 n3 d3))
 have HK8:=hid (HK7.out.trans (Kx.of hb (Nat.le_refl _)))
 have hs8:=Nat.le_trans hs7 hb.size
 have hg8:=Nat.le_trans hg7 hb.size
 have HA8:=hid ((HA7.out.keep (fun g hg=>hf g (by have:=hg.1;omega))).mono (fun g hg=>(⟨hg.1,Nat.lt_of_lt_of_le hg.2 hb.size⟩ : Fr w0 (((((w7.setCell ⟨y,14,none⟩ (.string o3)).setCell ⟨y,15,none⟩ (.int .i64 m3)).setCell ⟨y,16,none⟩ (.string t3)).setCell ⟨y,17,none⟩ (.int .i64 a3)).setCell ⟨y,18,none⟩ (.slice A3 n3 d3)) g)))
 have HB8:=hid ((HB7.out.keep (fun g hg=>hf g (by have:=hg.1;omega))).mono (fun g hg=>(⟨hg.1,Nat.lt_of_lt_of_le hg.2 hb.size⟩ : Fr w0 (((((w7.setCell ⟨y,14,none⟩ (.string o3)).setCell ⟨y,15,none⟩ (.int .i64 m3)).setCell ⟨y,16,none⟩ (.string t3)).setCell ⟨y,17,none⟩ (.int .i64 a3)).setCell ⟨y,18,none⟩ (.slice A3 n3 d3)) g)))
 have HC8:=hid ((HN.out.keep (fun g hg=>hf g (by have:=hg.1;omega))).mono (fun g hg=>(⟨hg.1,Nat.lt_of_lt_of_le hg.2 hb.size⟩ : Fr w0 (((((w7.setCell ⟨y,14,none⟩ (.string o3)).setCell ⟨y,15,none⟩ (.int .i64 m3)).setCell ⟨y,16,none⟩ (.string t3)).setCell ⟨y,17,none⟩ (.int .i64 a3)).setCell ⟨y,18,none⟩ (.slice A3 n3 d3)) g)))
 have HR8:=hid ((HR7.out.keep (fun g hg=>hf g (by have:=hg.1;omega))).mono (fun g hg=>(⟨hg.1,Nat.lt_of_lt_of_le hg.2 hb.size⟩ : Fr w0 (((((w7.setCell ⟨y,14,none⟩ (.string o3)).setCell ⟨y,15,none⟩ (.int .i64 m3)).setCell ⟨y,16,none⟩ (.string t3)).setCell ⟨y,17,none⟩ (.int .i64 a3)).setCell ⟨y,18,none⟩ (.slice A3 n3 d3)) g)))
 clear hb hf g0 l0 g1 l1 g2 l2 g3 l3 g4 l4 HP7 HY7 HK7 HA7 HB7 HC7 HR7 HN
 generalize (((((w7.setCell ⟨y,14,none⟩ (.string o3)).setCell ⟨y,15,none⟩ (.int .i64 m3)).setCell ⟨y,16,none⟩ (.string t3)).setCell ⟨y,17,none⟩ (.int .i64 a3)).setCell ⟨y,18,none⟩ (.slice A3 n3 d3)) = w8 at *
 go_wp2_with fail
 refine (via_any p q b 0 false s3 w8 HP8.out).mono ?_
 rintro e w9 ⟨l4,s4,A4,n4,d4,rs4,hr4,rfl,⟨hv1,hv2,hv3⟩,hp9,hk9⟩
 have HP9:=hid hp9
 have HN:=hid (show RtV (Fr w0 w9) w9 l4 ⟨A4,n4,d4⟩ from ⟨rs4,hv1,hv2.mono (fun g hg=>⟨Nat.le_trans hg8 hg.1,hg.2⟩),hv3⟩)
 clear hp9 hv1 hv2 hv3 HP8
 have HY9:=hid (HY8.out.far (hk9.block y (by omega) (by omega) (by omega)))
 have HK9:=hid (HK8.out.trans (hk9.least (by omega)))
 have hs9 : y + 1 ≤ w9.heap.size:=Nat.le_trans hs8 hk9.size
 have hg9 : w0.heap.size ≤ w9.heap.size:=Nat.le_trans hg8 hk9.size
 have HA9:=hid ((HA8.out.keep (fun g hg=>hk9.block g hg.2 (by have:=hg.1;omega) (by have:=hg.1;omega))).mono (fun g hg=>(⟨hg.1,Nat.lt_of_lt_of_le hg.2 hk9.size⟩ : Fr w0 w9 g)))
 have HB9:=hid ((HB8.out.keep (fun g hg=>hk9.block g hg.2 (by have:=hg.1;omega) (by have:=hg.1;omega))).mono (fun g hg=>(⟨hg.1,Nat.lt_of_lt_of_le hg.2 hk9.size⟩ : Fr w0 w9 g)))
 have HC9:=hid ((HC8.out.keep (fun g hg=>hk9.block g hg.2 (by have:=hg.1;omega) (by have:=hg.1;omega))).mono (fun g hg=>(⟨hg.1,Nat.lt_of_lt_of_le hg.2 hk9.size⟩ : Fr w0 w9 g)))
 have HR9:=hid ((HR8.out.keep (fun g hg=>hk9.block g hg.2 (by have:=hg.1;omega) (by have:=hg.1;omega))).mono (fun g hg=>(⟨hg.1,Nat.lt_of_lt_of_le hg.2 hk9.size⟩ : Fr w0 w9 g)))
 clear hk9 HY8 HK8 HA8 HB8 HC8 HR8
 obtain ⟨v0,g0⟩ : ∃ v,w9.cell? ⟨y,19,none⟩ = some v:=⟨_,HY9.out.cell 19⟩
 have l0:=HY9.out.free 19
 go_upto_region 25 with fail
 have hb : Below y w9 (w9.setCell ⟨y,19,none⟩ (.slice A4 n4 d4)):=((Below.refl y w9).setCell (p:=⟨y,19,none⟩) (Nat.le_refl _) _)
 have hf : ∀ g,g ≠ y → (w9.setCell ⟨y,19,none⟩ (.slice A4 n4 d4)).heap[g]? = w9.heap[g]?:=fun g hg=>Below.heap_setCell _ ⟨y,19,none⟩ _ g hg
 have HP10:=hid (HP9.out.below (show p < y by omega) hb)
 have HY10:=hid (HY9.out.putR (QS.mk A4 n4 d4))
 have HK10:=hid (HK9.out.trans (Kx.of hb (Nat.le_refl _)))
 have hs10:=Nat.le_trans hs9 hb.size
 have hg10:=Nat.le_trans hg9 hb.size
 have HA10:=hid ((HA9.out.keep (fun g hg=>hf g (by have:=hg.1;omega))).mono (fun g hg=>(⟨hg.1,Nat.lt_of_lt_of_le hg.2 hb.size⟩ : Fr w0 (w9.setCell ⟨y,19,none⟩ (.slice A4 n4 d4)) g)))
 have HB10:=hid ((HB9.out.keep (fun g hg=>hf g (by have:=hg.1;omega))).mono (fun g hg=>(⟨hg.1,Nat.lt_of_lt_of_le hg.2 hb.size⟩ : Fr w0 (w9.setCell ⟨y,19,none⟩ (.slice A4 n4 d4)) g)))
 have HC10:=hid ((HC9.out.keep (fun g hg=>hf g (by have:=hg.1;omega))).mono (fun g hg=>(⟨hg.1,Nat.lt_of_lt_of_le hg.2 hb.size⟩ : Fr w0 (w9.setCell ⟨y,19,none⟩ (.slice A4 n4 d4)) g)))
 have HR10:=hid ((HN.out.keep (fun g hg=>hf g (by have:=hg.1;omega))).mono (fun g hg=>(⟨hg.1,Nat.lt_of_lt_of_le hg.2 hb.size⟩ : Fr w0 (w9.setCell ⟨y,19,none⟩ (.slice A4 n4 d4)) g)))
 clear hb hf g0 l0 HP9 HY9 HK9 HA9 HB9 HC9 HR9 HN
 generalize (w9.setCell ⟨y,19,none⟩ (.slice A4 n4 d4)) = w10 at *
 go_wp2_with fail
 refine (tag_any p q b 0 s4 w10 HP10.out).mono ?_
 rintro e w11 ⟨⟨a5,rfl⟩,hp11,hk11⟩
 have HP11:=hid hp11
 clear hp11 HP10
 have HY11:=hid (HY10.out.far (hk11.block y (by omega) (by omega) (by omega)))
 have HK11:=hid (HK10.out.trans (hk11.least (by omega)))
 have hs11 : y + 1 ≤ w11.heap.size:=Nat.le_trans hs10 hk11.size
 have hg11 : w0.heap.size ≤ w11.heap.size:=Nat.le_trans hg10 hk11.size
 have HA11:=hid ((HA10.out.keep (fun g hg=>hk11.block g hg.2 (by have:=hg.1;omega) (by have:=hg.1;omega))).mono (fun g hg=>(⟨hg.1,Nat.lt_of_lt_of_le hg.2 hk11.size⟩ : Fr w0 w11 g)))
 have HB11:=hid ((HB10.out.keep (fun g hg=>hk11.block g hg.2 (by have:=hg.1;omega) (by have:=hg.1;omega))).mono (fun g hg=>(⟨hg.1,Nat.lt_of_lt_of_le hg.2 hk11.size⟩ : Fr w0 w11 g)))
 have HC11:=hid ((HC10.out.keep (fun g hg=>hk11.block g hg.2 (by have:=hg.1;omega) (by have:=hg.1;omega))).mono (fun g hg=>(⟨hg.1,Nat.lt_of_lt_of_le hg.2 hk11.size⟩ : Fr w0 w11 g)))
 have HR11:=hid ((HR10.out.keep (fun g hg=>hk11.block g hg.2 (by have:=hg.1;omega) (by have:=hg.1;omega))).mono (fun g hg=>(⟨hg.1,Nat.lt_of_lt_of_le hg.2 hk11.size⟩ : Fr w0 w11 g)))
 clear hk11 HY10 HK10 HA10 HB10 HC10 HR10
 obtain ⟨u5,hu5⟩ : ∃ u5,(tagS s4).1 = u5:=⟨_,rfl⟩
 rw [hu5]
 have HU5:=hid hu5
 clear hu5
 obtain ⟨v0,g0⟩ : ∃ v,w11.cell? ⟨y,22,none⟩ = some v:=⟨_,HY11.out.cell 22⟩
 have l0:=HY11.out.free 22
 obtain ⟨v1,g1⟩ : ∃ v,w11.cell? ⟨y,23,none⟩ = some v:=⟨_,HY11.out.cell 23⟩
 have l1:=HY11.out.free 23
 go_wp2_with fail
 have hb : Below y w11 ((w11.setCell ⟨y,22,none⟩ (.string (sb u5))).setCell ⟨y,23,none⟩ (.int .i64 a5)):=(((Below.refl y w11).setCell (p:=⟨y,22,none⟩) (Nat.le_refl _) _).setCell (p:=⟨y,23,none⟩) (Nat.le_refl _) _)
 have hf : ∀ g,g ≠ y → ((w11.setCell ⟨y,22,none⟩ (.string (sb u5))).setCell ⟨y,23,none⟩ (.int .i64 a5)).heap[g]? = w11.heap[g]?:=fun g hg=>(Below.heap_setCell _ ⟨y,23,none⟩ _ g hg).trans (Below.heap_setCell _ ⟨y,22,none⟩ _ g hg)
 have HP12:=hid (HP11.out.below (show p < y by omega) hb)
 have HY12:=hid (HY11.out.putTag (Q2.mk (sb u5) a5))
 have HK12:=hid (HK11.out.trans (Kx.of hb (Nat.le_refl _)))
 have hs12:=Nat.le_trans hs11 hb.size
 have hg12:=Nat.le_trans hg11 hb.size
 have HA12:=hid ((HA11.out.keep (fun g hg=>hf g (by have:=hg.1;omega))).mono (fun g hg=>(⟨hg.1,Nat.lt_of_lt_of_le hg.2 hb.size⟩ : Fr w0 ((w11.setCell ⟨y,22,none⟩ (.string (sb u5))).setCell ⟨y,23,none⟩ (.int .i64 a5)) g)))
 have HB12:=hid ((HB11.out.keep (fun g hg=>hf g (by have:=hg.1;omega))).mono (fun g hg=>(⟨hg.1,Nat.lt_of_lt_of_le hg.2 hb.size⟩ : Fr w0 ((w11.setCell ⟨y,22,none⟩ (.string (sb u5))).setCell ⟨y,23,none⟩ (.int .i64 a5)) g)))
 have HC12:=hid ((HC11.out.keep (fun g hg=>hf g (by have:=hg.1;omega))).mono (fun g hg=>(⟨hg.1,Nat.lt_of_lt_of_le hg.2 hb.size⟩ : Fr w0 ((w11.setCell ⟨y,22,none⟩ (.string (sb u5))).setCell ⟨y,23,none⟩ (.int .i64 a5)) g)))
 have HR12:=hid ((HR11.out.keep (fun g hg=>hf g (by have:=hg.1;omega))).mono (fun g hg=>(⟨hg.1,Nat.lt_of_lt_of_le hg.2 hb.size⟩ : Fr w0 ((w11.setCell ⟨y,22,none⟩ (.string (sb u5))).setCell ⟨y,23,none⟩ (.int .i64 a5)) g)))
 clear hb hf g0 l0 g1 l1 HP11 HY11 HK11 HA11 HB11 HC11 HR11
 generalize ((w11.setCell ⟨y,22,none⟩ (.string (sb u5))).setCell ⟨y,23,none⟩ (.int .i64 a5)) = w12 at *
 go_end0
 have hL:=LineR.retry hr1 hr2 hr3 hr4
 obtain ⟨rs,hv1,hv2,hv3⟩:=HR12.out
 exact ⟨_,_,⟨(sb kRetry),at0,Q2.zero,(Q5.mk o1 m1 t1 a1 A1 n1 d1),(Q5.mk o2 m2 t2 a2 A2 n2 d2),(Q5.mk o3 m3 t3 a3 A3 n3 d3),(QS.mk A4 n4 d4),Q2.zero,(Q2.mk (sb u5) a5),QS.zero,QS.zero⟩,hL,rfl,HY12.out,StV.cons rfl rfl HA12.out HB12.out HC12.out ⟨hv1,hv2,hv3⟩ rfl (by rw [HU5.out]) .nil ⟨RP.none_,Nat.le_refl _⟩ .nil ⟨RP.none_,Nat.le_refl _⟩ .nil,HP12.out,HK12.out,hg12⟩
set_option maxRecDepth 100000 in
theorem line_every (p q b y : Nat) (at0 : Int) (s : PS) (w0 : World) (h : Ps w0 p q s b 0) (hy : SB w0 y (SC.start kEvery at0)) (hpy : p < y) :
   Calls Tryd.prog 39 #[.pointer (some ⟨p,0,none⟩),.pointer (some ⟨y,0,none⟩)] w0 (LinePost p q b y kEvery s w0):=by
 have hqp:=h.lt
 have HP0:=hid h
 have HY0:=hid (show SB w0 y ⟨sb kEvery,at0,.zero,.zero,.zero,.zero,.zero,.zero,.zero,.zero,.zero⟩ from hy)
 have HK0:=hid (show Kx q p y w0 w0 from Kx.refl)
 have hs0 : y + 1 ≤ w0.heap.size:=(Array.getElem?_eq_some_iff.1 hy).1
 have hg0 : w0.heap.size ≤ w0.heap.size:=Nat.le_refl _
 have HA0:=hid (show TrV (Fr w0 w0) w0 [.none] [Q5.zero.cells] from TrV.leaf .none rfl 0)
 have HB0:=HA0
 have HC0:=HA0
 have HR0:=hid (show RtV (Fr w0 w0) w0 [] .zero from .zero)
 have k0 : w0.cell? ⟨y,0,none⟩ = some (.string ⟨#[101,118,101,114,121]⟩):=hy.cell 0
 clear h hy
 go_enter Tryd.func39,Tryd.ntmps39
 go_wp2_with fail
 refine (expr_any p q b 0 s w0 HP0.out (fun _=>by decide)).mono ?_
 rintro e w1 ⟨x1,s1,o1,t1,m1,a1,A1,n1,d1,hr1,rfl,htr,hp1,hk1⟩
 have HP1:=hid hp1
 have HN:=hid (htr.mono (fun g hg=>(⟨Nat.le_trans hg0 hg.1,hg.2⟩ : Fr w0 w1 g)))
 clear hp1 htr HP0
 have HY1:=hid (HY0.out.far (hk1.block y (by omega) (by omega) (by omega)))
 have HK1:=hid (HK0.out.trans (hk1.least (by omega)))
 have hs1 : y + 1 ≤ w1.heap.size:=Nat.le_trans hs0 hk1.size
 have hg1 : w0.heap.size ≤ w1.heap.size:=Nat.le_trans hg0 hk1.size
 have HA1:=hid ((HA0.out.keep (fun g hg=>hk1.block g hg.2 (by have:=hg.1;omega) (by have:=hg.1;omega))).mono (fun g hg=>(⟨hg.1,Nat.lt_of_lt_of_le hg.2 hk1.size⟩ : Fr w0 w1 g)))
 have HB1:=hid ((HB0.out.keep (fun g hg=>hk1.block g hg.2 (by have:=hg.1;omega) (by have:=hg.1;omega))).mono (fun g hg=>(⟨hg.1,Nat.lt_of_lt_of_le hg.2 hk1.size⟩ : Fr w0 w1 g)))
 have HC1:=hid ((HC0.out.keep (fun g hg=>hk1.block g hg.2 (by have:=hg.1;omega) (by have:=hg.1;omega))).mono (fun g hg=>(⟨hg.1,Nat.lt_of_lt_of_le hg.2 hk1.size⟩ : Fr w0 w1 g)))
 have HR1:=hid ((HR0.out.keep (fun g hg=>hk1.block g hg.2 (by have:=hg.1;omega) (by have:=hg.1;omega))).mono (fun g hg=>(⟨hg.1,Nat.lt_of_lt_of_le hg.2 hk1.size⟩ : Fr w0 w1 g)))
 clear hk1 HY0 HK0 HA0 HB0 HC0 HR0
 obtain ⟨v0,g0⟩ : ∃ v,w1.cell? ⟨y,4,none⟩ = some v:=⟨_,HY1.out.cell 4⟩
 have l0:=HY1.out.free 4
 obtain ⟨v1,g1⟩ : ∃ v,w1.cell? ⟨y,5,none⟩ = some v:=⟨_,HY1.out.cell 5⟩
 have l1:=HY1.out.free 5
 obtain ⟨v2,g2⟩ : ∃ v,w1.cell? ⟨y,6,none⟩ = some v:=⟨_,HY1.out.cell 6⟩
 have l2:=HY1.out.free 6
 obtain ⟨v3,g3⟩ : ∃ v,w1.cell? ⟨y,7,none⟩ = some v:=⟨_,HY1.out.cell 7⟩
 have l3:=HY1.out.free 7
 obtain ⟨v4,g4⟩ : ∃ v,w1.cell? ⟨y,8,none⟩ = some v:=⟨_,HY1.out.cell 8⟩
 have l4:=HY1.out.free 8
 go_upto_region 28 with fail
 have hb : Below y w1 (((((w1.setCell ⟨y,4,none⟩ (.string o1)).setCell ⟨y,5,none⟩ (.int .i64 m1)).setCell ⟨y,6,none⟩ (.string t1)).setCell ⟨y,7,none⟩ (.int .i64 a1)).setCell ⟨y,8,none⟩ (.slice A1 n1 d1)):=((((((Below.refl y w1).setCell (p:=⟨y,4,none⟩) (Nat.le_refl _) _).setCell (p:=⟨y,5,none⟩) (Nat.le_refl _) _).setCell (p:=⟨y,6,none⟩) (Nat.le_refl _) _).setCell (p:=⟨y,7,none⟩) (Nat.le_refl _) _).setCell (p:=⟨y,8,none⟩) (Nat.le_refl _) _)
 have hf : ∀ g,g ≠ y → (((((w1.setCell ⟨y,4,none⟩ (.string o1)).setCell ⟨y,5,none⟩ (.int .i64 m1)).setCell ⟨y,6,none⟩ (.string t1)).setCell ⟨y,7,none⟩ (.int .i64 a1)).setCell ⟨y,8,none⟩ (.slice A1 n1 d1)).heap[g]? = w1.heap[g]?:=fun g hg=>(Below.heap_setCell _ ⟨y,8,none⟩ _ g hg).trans ((Below.heap_setCell _ ⟨y,7,none⟩ _ g hg).trans ((Below.heap_setCell _ ⟨y,6,none⟩ _ g hg).trans ((Below.heap_setCell _ ⟨y,5,none⟩ _ g hg).trans (Below.heap_setCell _ ⟨y,4,none⟩ _ g hg))))
 have HP2:=hid (HP1.out.below (show p < y by omega) hb)
 have HY2:=hid (HY1.out.putA (Q5.mk o1 m1 t1 a1 A1 n1 d1))
 have HK2:=hid (HK1.out.trans (Kx.of hb (Nat.le_refl _)))
 have hs2:=Nat.le_trans hs1 hb.size
 have hg2:=Nat.le_trans hg1 hb.size
 have HA2:=hid ((HN.out.keep (fun g hg=>hf g (by have:=hg.1;omega))).mono (fun g hg=>(⟨hg.1,Nat.lt_of_lt_of_le hg.2 hb.size⟩ : Fr w0 (((((w1.setCell ⟨y,4,none⟩ (.string o1)).setCell ⟨y,5,none⟩ (.int .i64 m1)).setCell ⟨y,6,none⟩ (.string t1)).setCell ⟨y,7,none⟩ (.int .i64 a1)).setCell ⟨y,8,none⟩ (.slice A1 n1 d1)) g)))
 have HB2:=hid ((HB1.out.keep (fun g hg=>hf g (by have:=hg.1;omega))).mono (fun g hg=>(⟨hg.1,Nat.lt_of_lt_of_le hg.2 hb.size⟩ : Fr w0 (((((w1.setCell ⟨y,4,none⟩ (.string o1)).setCell ⟨y,5,none⟩ (.int .i64 m1)).setCell ⟨y,6,none⟩ (.string t1)).setCell ⟨y,7,none⟩ (.int .i64 a1)).setCell ⟨y,8,none⟩ (.slice A1 n1 d1)) g)))
 have HC2:=hid ((HC1.out.keep (fun g hg=>hf g (by have:=hg.1;omega))).mono (fun g hg=>(⟨hg.1,Nat.lt_of_lt_of_le hg.2 hb.size⟩ : Fr w0 (((((w1.setCell ⟨y,4,none⟩ (.string o1)).setCell ⟨y,5,none⟩ (.int .i64 m1)).setCell ⟨y,6,none⟩ (.string t1)).setCell ⟨y,7,none⟩ (.int .i64 a1)).setCell ⟨y,8,none⟩ (.slice A1 n1 d1)) g)))
 have HR2:=hid ((HR1.out.keep (fun g hg=>hf g (by have:=hg.1;omega))).mono (fun g hg=>(⟨hg.1,Nat.lt_of_lt_of_le hg.2 hb.size⟩ : Fr w0 (((((w1.setCell ⟨y,4,none⟩ (.string o1)).setCell ⟨y,5,none⟩ (.int .i64 m1)).setCell ⟨y,6,none⟩ (.string t1)).setCell ⟨y,7,none⟩ (.int .i64 a1)).setCell ⟨y,8,none⟩ (.slice A1 n1 d1)) g)))
 clear hb hf g0 l0 g1 l1 g2 l2 g3 l3 g4 l4 HP1 HY1 HK1 HA1 HB1 HC1 HR1 HN
 generalize (((((w1.setCell ⟨y,4,none⟩ (.string o1)).setCell ⟨y,5,none⟩ (.int .i64 m1)).setCell ⟨y,6,none⟩ (.string t1)).setCell ⟨y,7,none⟩ (.int .i64 a1)).setCell ⟨y,8,none⟩ (.slice A1 n1 d1)) = w2 at *
 go_wp2_with fail
 refine (show Calls Tryd.prog 32 #[.pointer (some ⟨p,0,none⟩),.string ⟨#[116,105,109,101,115]⟩] w2 _ from take_any p q b 0 s1 kTimes w2 HP2.out).mono ?_
 rintro e w3 ⟨rfl,hp3,hk3⟩
 have HP3:=hid hp3
 clear hp3 HP2
 have HY3:=hid (HY2.out.far (hk3.block y (by omega) (by omega) (by omega)))
 have HK3:=hid (HK2.out.trans (hk3.least (by omega)))
 have hs3 : y + 1 ≤ w3.heap.size:=Nat.le_trans hs2 hk3.size
 have hg3 : w0.heap.size ≤ w3.heap.size:=Nat.le_trans hg2 hk3.size
 have HA3:=hid ((HA2.out.keep (fun g hg=>hk3.block g hg.2 (by have:=hg.1;omega) (by have:=hg.1;omega))).mono (fun g hg=>(⟨hg.1,Nat.lt_of_lt_of_le hg.2 hk3.size⟩ : Fr w0 w3 g)))
 have HB3:=hid ((HB2.out.keep (fun g hg=>hk3.block g hg.2 (by have:=hg.1;omega) (by have:=hg.1;omega))).mono (fun g hg=>(⟨hg.1,Nat.lt_of_lt_of_le hg.2 hk3.size⟩ : Fr w0 w3 g)))
 have HC3:=hid ((HC2.out.keep (fun g hg=>hk3.block g hg.2 (by have:=hg.1;omega) (by have:=hg.1;omega))).mono (fun g hg=>(⟨hg.1,Nat.lt_of_lt_of_le hg.2 hk3.size⟩ : Fr w0 w3 g)))
 have HR3:=hid ((HR2.out.keep (fun g hg=>hk3.block g hg.2 (by have:=hg.1;omega) (by have:=hg.1;omega))).mono (fun g hg=>(⟨hg.1,Nat.lt_of_lt_of_le hg.2 hk3.size⟩ : Fr w0 w3 g)))
 clear hk3 HY2 HK2 HA2 HB2 HC2 HR2
 go_wp2_with fail
 refine (expr_any p q b 0 (takeS s1 kTimes) w3 HP3.out (fun _=>by decide)).mono ?_
 rintro e w4 ⟨x2,s2,o2,t2,m2,a2,A2,n2,d2,hr2,rfl,htr,hp4,hk4⟩
 have HP4:=hid hp4
 have HN:=hid (htr.mono (fun g hg=>(⟨Nat.le_trans hg3 hg.1,hg.2⟩ : Fr w0 w4 g)))
 clear hp4 htr HP3
 have HY4:=hid (HY3.out.far (hk4.block y (by omega) (by omega) (by omega)))
 have HK4:=hid (HK3.out.trans (hk4.least (by omega)))
 have hs4 : y + 1 ≤ w4.heap.size:=Nat.le_trans hs3 hk4.size
 have hg4 : w0.heap.size ≤ w4.heap.size:=Nat.le_trans hg3 hk4.size
 have HA4:=hid ((HA3.out.keep (fun g hg=>hk4.block g hg.2 (by have:=hg.1;omega) (by have:=hg.1;omega))).mono (fun g hg=>(⟨hg.1,Nat.lt_of_lt_of_le hg.2 hk4.size⟩ : Fr w0 w4 g)))
 have HB4:=hid ((HB3.out.keep (fun g hg=>hk4.block g hg.2 (by have:=hg.1;omega) (by have:=hg.1;omega))).mono (fun g hg=>(⟨hg.1,Nat.lt_of_lt_of_le hg.2 hk4.size⟩ : Fr w0 w4 g)))
 have HC4:=hid ((HC3.out.keep (fun g hg=>hk4.block g hg.2 (by have:=hg.1;omega) (by have:=hg.1;omega))).mono (fun g hg=>(⟨hg.1,Nat.lt_of_lt_of_le hg.2 hk4.size⟩ : Fr w0 w4 g)))
 have HR4:=hid ((HR3.out.keep (fun g hg=>hk4.block g hg.2 (by have:=hg.1;omega) (by have:=hg.1;omega))).mono (fun g hg=>(⟨hg.1,Nat.lt_of_lt_of_le hg.2 hk4.size⟩ : Fr w0 w4 g)))
 clear hk4 HY3 HK3 HA3 HB3 HC3 HR3
 obtain ⟨v0,g0⟩ : ∃ v,w4.cell? ⟨y,9,none⟩ = some v:=⟨_,HY4.out.cell 9⟩
 have l0:=HY4.out.free 9
 obtain ⟨v1,g1⟩ : ∃ v,w4.cell? ⟨y,10,none⟩ = some v:=⟨_,HY4.out.cell 10⟩
 have l1:=HY4.out.free 10
 obtain ⟨v2,g2⟩ : ∃ v,w4.cell? ⟨y,11,none⟩ = some v:=⟨_,HY4.out.cell 11⟩
 have l2:=HY4.out.free 11
 obtain ⟨v3,g3⟩ : ∃ v,w4.cell? ⟨y,12,none⟩ = some v:=⟨_,HY4.out.cell 12⟩
 have l3:=HY4.out.free 12
 obtain ⟨v4,g4⟩ : ∃ v,w4.cell? ⟨y,13,none⟩ = some v:=⟨_,HY4.out.cell 13⟩
 have l4:=HY4.out.free 13
 go_upto_region 30 with fail
 have hb : Below y w4 (((((w4.setCell ⟨y,9,none⟩ (.string o2)).setCell ⟨y,10,none⟩ (.int .i64 m2)).setCell ⟨y,11,none⟩ (.string t2)).setCell ⟨y,12,none⟩ (.int .i64 a2)).setCell ⟨y,13,none⟩ (.slice A2 n2 d2)):=((((((Below.refl y w4).setCell (p:=⟨y,9,none⟩) (Nat.le_refl _) _).setCell (p:=⟨y,10,none⟩) (Nat.le_refl _) _).setCell (p:=⟨y,11,none⟩) (Nat.le_refl _) _).setCell (p:=⟨y,12,none⟩) (Nat.le_refl _) _).setCell (p:=⟨y,13,none⟩) (Nat.le_refl _) _)
 have hf : ∀ g,g ≠ y → (((((w4.setCell ⟨y,9,none⟩ (.string o2)).setCell ⟨y,10,none⟩ (.int .i64 m2)).setCell ⟨y,11,none⟩ (.string t2)).setCell ⟨y,12,none⟩ (.int .i64 a2)).setCell ⟨y,13,none⟩ (.slice A2 n2 d2)).heap[g]? = w4.heap[g]?:=fun g hg=>(Below.heap_setCell _ ⟨y,13,none⟩ _ g hg).trans ((Below.heap_setCell _ ⟨y,12,none⟩ _ g hg).trans ((Below.heap_setCell _ ⟨y,11,none⟩ _ g hg).trans ((Below.heap_setCell _ ⟨y,10,none⟩ _ g hg).trans (Below.heap_setCell _ ⟨y,9,none⟩ _ g hg))))
 have HP5:=hid (HP4.out.below (show p < y by omega) hb)
 have HY5:=hid (HY4.out.putB (Q5.mk o2 m2 t2 a2 A2 n2 d2))
 have HK5:=hid (HK4.out.trans (Kx.of hb (Nat.le_refl _)))
 have hs5:=Nat.le_trans hs4 hb.size
 have hg5:=Nat.le_trans hg4 hb.size
 have HA5:=hid ((HA4.out.keep (fun g hg=>hf g (by have:=hg.1;omega))).mono (fun g hg=>(⟨hg.1,Nat.lt_of_lt_of_le hg.2 hb.size⟩ : Fr w0 (((((w4.setCell ⟨y,9,none⟩ (.string o2)).setCell ⟨y,10,none⟩ (.int .i64 m2)).setCell ⟨y,11,none⟩ (.string t2)).setCell ⟨y,12,none⟩ (.int .i64 a2)).setCell ⟨y,13,none⟩ (.slice A2 n2 d2)) g)))
 have HB5:=hid ((HN.out.keep (fun g hg=>hf g (by have:=hg.1;omega))).mono (fun g hg=>(⟨hg.1,Nat.lt_of_lt_of_le hg.2 hb.size⟩ : Fr w0 (((((w4.setCell ⟨y,9,none⟩ (.string o2)).setCell ⟨y,10,none⟩ (.int .i64 m2)).setCell ⟨y,11,none⟩ (.string t2)).setCell ⟨y,12,none⟩ (.int .i64 a2)).setCell ⟨y,13,none⟩ (.slice A2 n2 d2)) g)))
 have HC5:=hid ((HC4.out.keep (fun g hg=>hf g (by have:=hg.1;omega))).mono (fun g hg=>(⟨hg.1,Nat.lt_of_lt_of_le hg.2 hb.size⟩ : Fr w0 (((((w4.setCell ⟨y,9,none⟩ (.string o2)).setCell ⟨y,10,none⟩ (.int .i64 m2)).setCell ⟨y,11,none⟩ (.string t2)).setCell ⟨y,12,none⟩ (.int .i64 a2)).setCell ⟨y,13,none⟩ (.slice A2 n2 d2)) g)))
 have HR5:=hid ((HR4.out.keep (fun g hg=>hf g (by have:=hg.1;omega))).mono (fun g hg=>(⟨hg.1,Nat.lt_of_lt_of_le hg.2 hb.size⟩ : Fr w0 (((((w4.setCell ⟨y,9,none⟩ (.string o2)).setCell ⟨y,10,none⟩ (.int .i64 m2)).setCell ⟨y,11,none⟩ (.string t2)).setCell ⟨y,12,none⟩ (.int .i64 a2)).setCell ⟨y,13,none⟩ (.slice A2 n2 d2)) g)))
 clear hb hf g0 l0 g1 l1 g2 l2 g3 l3 g4 l4 HP4 HY4 HK4 HA4 HB4 HC4 HR4 HN
 generalize (((((w4.setCell ⟨y,9,none⟩ (.string o2)).setCell ⟨y,10,none⟩ (.int .i64 m2)).setCell ⟨y,11,none⟩ (.string t2)).setCell ⟨y,12,none⟩ (.int .i64 a2)).setCell ⟨y,13,none⟩ (.slice A2 n2 d2)) = w5 at *
 go_wp2_with fail
 refine (show Calls Tryd.prog 32 #[.pointer (some ⟨p,0,none⟩),.string ⟨#[99,111,118,101,114]⟩] w5 _ from take_any p q b 0 s2 kCover w5 HP5.out).mono ?_
 rintro e w6 ⟨rfl,hp6,hk6⟩
 have HP6:=hid hp6
 clear hp6 HP5
 have HY6:=hid (HY5.out.far (hk6.block y (by omega) (by omega) (by omega)))
 have HK6:=hid (HK5.out.trans (hk6.least (by omega)))
 have hs6 : y + 1 ≤ w6.heap.size:=Nat.le_trans hs5 hk6.size
 have hg6 : w0.heap.size ≤ w6.heap.size:=Nat.le_trans hg5 hk6.size
 have HA6:=hid ((HA5.out.keep (fun g hg=>hk6.block g hg.2 (by have:=hg.1;omega) (by have:=hg.1;omega))).mono (fun g hg=>(⟨hg.1,Nat.lt_of_lt_of_le hg.2 hk6.size⟩ : Fr w0 w6 g)))
 have HB6:=hid ((HB5.out.keep (fun g hg=>hk6.block g hg.2 (by have:=hg.1;omega) (by have:=hg.1;omega))).mono (fun g hg=>(⟨hg.1,Nat.lt_of_lt_of_le hg.2 hk6.size⟩ : Fr w0 w6 g)))
 have HC6:=hid ((HC5.out.keep (fun g hg=>hk6.block g hg.2 (by have:=hg.1;omega) (by have:=hg.1;omega))).mono (fun g hg=>(⟨hg.1,Nat.lt_of_lt_of_le hg.2 hk6.size⟩ : Fr w0 w6 g)))
 have HR6:=hid ((HR5.out.keep (fun g hg=>hk6.block g hg.2 (by have:=hg.1;omega) (by have:=hg.1;omega))).mono (fun g hg=>(⟨hg.1,Nat.lt_of_lt_of_le hg.2 hk6.size⟩ : Fr w0 w6 g)))
 clear hk6 HY5 HK5 HA5 HB5 HC5 HR5
 go_wp2_with fail
 refine (ref_any p q b 0 (takeS s2 kCover) w6 HP6.out).mono ?_
 rintro e w7 ⟨⟨a3,rfl⟩,hp7,hk7⟩
 have HP7:=hid hp7
 clear hp7 HP6
 have HY7:=hid (HY6.out.far (hk7.block y (by omega) (by omega) (by omega)))
 have HK7:=hid (HK6.out.trans (hk7.least (by omega)))
 have hs7 : y + 1 ≤ w7.heap.size:=Nat.le_trans hs6 hk7.size
 have hg7 : w0.heap.size ≤ w7.heap.size:=Nat.le_trans hg6 hk7.size
 have HA7:=hid ((HA6.out.keep (fun g hg=>hk7.block g hg.2 (by have:=hg.1;omega) (by have:=hg.1;omega))).mono (fun g hg=>(⟨hg.1,Nat.lt_of_lt_of_le hg.2 hk7.size⟩ : Fr w0 w7 g)))
 have HB7:=hid ((HB6.out.keep (fun g hg=>hk7.block g hg.2 (by have:=hg.1;omega) (by have:=hg.1;omega))).mono (fun g hg=>(⟨hg.1,Nat.lt_of_lt_of_le hg.2 hk7.size⟩ : Fr w0 w7 g)))
 have HC7:=hid ((HC6.out.keep (fun g hg=>hk7.block g hg.2 (by have:=hg.1;omega) (by have:=hg.1;omega))).mono (fun g hg=>(⟨hg.1,Nat.lt_of_lt_of_le hg.2 hk7.size⟩ : Fr w0 w7 g)))
 have HR7:=hid ((HR6.out.keep (fun g hg=>hk7.block g hg.2 (by have:=hg.1;omega) (by have:=hg.1;omega))).mono (fun g hg=>(⟨hg.1,Nat.lt_of_lt_of_le hg.2 hk7.size⟩ : Fr w0 w7 g)))
 clear hk7 HY6 HK6 HA6 HB6 HC6 HR6
 obtain ⟨u3,hu3⟩ : ∃ u3,(refS (takeS s2 kCover)).1 = u3:=⟨_,rfl⟩
 rw [hu3]
 have HU3:=hid hu3
 clear hu3
 have hla : Below w7.heap.size w7 (w7.alloc (.cells #[.string (sb u3),.int .i64 a3] 52)):=(Below.refl _ w7).alloc (Nat.le_refl _) _
 have hl8 : (w7.alloc (.cells #[.string (sb u3),.int .i64 a3] 52)).heap.size = w7.heap.size + 1:=Array.size_push _
 have hk8 : Kx q p w7.heap.size w7 (w7.alloc (.cells #[.string (sb u3),.int .i64 a3] 52)):=Kx.of hla (Nat.le_refl _)
 have HP8:=hid (HP7.out.below HP7.out.size hla)
 have HN:=hid (RtV.lit (X:=Fr w0 (w7.alloc (.cells #[.string (sb u3),.int .i64 a3] 52))) (w:=(w7.alloc (.cells #[.string (sb u3),.int .i64 a3] 52))) (g:=w7.heap.size) u3 a3 (heap_alloc_new w7 _) ⟨hg7,by omega⟩)
 clear hla HP7
 obtain ⟨w8,hw8⟩ : ∃ w8,(w7.alloc (.cells #[.string (sb u3),.int .i64 a3] 52)) = w8:=⟨_,rfl⟩
 rw [hw8] at hk8 HP8 HN hl8
 have HY8:=hid (HY7.out.far (hk8.block y (by omega) (by omega) (by omega)))
 have HK8:=hid (HK7.out.trans (hk8.least (by omega)))
 have hs8 : y + 1 ≤ w8.heap.size:=Nat.le_trans hs7 hk8.size
 have hg8 : w0.heap.size ≤ w8.heap.size:=Nat.le_trans hg7 hk8.size
 have HA8:=hid ((HA7.out.keep (fun g hg=>hk8.block g hg.2 (by have:=hg.1;omega) (by have:=hg.1;omega))).mono (fun g hg=>(⟨hg.1,Nat.lt_of_lt_of_le hg.2 hk8.size⟩ : Fr w0 w8 g)))
 have HB8:=hid ((HB7.out.keep (fun g hg=>hk8.block g hg.2 (by have:=hg.1;omega) (by have:=hg.1;omega))).mono (fun g hg=>(⟨hg.1,Nat.lt_of_lt_of_le hg.2 hk8.size⟩ : Fr w0 w8 g)))
 have HC8:=hid ((HC7.out.keep (fun g hg=>hk8.block g hg.2 (by have:=hg.1;omega) (by have:=hg.1;omega))).mono (fun g hg=>(⟨hg.1,Nat.lt_of_lt_of_le hg.2 hk8.size⟩ : Fr w0 w8 g)))
 have HR8:=hid ((HR7.out.keep (fun g hg=>hk8.block g hg.2 (by have:=hg.1;omega) (by have:=hg.1;omega))).mono (fun g hg=>(⟨hg.1,Nat.lt_of_lt_of_le hg.2 hk8.size⟩ : Fr w0 w8 g)))
 clear hk8 HY7 HK7 HA7 HB7 HC7 HR7
 obtain ⟨v0,g0⟩ : ∃ v,w8.cell? ⟨y,19,none⟩ = some v:=⟨_,HY8.out.cell 19⟩
 have l0:=HY8.out.free 19
 go_wp2_with fail
 clear hw8
 have hb : Below y w8 (w8.setCell ⟨y,19,none⟩ (.slice (some ⟨w7.heap.size,0,none⟩) 1 1)):=((Below.refl y w8).setCell (p:=⟨y,19,none⟩) (Nat.le_refl _) _)
 have hf : ∀ g,g ≠ y → (w8.setCell ⟨y,19,none⟩ (.slice (some ⟨w7.heap.size,0,none⟩) 1 1)).heap[g]? = w8.heap[g]?:=fun g hg=>Below.heap_setCell _ ⟨y,19,none⟩ _ g hg
 have HP9:=hid (HP8.out.below (show p < y by omega) hb)
 have HY9:=hid (HY8.out.putR (QS.mk (some ⟨w7.heap.size,0,none⟩) 1 1))
 have HK9:=hid (HK8.out.trans (Kx.of hb (Nat.le_refl _)))
 have hs9:=Nat.le_trans hs8 hb.size
 have hg9:=Nat.le_trans hg8 hb.size
 have HA9:=hid ((HA8.out.keep (fun g hg=>hf g (by have:=hg.1;omega))).mono (fun g hg=>(⟨hg.1,Nat.lt_of_lt_of_le hg.2 hb.size⟩ : Fr w0 (w8.setCell ⟨y,19,none⟩ (.slice (some ⟨w7.heap.size,0,none⟩) 1 1)) g)))
 have HB9:=hid ((HB8.out.keep (fun g hg=>hf g (by have:=hg.1;omega))).mono (fun g hg=>(⟨hg.1,Nat.lt_of_lt_of_le hg.2 hb.size⟩ : Fr w0 (w8.setCell ⟨y,19,none⟩ (.slice (some ⟨w7.heap.size,0,none⟩) 1 1)) g)))
 have HC9:=hid ((HC8.out.keep (fun g hg=>hf g (by have:=hg.1;omega))).mono (fun g hg=>(⟨hg.1,Nat.lt_of_lt_of_le hg.2 hb.size⟩ : Fr w0 (w8.setCell ⟨y,19,none⟩ (.slice (some ⟨w7.heap.size,0,none⟩) 1 1)) g)))
 have HR9:=hid ((HN.out.keep (fun g hg=>hf g (by have:=hg.1;omega))).mono (fun g hg=>(⟨hg.1,Nat.lt_of_lt_of_le hg.2 hb.size⟩ : Fr w0 (w8.setCell ⟨y,19,none⟩ (.slice (some ⟨w7.heap.size,0,none⟩) 1 1)) g)))
 clear hb hf g0 l0 HP8 HY8 HK8 HA8 HB8 HC8 HR8 HN
 generalize (w8.setCell ⟨y,19,none⟩ (.slice (some ⟨w7.heap.size,0,none⟩) 1 1)) = w9 at *
 go_end0
 have hL:=LineR.every hr1 hr2
 obtain ⟨rs,hv1,hv2,hv3⟩:=HR9.out
 rw [← HU3.out] at hv1
 exact ⟨_,_,⟨(sb kEvery),at0,Q2.zero,(Q5.mk o1 m1 t1 a1 A1 n1 d1),(Q5.mk o2 m2 t2 a2 A2 n2 d2),Q5.zero,(QS.mk (some ⟨w7.heap.size,0,none⟩) 1 1),Q2.zero,Q2.zero,QS.zero,QS.zero⟩,hL,rfl,HY9.out,StV.cons rfl rfl HA9.out HB9.out HC9.out ⟨hv1,hv2,hv3⟩ rfl rfl .nil ⟨RP.none_,Nat.le_refl _⟩ .nil ⟨RP.none_,Nat.le_refl _⟩ .nil,HP9.out,HK9.out,hg9⟩
set_option maxRecDepth 100000 in
theorem line_send (p q b y : Nat) (at0 : Int) (s : PS) (w0 : World) (h : Ps w0 p q s b 0) (hy : SB w0 y (SC.start kSend at0)) (hpy : p < y) :
   Calls Tryd.prog 39 #[.pointer (some ⟨p,0,none⟩),.pointer (some ⟨y,0,none⟩)] w0 (LinePost p q b y kSend s w0):=by
 have hqp:=h.lt
 have HP0:=hid h
 have HY0:=hid (show SB w0 y ⟨sb kSend,at0,.zero,.zero,.zero,.zero,.zero,.zero,.zero,.zero,.zero⟩ from hy)
 have HK0:=hid (show Kx q p y w0 w0 from Kx.refl)
 have hs0 : y + 1 ≤ w0.heap.size:=(Array.getElem?_eq_some_iff.1 hy).1
 have hg0 : w0.heap.size ≤ w0.heap.size:=Nat.le_refl _
 have HA0:=hid (show TrV (Fr w0 w0) w0 [.none] [Q5.zero.cells] from TrV.leaf .none rfl 0)
 have HB0:=HA0
 have HC0:=HA0
 have HR0:=hid (show RtV (Fr w0 w0) w0 [] .zero from .zero)
 have k0 : w0.cell? ⟨y,0,none⟩ = some (.string ⟨#[115,101,110,100]⟩):=hy.cell 0
 clear h hy
 go_enter Tryd.func39,Tryd.ntmps39
 go_wp2_with fail
 refine (expr_any p q b 0 s w0 HP0.out (fun _=>by decide)).mono ?_
 rintro e w1 ⟨x1,s1,o1,t1,m1,a1,A1,n1,d1,hr1,rfl,htr,hp1,hk1⟩
 have HP1:=hid hp1
 have HN:=hid (htr.mono (fun g hg=>(⟨Nat.le_trans hg0 hg.1,hg.2⟩ : Fr w0 w1 g)))
 clear hp1 htr HP0
 have HY1:=hid (HY0.out.far (hk1.block y (by omega) (by omega) (by omega)))
 have HK1:=hid (HK0.out.trans (hk1.least (by omega)))
 have hs1 : y + 1 ≤ w1.heap.size:=Nat.le_trans hs0 hk1.size
 have hg1 : w0.heap.size ≤ w1.heap.size:=Nat.le_trans hg0 hk1.size
 have HA1:=hid ((HA0.out.keep (fun g hg=>hk1.block g hg.2 (by have:=hg.1;omega) (by have:=hg.1;omega))).mono (fun g hg=>(⟨hg.1,Nat.lt_of_lt_of_le hg.2 hk1.size⟩ : Fr w0 w1 g)))
 have HB1:=hid ((HB0.out.keep (fun g hg=>hk1.block g hg.2 (by have:=hg.1;omega) (by have:=hg.1;omega))).mono (fun g hg=>(⟨hg.1,Nat.lt_of_lt_of_le hg.2 hk1.size⟩ : Fr w0 w1 g)))
 have HC1:=hid ((HC0.out.keep (fun g hg=>hk1.block g hg.2 (by have:=hg.1;omega) (by have:=hg.1;omega))).mono (fun g hg=>(⟨hg.1,Nat.lt_of_lt_of_le hg.2 hk1.size⟩ : Fr w0 w1 g)))
 have HR1:=hid ((HR0.out.keep (fun g hg=>hk1.block g hg.2 (by have:=hg.1;omega) (by have:=hg.1;omega))).mono (fun g hg=>(⟨hg.1,Nat.lt_of_lt_of_le hg.2 hk1.size⟩ : Fr w0 w1 g)))
 clear hk1 HY0 HK0 HA0 HB0 HC0 HR0
 obtain ⟨v0,g0⟩ : ∃ v,w1.cell? ⟨y,4,none⟩ = some v:=⟨_,HY1.out.cell 4⟩
 have l0:=HY1.out.free 4
 obtain ⟨v1,g1⟩ : ∃ v,w1.cell? ⟨y,5,none⟩ = some v:=⟨_,HY1.out.cell 5⟩
 have l1:=HY1.out.free 5
 obtain ⟨v2,g2⟩ : ∃ v,w1.cell? ⟨y,6,none⟩ = some v:=⟨_,HY1.out.cell 6⟩
 have l2:=HY1.out.free 6
 obtain ⟨v3,g3⟩ : ∃ v,w1.cell? ⟨y,7,none⟩ = some v:=⟨_,HY1.out.cell 7⟩
 have l3:=HY1.out.free 7
 obtain ⟨v4,g4⟩ : ∃ v,w1.cell? ⟨y,8,none⟩ = some v:=⟨_,HY1.out.cell 8⟩
 have l4:=HY1.out.free 8
 go_upto_region 3 with fail
 have hb : Below y w1 (((((w1.setCell ⟨y,4,none⟩ (.string o1)).setCell ⟨y,5,none⟩ (.int .i64 m1)).setCell ⟨y,6,none⟩ (.string t1)).setCell ⟨y,7,none⟩ (.int .i64 a1)).setCell ⟨y,8,none⟩ (.slice A1 n1 d1)):=((((((Below.refl y w1).setCell (p:=⟨y,4,none⟩) (Nat.le_refl _) _).setCell (p:=⟨y,5,none⟩) (Nat.le_refl _) _).setCell (p:=⟨y,6,none⟩) (Nat.le_refl _) _).setCell (p:=⟨y,7,none⟩) (Nat.le_refl _) _).setCell (p:=⟨y,8,none⟩) (Nat.le_refl _) _)
 have hf : ∀ g,g ≠ y → (((((w1.setCell ⟨y,4,none⟩ (.string o1)).setCell ⟨y,5,none⟩ (.int .i64 m1)).setCell ⟨y,6,none⟩ (.string t1)).setCell ⟨y,7,none⟩ (.int .i64 a1)).setCell ⟨y,8,none⟩ (.slice A1 n1 d1)).heap[g]? = w1.heap[g]?:=fun g hg=>(Below.heap_setCell _ ⟨y,8,none⟩ _ g hg).trans ((Below.heap_setCell _ ⟨y,7,none⟩ _ g hg).trans ((Below.heap_setCell _ ⟨y,6,none⟩ _ g hg).trans ((Below.heap_setCell _ ⟨y,5,none⟩ _ g hg).trans (Below.heap_setCell _ ⟨y,4,none⟩ _ g hg))))
 have HP2:=hid (HP1.out.below (show p < y by omega) hb)
 have HY2:=hid (HY1.out.putA (Q5.mk o1 m1 t1 a1 A1 n1 d1))
 have HK2:=hid (HK1.out.trans (Kx.of hb (Nat.le_refl _)))
 have hs2:=Nat.le_trans hs1 hb.size
 have hg2:=Nat.le_trans hg1 hb.size
 have HA2:=hid ((HN.out.keep (fun g hg=>hf g (by have:=hg.1;omega))).mono (fun g hg=>(⟨hg.1,Nat.lt_of_lt_of_le hg.2 hb.size⟩ : Fr w0 (((((w1.setCell ⟨y,4,none⟩ (.string o1)).setCell ⟨y,5,none⟩ (.int .i64 m1)).setCell ⟨y,6,none⟩ (.string t1)).setCell ⟨y,7,none⟩ (.int .i64 a1)).setCell ⟨y,8,none⟩ (.slice A1 n1 d1)) g)))
 have HB2:=hid ((HB1.out.keep (fun g hg=>hf g (by have:=hg.1;omega))).mono (fun g hg=>(⟨hg.1,Nat.lt_of_lt_of_le hg.2 hb.size⟩ : Fr w0 (((((w1.setCell ⟨y,4,none⟩ (.string o1)).setCell ⟨y,5,none⟩ (.int .i64 m1)).setCell ⟨y,6,none⟩ (.string t1)).setCell ⟨y,7,none⟩ (.int .i64 a1)).setCell ⟨y,8,none⟩ (.slice A1 n1 d1)) g)))
 have HC2:=hid ((HC1.out.keep (fun g hg=>hf g (by have:=hg.1;omega))).mono (fun g hg=>(⟨hg.1,Nat.lt_of_lt_of_le hg.2 hb.size⟩ : Fr w0 (((((w1.setCell ⟨y,4,none⟩ (.string o1)).setCell ⟨y,5,none⟩ (.int .i64 m1)).setCell ⟨y,6,none⟩ (.string t1)).setCell ⟨y,7,none⟩ (.int .i64 a1)).setCell ⟨y,8,none⟩ (.slice A1 n1 d1)) g)))
 have HR2:=hid ((HR1.out.keep (fun g hg=>hf g (by have:=hg.1;omega))).mono (fun g hg=>(⟨hg.1,Nat.lt_of_lt_of_le hg.2 hb.size⟩ : Fr w0 (((((w1.setCell ⟨y,4,none⟩ (.string o1)).setCell ⟨y,5,none⟩ (.int .i64 m1)).setCell ⟨y,6,none⟩ (.string t1)).setCell ⟨y,7,none⟩ (.int .i64 a1)).setCell ⟨y,8,none⟩ (.slice A1 n1 d1)) g)))
 clear hb hf g0 l0 g1 l1 g2 l2 g3 l3 g4 l4 HP1 HY1 HK1 HA1 HB1 HC1 HR1 HN
 generalize (((((w1.setCell ⟨y,4,none⟩ (.string o1)).setCell ⟨y,5,none⟩ (.int .i64 m1)).setCell ⟨y,6,none⟩ (.string t1)).setCell ⟨y,7,none⟩ (.int .i64 a1)).setCell ⟨y,8,none⟩ (.slice A1 n1 d1)) = w2 at *
 go_wp2_with fail
 refine (via_any p q b 0 false s1 w2 HP2.out).mono ?_
 rintro e w3 ⟨l2,s2,A2,n2,d2,rs2,hr2,rfl,⟨hv1,hv2,hv3⟩,hp3,hk3⟩
 have HP3:=hid hp3
 have HN:=hid (show RtV (Fr w0 w3) w3 l2 ⟨A2,n2,d2⟩ from ⟨rs2,hv1,hv2.mono (fun g hg=>⟨Nat.le_trans hg2 hg.1,hg.2⟩),hv3⟩)
 clear hp3 hv1 hv2 hv3 HP2
 have HY3:=hid (HY2.out.far (hk3.block y (by omega) (by omega) (by omega)))
 have HK3:=hid (HK2.out.trans (hk3.least (by omega)))
 have hs3 : y + 1 ≤ w3.heap.size:=Nat.le_trans hs2 hk3.size
 have hg3 : w0.heap.size ≤ w3.heap.size:=Nat.le_trans hg2 hk3.size
 have HA3:=hid ((HA2.out.keep (fun g hg=>hk3.block g hg.2 (by have:=hg.1;omega) (by have:=hg.1;omega))).mono (fun g hg=>(⟨hg.1,Nat.lt_of_lt_of_le hg.2 hk3.size⟩ : Fr w0 w3 g)))
 have HB3:=hid ((HB2.out.keep (fun g hg=>hk3.block g hg.2 (by have:=hg.1;omega) (by have:=hg.1;omega))).mono (fun g hg=>(⟨hg.1,Nat.lt_of_lt_of_le hg.2 hk3.size⟩ : Fr w0 w3 g)))
 have HC3:=hid ((HC2.out.keep (fun g hg=>hk3.block g hg.2 (by have:=hg.1;omega) (by have:=hg.1;omega))).mono (fun g hg=>(⟨hg.1,Nat.lt_of_lt_of_le hg.2 hk3.size⟩ : Fr w0 w3 g)))
 have HR3:=hid ((HR2.out.keep (fun g hg=>hk3.block g hg.2 (by have:=hg.1;omega) (by have:=hg.1;omega))).mono (fun g hg=>(⟨hg.1,Nat.lt_of_lt_of_le hg.2 hk3.size⟩ : Fr w0 w3 g)))
 clear hk3 HY2 HK2 HA2 HB2 HC2 HR2
 obtain ⟨v0,g0⟩ : ∃ v,w3.cell? ⟨y,19,none⟩ = some v:=⟨_,HY3.out.cell 19⟩
 have l0:=HY3.out.free 19
 go_upto_region 4 with fail
 have hb : Below y w3 (w3.setCell ⟨y,19,none⟩ (.slice A2 n2 d2)):=((Below.refl y w3).setCell (p:=⟨y,19,none⟩) (Nat.le_refl _) _)
 have hf : ∀ g,g ≠ y → (w3.setCell ⟨y,19,none⟩ (.slice A2 n2 d2)).heap[g]? = w3.heap[g]?:=fun g hg=>Below.heap_setCell _ ⟨y,19,none⟩ _ g hg
 have HP4:=hid (HP3.out.below (show p < y by omega) hb)
 have HY4:=hid (HY3.out.putR (QS.mk A2 n2 d2))
 have HK4:=hid (HK3.out.trans (Kx.of hb (Nat.le_refl _)))
 have hs4:=Nat.le_trans hs3 hb.size
 have hg4:=Nat.le_trans hg3 hb.size
 have HA4:=hid ((HA3.out.keep (fun g hg=>hf g (by have:=hg.1;omega))).mono (fun g hg=>(⟨hg.1,Nat.lt_of_lt_of_le hg.2 hb.size⟩ : Fr w0 (w3.setCell ⟨y,19,none⟩ (.slice A2 n2 d2)) g)))
 have HB4:=hid ((HB3.out.keep (fun g hg=>hf g (by have:=hg.1;omega))).mono (fun g hg=>(⟨hg.1,Nat.lt_of_lt_of_le hg.2 hb.size⟩ : Fr w0 (w3.setCell ⟨y,19,none⟩ (.slice A2 n2 d2)) g)))
 have HC4:=hid ((HC3.out.keep (fun g hg=>hf g (by have:=hg.1;omega))).mono (fun g hg=>(⟨hg.1,Nat.lt_of_lt_of_le hg.2 hb.size⟩ : Fr w0 (w3.setCell ⟨y,19,none⟩ (.slice A2 n2 d2)) g)))
 have HR4:=hid ((HN.out.keep (fun g hg=>hf g (by have:=hg.1;omega))).mono (fun g hg=>(⟨hg.1,Nat.lt_of_lt_of_le hg.2 hb.size⟩ : Fr w0 (w3.setCell ⟨y,19,none⟩ (.slice A2 n2 d2)) g)))
 clear hb hf g0 l0 HP3 HY3 HK3 HA3 HB3 HC3 HR3 HN
 generalize (w3.setCell ⟨y,19,none⟩ (.slice A2 n2 d2)) = w4 at *
 go_wp2_with fail
 refine (show Calls Tryd.prog 35 #[.pointer (some ⟨p,0,none⟩),.string ⟨#[119,105,116,104]⟩] w4 _ from also_any p q b 0 s2 kWith w4 HP4.out).mono ?_
 rintro e w5 ⟨rfl,hp5,hk5⟩
 have HP5:=hid hp5
 clear hp5 HP4
 have HY5:=hid (HY4.out.far (hk5.block y (by omega) (by omega) (by omega)))
 have HK5:=hid (HK4.out.trans (hk5.least (by omega)))
 have hs5 : y + 1 ≤ w5.heap.size:=Nat.le_trans hs4 hk5.size
 have hg5 : w0.heap.size ≤ w5.heap.size:=Nat.le_trans hg4 hk5.size
 have HA5:=hid ((HA4.out.keep (fun g hg=>hk5.block g hg.2 (by have:=hg.1;omega) (by have:=hg.1;omega))).mono (fun g hg=>(⟨hg.1,Nat.lt_of_lt_of_le hg.2 hk5.size⟩ : Fr w0 w5 g)))
 have HB5:=hid ((HB4.out.keep (fun g hg=>hk5.block g hg.2 (by have:=hg.1;omega) (by have:=hg.1;omega))).mono (fun g hg=>(⟨hg.1,Nat.lt_of_lt_of_le hg.2 hk5.size⟩ : Fr w0 w5 g)))
 have HC5:=hid ((HC4.out.keep (fun g hg=>hk5.block g hg.2 (by have:=hg.1;omega) (by have:=hg.1;omega))).mono (fun g hg=>(⟨hg.1,Nat.lt_of_lt_of_le hg.2 hk5.size⟩ : Fr w0 w5 g)))
 have HR5:=hid ((HR4.out.keep (fun g hg=>hk5.block g hg.2 (by have:=hg.1;omega) (by have:=hg.1;omega))).mono (fun g hg=>(⟨hg.1,Nat.lt_of_lt_of_le hg.2 hk5.size⟩ : Fr w0 w5 g)))
 clear hk5 HY4 HK4 HA4 HB4 HC4 HR4
 cases hse : sees s2 [kWith] with
 | false=>
   have hal : alsoS s2 kWith = s2:=by rw [alsoS,if_neg (by rw [hse];decide)]
   rw [hal] at HP5
   clear hal
   go_upto_region 6 with fail
   go_wp2_with fail
   refine (tag_any p q b 0 s2 w5 HP5.out).mono ?_
   rintro e w6 ⟨⟨a3,rfl⟩,hp6,hk6⟩
   have HP6:=hid hp6
   clear hp6 HP5
   have HY6:=hid (HY5.out.far (hk6.block y (by omega) (by omega) (by omega)))
   have HK6:=hid (HK5.out.trans (hk6.least (by omega)))
   have hs6 : y + 1 ≤ w6.heap.size:=Nat.le_trans hs5 hk6.size
   have hg6 : w0.heap.size ≤ w6.heap.size:=Nat.le_trans hg5 hk6.size
   have HA6:=hid ((HA5.out.keep (fun g hg=>hk6.block g hg.2 (by have:=hg.1;omega) (by have:=hg.1;omega))).mono (fun g hg=>(⟨hg.1,Nat.lt_of_lt_of_le hg.2 hk6.size⟩ : Fr w0 w6 g)))
   have HB6:=hid ((HB5.out.keep (fun g hg=>hk6.block g hg.2 (by have:=hg.1;omega) (by have:=hg.1;omega))).mono (fun g hg=>(⟨hg.1,Nat.lt_of_lt_of_le hg.2 hk6.size⟩ : Fr w0 w6 g)))
   have HC6:=hid ((HC5.out.keep (fun g hg=>hk6.block g hg.2 (by have:=hg.1;omega) (by have:=hg.1;omega))).mono (fun g hg=>(⟨hg.1,Nat.lt_of_lt_of_le hg.2 hk6.size⟩ : Fr w0 w6 g)))
   have HR6:=hid ((HR5.out.keep (fun g hg=>hk6.block g hg.2 (by have:=hg.1;omega) (by have:=hg.1;omega))).mono (fun g hg=>(⟨hg.1,Nat.lt_of_lt_of_le hg.2 hk6.size⟩ : Fr w0 w6 g)))
   clear hk6 HY5 HK5 HA5 HB5 HC5 HR5
   obtain ⟨u3,hu3⟩ : ∃ u3,(tagS s2).1 = u3:=⟨_,rfl⟩
   rw [hu3]
   have HU3:=hid hu3
   clear hu3
   obtain ⟨v0,g0⟩ : ∃ v,w6.cell? ⟨y,22,none⟩ = some v:=⟨_,HY6.out.cell 22⟩
   have l0:=HY6.out.free 22
   obtain ⟨v1,g1⟩ : ∃ v,w6.cell? ⟨y,23,none⟩ = some v:=⟨_,HY6.out.cell 23⟩
   have l1:=HY6.out.free 23
   go_wp2_with fail
   have hb : Below y w6 ((w6.setCell ⟨y,22,none⟩ (.string (sb u3))).setCell ⟨y,23,none⟩ (.int .i64 a3)):=(((Below.refl y w6).setCell (p:=⟨y,22,none⟩) (Nat.le_refl _) _).setCell (p:=⟨y,23,none⟩) (Nat.le_refl _) _)
   have hf : ∀ g,g ≠ y → ((w6.setCell ⟨y,22,none⟩ (.string (sb u3))).setCell ⟨y,23,none⟩ (.int .i64 a3)).heap[g]? = w6.heap[g]?:=fun g hg=>(Below.heap_setCell _ ⟨y,23,none⟩ _ g hg).trans (Below.heap_setCell _ ⟨y,22,none⟩ _ g hg)
   have HP7:=hid (HP6.out.below (show p < y by omega) hb)
   have HY7:=hid (HY6.out.putTag (Q2.mk (sb u3) a3))
   have HK7:=hid (HK6.out.trans (Kx.of hb (Nat.le_refl _)))
   have hs7:=Nat.le_trans hs6 hb.size
   have hg7:=Nat.le_trans hg6 hb.size
   have HA7:=hid ((HA6.out.keep (fun g hg=>hf g (by have:=hg.1;omega))).mono (fun g hg=>(⟨hg.1,Nat.lt_of_lt_of_le hg.2 hb.size⟩ : Fr w0 ((w6.setCell ⟨y,22,none⟩ (.string (sb u3))).setCell ⟨y,23,none⟩ (.int .i64 a3)) g)))
   have HB7:=hid ((HB6.out.keep (fun g hg=>hf g (by have:=hg.1;omega))).mono (fun g hg=>(⟨hg.1,Nat.lt_of_lt_of_le hg.2 hb.size⟩ : Fr w0 ((w6.setCell ⟨y,22,none⟩ (.string (sb u3))).setCell ⟨y,23,none⟩ (.int .i64 a3)) g)))
   have HC7:=hid ((HC6.out.keep (fun g hg=>hf g (by have:=hg.1;omega))).mono (fun g hg=>(⟨hg.1,Nat.lt_of_lt_of_le hg.2 hb.size⟩ : Fr w0 ((w6.setCell ⟨y,22,none⟩ (.string (sb u3))).setCell ⟨y,23,none⟩ (.int .i64 a3)) g)))
   have HR7:=hid ((HR6.out.keep (fun g hg=>hf g (by have:=hg.1;omega))).mono (fun g hg=>(⟨hg.1,Nat.lt_of_lt_of_le hg.2 hb.size⟩ : Fr w0 ((w6.setCell ⟨y,22,none⟩ (.string (sb u3))).setCell ⟨y,23,none⟩ (.int .i64 a3)) g)))
   clear hb hf g0 l0 g1 l1 HP6 HY6 HK6 HA6 HB6 HC6 HR6
   generalize ((w6.setCell ⟨y,22,none⟩ (.string (sb u3))).setCell ⟨y,23,none⟩ (.int .i64 a3)) = w7 at *
   go_end0
   have hw : withS s2 = ([],s2):=by rw [withS,if_neg (by rw [hse];decide)]
   have hL:=LineR.send hr1 hr2
   rw [hw] at hL
   obtain ⟨rs,hv1,hv2,hv3⟩:=HR7.out
   exact ⟨_,_,⟨(sb kSend),at0,Q2.zero,(Q5.mk o1 m1 t1 a1 A1 n1 d1),Q5.zero,Q5.zero,(QS.mk A2 n2 d2),Q2.zero,(Q2.mk (sb u3) a3),QS.zero,QS.zero⟩,hL,rfl,HY7.out,StV.cons rfl rfl HA7.out HB7.out HC7.out ⟨hv1,hv2,hv3⟩ rfl (by rw [HU3.out]) .nil ⟨RP.none_,Nat.le_refl _⟩ .nil ⟨RP.none_,Nat.le_refl _⟩ .nil,HP7.out,HK7.out,hg7⟩
 | true=>
   have hal : alsoS s2 kWith = nx s2:=by rw [alsoS,if_pos hse]
   rw [hal] at HP5
   clear hal
   go_wp2_with fail
   refine (ref_any p q b 0 (nx s2) w5 HP5.out).mono ?_
   rintro e w6 ⟨⟨a3,rfl⟩,hp6,hk6⟩
   have HP6:=hid hp6
   clear hp6 HP5
   have HY6:=hid (HY5.out.far (hk6.block y (by omega) (by omega) (by omega)))
   have HK6:=hid (HK5.out.trans (hk6.least (by omega)))
   have hs6 : y + 1 ≤ w6.heap.size:=Nat.le_trans hs5 hk6.size
   have hg6 : w0.heap.size ≤ w6.heap.size:=Nat.le_trans hg5 hk6.size
   have HA6:=hid ((HA5.out.keep (fun g hg=>hk6.block g hg.2 (by have:=hg.1;omega) (by have:=hg.1;omega))).mono (fun g hg=>(⟨hg.1,Nat.lt_of_lt_of_le hg.2 hk6.size⟩ : Fr w0 w6 g)))
   have HB6:=hid ((HB5.out.keep (fun g hg=>hk6.block g hg.2 (by have:=hg.1;omega) (by have:=hg.1;omega))).mono (fun g hg=>(⟨hg.1,Nat.lt_of_lt_of_le hg.2 hk6.size⟩ : Fr w0 w6 g)))
   have HC6:=hid ((HC5.out.keep (fun g hg=>hk6.block g hg.2 (by have:=hg.1;omega) (by have:=hg.1;omega))).mono (fun g hg=>(⟨hg.1,Nat.lt_of_lt_of_le hg.2 hk6.size⟩ : Fr w0 w6 g)))
   have HR6:=hid ((HR5.out.keep (fun g hg=>hk6.block g hg.2 (by have:=hg.1;omega) (by have:=hg.1;omega))).mono (fun g hg=>(⟨hg.1,Nat.lt_of_lt_of_le hg.2 hk6.size⟩ : Fr w0 w6 g)))
   clear hk6 HY5 HK5 HA5 HB5 HC5 HR5
   obtain ⟨u3,hu3⟩ : ∃ u3,(refS (nx s2)).1 = u3:=⟨_,rfl⟩
   rw [hu3]
   have HU3:=hid hu3
   clear hu3
   obtain ⟨v0,g0⟩ : ∃ v,w6.cell? ⟨y,20,none⟩ = some v:=⟨_,HY6.out.cell 20⟩
   have l0:=HY6.out.free 20
   obtain ⟨v1,g1⟩ : ∃ v,w6.cell? ⟨y,21,none⟩ = some v:=⟨_,HY6.out.cell 21⟩
   have l1:=HY6.out.free 21
   go_upto_region 6 with fail
   have hb : Below y w6 ((w6.setCell ⟨y,20,none⟩ (.string (sb u3))).setCell ⟨y,21,none⟩ (.int .i64 a3)):=(((Below.refl y w6).setCell (p:=⟨y,20,none⟩) (Nat.le_refl _) _).setCell (p:=⟨y,21,none⟩) (Nat.le_refl _) _)
   have hf : ∀ g,g ≠ y → ((w6.setCell ⟨y,20,none⟩ (.string (sb u3))).setCell ⟨y,21,none⟩ (.int .i64 a3)).heap[g]? = w6.heap[g]?:=fun g hg=>(Below.heap_setCell _ ⟨y,21,none⟩ _ g hg).trans (Below.heap_setCell _ ⟨y,20,none⟩ _ g hg)
   have HP7:=hid (HP6.out.below (show p < y by omega) hb)
   have HY7:=hid (HY6.out.putBlock (Q2.mk (sb u3) a3))
   have HK7:=hid (HK6.out.trans (Kx.of hb (Nat.le_refl _)))
   have hs7:=Nat.le_trans hs6 hb.size
   have hg7:=Nat.le_trans hg6 hb.size
   have HA7:=hid ((HA6.out.keep (fun g hg=>hf g (by have:=hg.1;omega))).mono (fun g hg=>(⟨hg.1,Nat.lt_of_lt_of_le hg.2 hb.size⟩ : Fr w0 ((w6.setCell ⟨y,20,none⟩ (.string (sb u3))).setCell ⟨y,21,none⟩ (.int .i64 a3)) g)))
   have HB7:=hid ((HB6.out.keep (fun g hg=>hf g (by have:=hg.1;omega))).mono (fun g hg=>(⟨hg.1,Nat.lt_of_lt_of_le hg.2 hb.size⟩ : Fr w0 ((w6.setCell ⟨y,20,none⟩ (.string (sb u3))).setCell ⟨y,21,none⟩ (.int .i64 a3)) g)))
   have HC7:=hid ((HC6.out.keep (fun g hg=>hf g (by have:=hg.1;omega))).mono (fun g hg=>(⟨hg.1,Nat.lt_of_lt_of_le hg.2 hb.size⟩ : Fr w0 ((w6.setCell ⟨y,20,none⟩ (.string (sb u3))).setCell ⟨y,21,none⟩ (.int .i64 a3)) g)))
   have HR7:=hid ((HR6.out.keep (fun g hg=>hf g (by have:=hg.1;omega))).mono (fun g hg=>(⟨hg.1,Nat.lt_of_lt_of_le hg.2 hb.size⟩ : Fr w0 ((w6.setCell ⟨y,20,none⟩ (.string (sb u3))).setCell ⟨y,21,none⟩ (.int .i64 a3)) g)))
   clear hb hf g0 l0 g1 l1 HP6 HY6 HK6 HA6 HB6 HC6 HR6
   generalize ((w6.setCell ⟨y,20,none⟩ (.string (sb u3))).setCell ⟨y,21,none⟩ (.int .i64 a3)) = w7 at *
   go_wp2_with fail
   refine (tag_any p q b 0 (refS (nx s2)).2 w7 HP7.out).mono ?_
   rintro e w8 ⟨⟨a4,rfl⟩,hp8,hk8⟩
   have HP8:=hid hp8
   clear hp8 HP7
   have HY8:=hid (HY7.out.far (hk8.block y (by omega) (by omega) (by omega)))
   have HK8:=hid (HK7.out.trans (hk8.least (by omega)))
   have hs8 : y + 1 ≤ w8.heap.size:=Nat.le_trans hs7 hk8.size
   have hg8 : w0.heap.size ≤ w8.heap.size:=Nat.le_trans hg7 hk8.size
   have HA8:=hid ((HA7.out.keep (fun g hg=>hk8.block g hg.2 (by have:=hg.1;omega) (by have:=hg.1;omega))).mono (fun g hg=>(⟨hg.1,Nat.lt_of_lt_of_le hg.2 hk8.size⟩ : Fr w0 w8 g)))
   have HB8:=hid ((HB7.out.keep (fun g hg=>hk8.block g hg.2 (by have:=hg.1;omega) (by have:=hg.1;omega))).mono (fun g hg=>(⟨hg.1,Nat.lt_of_lt_of_le hg.2 hk8.size⟩ : Fr w0 w8 g)))
   have HC8:=hid ((HC7.out.keep (fun g hg=>hk8.block g hg.2 (by have:=hg.1;omega) (by have:=hg.1;omega))).mono (fun g hg=>(⟨hg.1,Nat.lt_of_lt_of_le hg.2 hk8.size⟩ : Fr w0 w8 g)))
   have HR8:=hid ((HR7.out.keep (fun g hg=>hk8.block g hg.2 (by have:=hg.1;omega) (by have:=hg.1;omega))).mono (fun g hg=>(⟨hg.1,Nat.lt_of_lt_of_le hg.2 hk8.size⟩ : Fr w0 w8 g)))
   clear hk8 HY7 HK7 HA7 HB7 HC7 HR7
   obtain ⟨u4,hu4⟩ : ∃ u4,(tagS (refS (nx s2)).2).1 = u4:=⟨_,rfl⟩
   rw [hu4]
   have HU4:=hid hu4
   clear hu4
   obtain ⟨v0,g0⟩ : ∃ v,w8.cell? ⟨y,22,none⟩ = some v:=⟨_,HY8.out.cell 22⟩
   have l0:=HY8.out.free 22
   obtain ⟨v1,g1⟩ : ∃ v,w8.cell? ⟨y,23,none⟩ = some v:=⟨_,HY8.out.cell 23⟩
   have l1:=HY8.out.free 23
   go_wp2_with fail
   have hb : Below y w8 ((w8.setCell ⟨y,22,none⟩ (.string (sb u4))).setCell ⟨y,23,none⟩ (.int .i64 a4)):=(((Below.refl y w8).setCell (p:=⟨y,22,none⟩) (Nat.le_refl _) _).setCell (p:=⟨y,23,none⟩) (Nat.le_refl _) _)
   have hf : ∀ g,g ≠ y → ((w8.setCell ⟨y,22,none⟩ (.string (sb u4))).setCell ⟨y,23,none⟩ (.int .i64 a4)).heap[g]? = w8.heap[g]?:=fun g hg=>(Below.heap_setCell _ ⟨y,23,none⟩ _ g hg).trans (Below.heap_setCell _ ⟨y,22,none⟩ _ g hg)
   have HP9:=hid (HP8.out.below (show p < y by omega) hb)
   have HY9:=hid (HY8.out.putTag (Q2.mk (sb u4) a4))
   have HK9:=hid (HK8.out.trans (Kx.of hb (Nat.le_refl _)))
   have hs9:=Nat.le_trans hs8 hb.size
   have hg9:=Nat.le_trans hg8 hb.size
   have HA9:=hid ((HA8.out.keep (fun g hg=>hf g (by have:=hg.1;omega))).mono (fun g hg=>(⟨hg.1,Nat.lt_of_lt_of_le hg.2 hb.size⟩ : Fr w0 ((w8.setCell ⟨y,22,none⟩ (.string (sb u4))).setCell ⟨y,23,none⟩ (.int .i64 a4)) g)))
   have HB9:=hid ((HB8.out.keep (fun g hg=>hf g (by have:=hg.1;omega))).mono (fun g hg=>(⟨hg.1,Nat.lt_of_lt_of_le hg.2 hb.size⟩ : Fr w0 ((w8.setCell ⟨y,22,none⟩ (.string (sb u4))).setCell ⟨y,23,none⟩ (.int .i64 a4)) g)))
   have HC9:=hid ((HC8.out.keep (fun g hg=>hf g (by have:=hg.1;omega))).mono (fun g hg=>(⟨hg.1,Nat.lt_of_lt_of_le hg.2 hb.size⟩ : Fr w0 ((w8.setCell ⟨y,22,none⟩ (.string (sb u4))).setCell ⟨y,23,none⟩ (.int .i64 a4)) g)))
   have HR9:=hid ((HR8.out.keep (fun g hg=>hf g (by have:=hg.1;omega))).mono (fun g hg=>(⟨hg.1,Nat.lt_of_lt_of_le hg.2 hb.size⟩ : Fr w0 ((w8.setCell ⟨y,22,none⟩ (.string (sb u4))).setCell ⟨y,23,none⟩ (.int .i64 a4)) g)))
   clear hb hf g0 l0 g1 l1 HP8 HY8 HK8 HA8 HB8 HC8 HR8
   generalize ((w8.setCell ⟨y,22,none⟩ (.string (sb u4))).setCell ⟨y,23,none⟩ (.int .i64 a4)) = w9 at *
   go_end0
   have hw : withS s2 = refS (nx s2):=by rw [withS,if_pos hse]
   have hL:=LineR.send hr1 hr2
   rw [hw] at hL
   obtain ⟨rs,hv1,hv2,hv3⟩:=HR9.out
   exact ⟨_,_,⟨(sb kSend),at0,Q2.zero,(Q5.mk o1 m1 t1 a1 A1 n1 d1),Q5.zero,Q5.zero,(QS.mk A2 n2 d2),(Q2.mk (sb u3) a3),(Q2.mk (sb u4) a4),QS.zero,QS.zero⟩,hL,rfl,HY9.out,StV.cons rfl rfl HA9.out HB9.out HC9.out ⟨hv1,hv2,hv3⟩ (by rw [HU3.out]) (by rw [HU4.out]) .nil ⟨RP.none_,Nat.le_refl _⟩ .nil ⟨RP.none_,Nat.le_refl _⟩ .nil,HP9.out,HK9.out,hg9⟩
end
end Go.Proofs.YtgmjpnnblhkbpaaDoor
