/-
  What Scan and Open answer for a source, for its tokens spelled anew and for its print: in plain Lean, by the relations' determinacy. No program is walked here.
-/
import Derived.Test.YtgmjpnnblhkbpaaDoorTqEM
import Derived.Test.YtgmjpnnblhkbpaaDoorTqCM
import Derived.Test.YtgmjpnnblhkbpaaDoorSqM
import Derived.Test.YtgmjpnnblhkbpaaDoorTxOkM
import Derived.Test.YtgmjpnnblhkbpaaDoorTpCM
import Derived.Test.YtgmjpnnblhkbpaaDoorTpFM
import Derived.Laws.StructEq
namespace Go.Proofs.YtgmjpnnblhkbpaaDoor
open Go Go.RowKit Go.Sh Tx
open Go.Lib (hid)
def DoB (w : World) (y : Nat) (d b : QS) (t : ByteArray) : Prop:=w.heap[y]? = some (.cells #[.slice d.A d.n d.d,.slice b.A b.n b.d,.string t] 36 (0,0))
section
variable {w w' : World} {y : Nat} {d b : QS} {t : ByteArray}
theorem DoB.far (h : DoB w y d b t) (hz : w'.heap[y]? = w.heap[y]?) : DoB w' y d b t:=hz.trans h
theorem DoB.free (h : DoB w y d b t) (i : Nat) : w.frozen? ⟨y,i,none⟩ = false:=frozen_of_row _ _ i _ _ h
theorem DoB.c0 (h : DoB w y d b t) : w.cell? ⟨y,0,none⟩ = some (.slice d.A d.n d.d):=blk_cell h
theorem DoB.c1 (h : DoB w y d b t) : w.cell? ⟨y,1,none⟩ = some (.slice b.A b.n b.d):=blk_cell h
theorem DoB.c2 (h : DoB w y d b t) : w.cell? ⟨y,2,none⟩ = some (.string t):=blk_cell h
theorem DoB.put (h : DoB w y d b t) (d' b' : QS) (t' : ByteArray) : DoB (((w.setCell ⟨y,0,none⟩ (.slice d'.A d'.n d'.d)).setCell ⟨y,1,none⟩ (.slice b'.A b'.n b'.d)).setCell ⟨y,2,none⟩ (.string t')) y d' b' t':=blk_set (blk_set (blk_set h _) _) _
set_option maxRecDepth 100000 in
theorem DoB.load (h : DoB w y d b t) : (loadVar 36 ⟨y,0,none⟩).run Tryd.prog w = .ok (.agg #[.slice d.A d.n d.d,.slice b.A b.n b.d,.string t]) w:=by
 have h2:=run_loadVar_mid (P:=Tryd.prog) w y 0 36 [.slice d.A d.n d.d,.slice b.A b.n b.d,.string t] _ (blk_range h) Tryd.underlying36 rfl (by kernel_rfl)
 exact h2
end
def FltR (l : Bs) (c a : Int) : Prop:=c ≠ 0 ∧
 ((8000 < l.length ∧ c = 2 ∧ a = 0) ∨ (l.length ≤ 8000 ∧ ∃ ts o,ScR l ts o ∧ ((∃ f : Bs,o = some f ∧ c = 9 ∧ a = ((l.length - f.length : Nat) : Int)) ∨ (o = none ∧ ∃ ds b s,SrcR ts ds b s ∧ s.2 ≠ 0 ∧ c = s.2))))
def OkR (l : Bs) (ds : List Dc) (b : List St) : Prop:=l.length ≤ 8000 ∧ ∃ ts s,ScR l ts none ∧ SrcR ts ds b s ∧ s.2 = 0
def OpenPost (l : Bs) (w : World) (e : Ending) (w' : World) : Prop:=
 Below w.heap.size w w' ∧
 ((∃ c a,FltR l c a ∧ e = .returned (.tuple #[.agg #[.slice none 0 0,.slice none 0 0,.string ⟨#[]⟩],.agg #[.int .i64 c,.int .i64 a]])) ∨
  (∃ ds b,OkR l ds b ∧ ∃ d q : QS,e = .returned (.tuple #[.agg #[.slice d.A d.n d.d,.slice q.A q.n q.d,.string (sb (txSrc ds b))],.agg #[.int .i64 0,.int .i64 0]]) ∧ DcL (Fr w w') w' ds d ∧ BdV (Fr w w') w' b q))
theorem ParsePost.form {l : Bs} {w w' : World} {e : Ending} (h : ParsePost l w e w') : Below w.heap.size w w' ∧
   ((∃ c a,FltR l c a ∧ e = .returned (.tuple #[.agg #[.slice none 0 0,.slice none 0 0],.agg #[.int .i64 c,.int .i64 a]])) ∨
    (∃ ds b,OkR l ds b ∧ ∃ d q : QS,e = .returned (.tuple #[.agg #[.slice d.A d.n d.d,.slice q.A q.n q.d],.agg #[.int .i64 0,.int .i64 0]]) ∧ DcL (Fr w w') w' ds d ∧ BdV (Fr w w') w' b q)):=by
 obtain ⟨h1,h2⟩:=h
 refine ⟨h1,?_⟩
 rcases h2 with ⟨h3,rfl⟩ | ⟨h3,ts,o,h4,⟨f,h5,rfl⟩ | ⟨rfl,ds,b,s,h5,⟨h6,a,rfl⟩ | ⟨h6,d,q,rfl,h7,h8⟩⟩⟩
 · exact .inl ⟨_,_,⟨by decide,.inl ⟨h3,rfl,rfl⟩⟩,rfl⟩
 · exact .inl ⟨_,_,⟨by decide,.inr ⟨h3,ts,o,h4,.inl ⟨f,h5,rfl,rfl⟩⟩⟩,rfl⟩
 · exact .inl ⟨_,_,⟨h6,.inr ⟨h3,ts,none,h4,.inr ⟨rfl,ds,b,s,h5,h6,rfl⟩⟩⟩,rfl⟩
 · exact .inr ⟨ds,b,⟨h3,ts,s,h4,h5,h6⟩,d,q,rfl,h7,h8⟩
section
set_option maxHeartbeats 16000000
set_option maxRecDepth 100000
set_option maxRecDepth 100000 in
theorem Open_any (l : Bs) (w : World) (hT : TabX w.heap.size w) (hfit : ∀ ds b,OkR l ds b → (∀ d ∈ ds,DcW d) ∧ (∀ t ∈ b,StW 0 t) ∧ (txSrc ds b).length ≤ 10000000000000) : Calls Tryd.prog 7 #[.string (sb l)] w (OpenPost l w):=by
 obtain ⟨S,hS⟩ : ∃ S,sb l = S:=⟨_,rfl⟩
 have HPA:=hid (fun W=>Parse_any l W)
 rw [hS] at HPA ⊢
 clear hS
 have HTX:=hid hT
 have HFT:=hid hfit
 clear hT hfit
 go_enter Tryd.func7,Tryd.ntmps7
 go_upto_region 1 with fail
 have HB1:=hid (show Below w.heap.size w ((w.alloc (.cells #[.slice none 0 0,.slice none 0 0,.string ⟨#[]⟩] 36)).alloc (.cells #[.int .i64 0,.int .i64 0] 28)) from ((Below.refl _ w).alloc (Nat.le_refl _) _).alloc (by rw [show (w.alloc (.cells #[.slice none 0 0,.slice none 0 0,.string ⟨#[]⟩] 36)).heap.size = w.heap.size + 1 from Array.size_push _];omega) _)
 have hu : (w.alloc (.cells #[.slice none 0 0,.slice none 0 0,.string ⟨#[]⟩] 36)).heap.size = w.heap.size + 1:=Array.size_push _
 have hs1 : ((w.alloc (.cells #[.slice none 0 0,.slice none 0 0,.string ⟨#[]⟩] 36)).alloc (.cells #[.int .i64 0,.int .i64 0] 28)).heap.size = (w.alloc (.cells #[.slice none 0 0,.slice none 0 0,.string ⟨#[]⟩] 36)).heap.size + 1:=Array.size_push _
 have HE1:=hid (show DoB ((w.alloc (.cells #[.slice none 0 0,.slice none 0 0,.string ⟨#[]⟩] 36)).alloc (.cells #[.int .i64 0,.int .i64 0] 28)) w.heap.size .zero .zero ⟨#[]⟩ from DoB.far (show DoB (w.alloc (.cells #[.slice none 0 0,.slice none 0 0,.string ⟨#[]⟩] 36)) w.heap.size .zero .zero ⟨#[]⟩ from heap_alloc_new w _) (((Below.refl _ (w.alloc (.cells #[.slice none 0 0,.slice none 0 0,.string ⟨#[]⟩] 36))).alloc (Nat.le_refl _) _).block w.heap.size (by rw [hu];exact Nat.lt_succ_self _)))
 have HG1:=hid (show Flt ((w.alloc (.cells #[.slice none 0 0,.slice none 0 0,.string ⟨#[]⟩] 36)).alloc (.cells #[.int .i64 0,.int .i64 0] 28)) (w.alloc (.cells #[.slice none 0 0,.slice none 0 0,.string ⟨#[]⟩] 36)).heap.size 0 0 from heap_alloc_new (w.alloc (.cells #[.slice none 0 0,.slice none 0 0,.string ⟨#[]⟩] 36)) _)
 obtain ⟨u,hu'⟩ : ∃ u,(w.alloc (.cells #[.slice none 0 0,.slice none 0 0,.string ⟨#[]⟩] 36)).heap.size = u:=⟨_,rfl⟩
 rw [hu'] at HG1 hs1 hu
 clear hu'
 obtain ⟨z,hz⟩ : ∃ z,w.heap.size = z:=⟨_,rfl⟩
 have HZ:=hid hz
 rw [hz] at HB1 HE1 hu HTX ⊢
 rw [← hu]
 have hzu1 : z + 1 ≤ u:=Nat.le_of_eq hu.symm
 have hzu2 : u ≤ z + 1:=Nat.le_of_eq hu
 clear hu
 generalize ((w.alloc (.cells #[.slice none 0 0,.slice none 0 0,.string ⟨#[]⟩] 36)).alloc (.cells #[.int .i64 0,.int .i64 0] 28)) = w1 at *
 clear hz
 go_wp2_with fail
 refine (HPA.out w1).mono ?_
 rintro e w2 hp
 obtain ⟨hb2,hp⟩:=hp.form
 have HB2:=hid (HB1.out.trans (hb2.mono (by omega)))
 have HE2:=hid (HE1.out.far (hb2.block z (by omega)))
 have HG2:=hid (show Flt w2 u 0 0 from (hb2.block u (by omega)).trans HG1.out)
 have hs2 : u + 1 ≤ w2.heap.size:=Nat.le_trans (Nat.le_of_eq hs1.symm) hb2.size
 have hs12 : u + 1 ≤ w1.heap.size:=Nat.le_of_eq hs1.symm
 clear hs1 HB1 HE1 HG1 HPA
 rcases hp with ⟨f,k,hfl,rfl⟩ | ⟨ds,b,hok,d,q,rfl,hdc,hbd⟩
 · have hfb : (f != 0) = true:=bne_iff_ne.2 hfl.1
   have e1 : (w2.alloc (.cells #[.slice none 0 0,.slice none 0 0] 25)).heap.size = w2.heap.size + 1:=Array.size_push _
   have e2 : ((w2.alloc (.cells #[.slice none 0 0,.slice none 0 0] 25)).alloc (.cells #[.int .i64 f,.int .i64 k] 28)).heap.size = (w2.alloc (.cells #[.slice none 0 0,.slice none 0 0] 25)).heap.size + 1:=Array.size_push _
   have hl1 : Below w2.heap.size w2 (w2.alloc (.cells #[.slice none 0 0,.slice none 0 0] 25)):=(Below.refl _ w2).alloc (Nat.le_refl _) _
   have hl2 : Below (w2.alloc (.cells #[.slice none 0 0,.slice none 0 0] 25)).heap.size (w2.alloc (.cells #[.slice none 0 0,.slice none 0 0] 25)) ((w2.alloc (.cells #[.slice none 0 0,.slice none 0 0] 25)).alloc (.cells #[.int .i64 f,.int .i64 k] 28)):=(Below.refl _ _).alloc (Nat.le_refl _) _
   rw [e1] at hl2
   have hlb : Below w2.heap.size w2 ((w2.alloc (.cells #[.slice none 0 0,.slice none 0 0] 25)).alloc (.cells #[.int .i64 f,.int .i64 k] 28)):=hl1.trans (hl2.mono (Nat.le_succ _))
   have hy:=heap_alloc_new w2 (.cells #[.slice none 0 0,.slice none 0 0] 25)
   have HY3:=hid (show SoB ((w2.alloc (.cells #[.slice none 0 0,.slice none 0 0] 25)).alloc (.cells #[.int .i64 f,.int .i64 k] 28)) w2.heap.size ⟨none,0,0⟩ ⟨none,0,0⟩ from SoB.far (show SoB (w2.alloc (.cells #[.slice none 0 0,.slice none 0 0] 25)) w2.heap.size ⟨none,0,0⟩ ⟨none,0,0⟩ from hy) (hl2.block _ (Nat.lt_succ_self _)))
   have hx:=heap_alloc_new (w2.alloc (.cells #[.slice none 0 0,.slice none 0 0] 25)) (.cells #[.int .i64 f,.int .i64 k] 28)
   rw [e1] at hx
   have HX3:=hid (show Flt ((w2.alloc (.cells #[.slice none 0 0,.slice none 0 0] 25)).alloc (.cells #[.int .i64 f,.int .i64 k] 28)) (w2.heap.size + 1) f k from hx)
   have HB3:=hid (HB2.out.trans (hlb.mono (by omega)))
   have HE3:=hid (HE2.out.far (hlb.block z (by omega)))
   have HG3:=hid (show Flt ((w2.alloc (.cells #[.slice none 0 0,.slice none 0 0] 25)).alloc (.cells #[.int .i64 f,.int .i64 k] 28)) u 0 0 from (hlb.block u (by omega)).trans HG2.out)
   have hs3 : w2.heap.size + 2 ≤ ((w2.alloc (.cells #[.slice none 0 0,.slice none 0 0] 25)).alloc (.cells #[.int .i64 f,.int .i64 k] 28)).heap.size:=by rw [e2,e1];exact Nat.le_refl _
   clear hy hx hl1 hl2 e2
   have HFL:=hid hfl
   clear hfl hb2
   go_upto_region 2 with fail
   (try rw [e1])
   obtain ⟨y,hy⟩ : ∃ y,w2.heap.size = y:=⟨_,rfl⟩
   have hy2 : u + 1 ≤ y:=by omega
   rw [hy] at HY3 HX3 hs3
   (try rw [hy])
   clear hlb e1 hy hs2 HB2 HE2 HG2
   generalize ((w2.alloc (.cells #[.slice none 0 0,.slice none 0 0] 25)).alloc (.cells #[.int .i64 f,.int .i64 k] 28)) = w3 at *
   have x0:=HX3.out.c0
   have x1:=HX3.out.c1
   have y0:=HY3.out.c0
   have y1:=HY3.out.c1
   go_upto_region 3 with fail
   have e0:=HE3.out.c0
   have e1:=HE3.out.c1
   have e2:=HE3.out.c2
   have e3:=HE3.out.free 0
   have e4:=HE3.out.free 1
   have e5:=HE3.out.free 2
   have g0:=HG3.out.c0
   have g1:=HG3.out.c1
   have g2:=HG3.out.free 0
   have g3:=HG3.out.free 1
   have huz : u ≠ z:=by omega
   have hzu : z ≠ u:=by omega
   have hyz : y + 1 ≠ z:=by omega
   have hyu : y + 1 ≠ u:=by omega
   go_region
   all_goals go_wp2_with fail
   have hf1 : ∀ g,g ≠ z → (((w3.setCell ⟨z,0,none⟩ (.slice none 0 0)).setCell ⟨z,1,none⟩ (.slice none 0 0)).setCell ⟨z,2,none⟩ (.string ⟨#[]⟩)).heap[g]? = w3.heap[g]?:=fun g hg=>((Below.heap_setCell _ ⟨z,2,none⟩ _ g hg).trans (Below.heap_setCell _ ⟨z,1,none⟩ _ g hg)).trans (Below.heap_setCell _ ⟨z,0,none⟩ _ g hg)
   have hf2 : ∀ g,g ≠ u → (((((w3.setCell ⟨z,0,none⟩ (.slice none 0 0)).setCell ⟨z,1,none⟩ (.slice none 0 0)).setCell ⟨z,2,none⟩ (.string ⟨#[]⟩)).setCell ⟨u,0,none⟩ (.int .i64 f)).setCell ⟨u,1,none⟩ (.int .i64 k)).heap[g]? = (((w3.setCell ⟨z,0,none⟩ (.slice none 0 0)).setCell ⟨z,1,none⟩ (.slice none 0 0)).setCell ⟨z,2,none⟩ (.string ⟨#[]⟩)).heap[g]?:=fun g hg=>(Below.heap_setCell _ ⟨u,1,none⟩ _ g hg).trans (Below.heap_setCell _ ⟨u,0,none⟩ _ g hg)
   have hS : DoB (((((w3.setCell ⟨z,0,none⟩ (.slice none 0 0)).setCell ⟨z,1,none⟩ (.slice none 0 0)).setCell ⟨z,2,none⟩ (.string ⟨#[]⟩)).setCell ⟨u,0,none⟩ (.int .i64 f)).setCell ⟨u,1,none⟩ (.int .i64 k)).drew z ⟨none,0,0⟩ ⟨none,0,0⟩ ⟨#[]⟩:=show DoB (((((w3.setCell ⟨z,0,none⟩ (.slice none 0 0)).setCell ⟨z,1,none⟩ (.slice none 0 0)).setCell ⟨z,2,none⟩ (.string ⟨#[]⟩)).setCell ⟨u,0,none⟩ (.int .i64 f)).setCell ⟨u,1,none⟩ (.int .i64 k)) z ⟨none,0,0⟩ ⟨none,0,0⟩ ⟨#[]⟩ from DoB.far (DoB.put HE3.out ⟨none,0,0⟩ ⟨none,0,0⟩ ⟨#[]⟩) (hf2 z (by omega))
   have hF : Flt (((((w3.setCell ⟨z,0,none⟩ (.slice none 0 0)).setCell ⟨z,1,none⟩ (.slice none 0 0)).setCell ⟨z,2,none⟩ (.string ⟨#[]⟩)).setCell ⟨u,0,none⟩ (.int .i64 f)).setCell ⟨u,1,none⟩ (.int .i64 k)).drew u f k:=show Flt (((((w3.setCell ⟨z,0,none⟩ (.slice none 0 0)).setCell ⟨z,1,none⟩ (.slice none 0 0)).setCell ⟨z,2,none⟩ (.string ⟨#[]⟩)).setCell ⟨u,0,none⟩ (.int .i64 f)).setCell ⟨u,1,none⟩ (.int .i64 k)) u f k from Flt.put (show Flt (((w3.setCell ⟨z,0,none⟩ (.slice none 0 0)).setCell ⟨z,1,none⟩ (.slice none 0 0)).setCell ⟨z,2,none⟩ (.string ⟨#[]⟩)) u 0 0 from (hf1 u (by omega)).trans HG3.out) f k
   have hb : Below z w (((((w3.setCell ⟨z,0,none⟩ (.slice none 0 0)).setCell ⟨z,1,none⟩ (.slice none 0 0)).setCell ⟨z,2,none⟩ (.string ⟨#[]⟩)).setCell ⟨u,0,none⟩ (.int .i64 f)).setCell ⟨u,1,none⟩ (.int .i64 k)).drew:=(((((HB3.out.setCell (p:=⟨z,0,none⟩) (Nat.le_refl _) _).setCell (p:=⟨z,1,none⟩) (Nat.le_refl _) _).setCell (p:=⟨z,2,none⟩) (Nat.le_refl _) _).setCell (p:=⟨u,0,none⟩) (by show z ≤ u;omega) _).setCell (p:=⟨u,1,none⟩) (by show z ≤ u;omega) _).drew
   refine bodyPost_ret (v:=.tuple #[.agg #[.slice none 0 0,.slice none 0 0,.string ⟨#[]⟩],.agg #[.int .i64 f,.int .i64 k]]) (results_c2 rfl _ _ _ ⟨z,0,none⟩ ⟨u,0,none⟩ _ _ rfl rfl hS.load hF.load) rfl ?_
   exact ⟨by rw [HZ.out];exact hb,.inl ⟨f,k,HFL.out,rfl⟩⟩
 · have hdc2:=hdc.mono fun g (hg : Fr w1 w2 g)=>(show u < g ∧ g < w2.heap.size from ⟨by have:=hg.1;omega,hg.2⟩)
   have hbd2:=hbd.mono fun g (hg : Fr w1 w2 g)=>(show u < g ∧ g < w2.heap.size from ⟨by have:=hg.1;omega,hg.2⟩)
   clear hdc hbd
   have e1 : (w2.alloc (.cells #[.slice d.A d.n d.d,.slice q.A q.n q.d] 25)).heap.size = w2.heap.size + 1:=Array.size_push _
   have e2 : ((w2.alloc (.cells #[.slice d.A d.n d.d,.slice q.A q.n q.d] 25)).alloc (.cells #[.int .i64 0,.int .i64 0] 28)).heap.size = (w2.alloc (.cells #[.slice d.A d.n d.d,.slice q.A q.n q.d] 25)).heap.size + 1:=Array.size_push _
   have hl1 : Below w2.heap.size w2 (w2.alloc (.cells #[.slice d.A d.n d.d,.slice q.A q.n q.d] 25)):=(Below.refl _ w2).alloc (Nat.le_refl _) _
   have hl2 : Below (w2.alloc (.cells #[.slice d.A d.n d.d,.slice q.A q.n q.d] 25)).heap.size (w2.alloc (.cells #[.slice d.A d.n d.d,.slice q.A q.n q.d] 25)) ((w2.alloc (.cells #[.slice d.A d.n d.d,.slice q.A q.n q.d] 25)).alloc (.cells #[.int .i64 0,.int .i64 0] 28)):=(Below.refl _ _).alloc (Nat.le_refl _) _
   rw [e1] at hl2
   have hlb : Below w2.heap.size w2 ((w2.alloc (.cells #[.slice d.A d.n d.d,.slice q.A q.n q.d] 25)).alloc (.cells #[.int .i64 0,.int .i64 0] 28)):=hl1.trans (hl2.mono (Nat.le_succ _))
   have hy:=heap_alloc_new w2 (.cells #[.slice d.A d.n d.d,.slice q.A q.n q.d] 25)
   have HY3:=hid (show SoB ((w2.alloc (.cells #[.slice d.A d.n d.d,.slice q.A q.n q.d] 25)).alloc (.cells #[.int .i64 0,.int .i64 0] 28)) w2.heap.size ⟨d.A,d.n,d.d⟩ ⟨q.A,q.n,q.d⟩ from SoB.far (show SoB (w2.alloc (.cells #[.slice d.A d.n d.d,.slice q.A q.n q.d] 25)) w2.heap.size ⟨d.A,d.n,d.d⟩ ⟨q.A,q.n,q.d⟩ from hy) (hl2.block _ (Nat.lt_succ_self _)))
   have hx:=heap_alloc_new (w2.alloc (.cells #[.slice d.A d.n d.d,.slice q.A q.n q.d] 25)) (.cells #[.int .i64 0,.int .i64 0] 28)
   rw [e1] at hx
   have HX3:=hid (show Flt ((w2.alloc (.cells #[.slice d.A d.n d.d,.slice q.A q.n q.d] 25)).alloc (.cells #[.int .i64 0,.int .i64 0] 28)) (w2.heap.size + 1) 0 0 from hx)
   have HB3:=hid (HB2.out.trans (hlb.mono (by omega)))
   have HE3:=hid (HE2.out.far (hlb.block z (by omega)))
   have HG3:=hid (show Flt ((w2.alloc (.cells #[.slice d.A d.n d.d,.slice q.A q.n q.d] 25)).alloc (.cells #[.int .i64 0,.int .i64 0] 28)) u 0 0 from (hlb.block u (by omega)).trans HG2.out)
   have hs3 : w2.heap.size + 2 ≤ ((w2.alloc (.cells #[.slice d.A d.n d.d,.slice q.A q.n q.d] 25)).alloc (.cells #[.int .i64 0,.int .i64 0] 28)).heap.size:=by rw [e2,e1];exact Nat.le_refl _
   clear hy hx hl1 hl2 e2
   obtain ⟨y,hy⟩ : ∃ y,w2.heap.size = y:=⟨_,rfl⟩
   have HDC:=hid (hdc2.keep fun g hg=>hlb.block g hg.2)
   have HBD:=hid (hbd2.keep fun g hg=>hlb.block g hg.2)
   have HOK:=hid hok
   have HT3:=hid (HTX.out.on (HB3.out) (Nat.le_refl _))
   clear hdc2 hbd2 hok hb2
   go_upto_region 2 with fail
   (try rw [e1])
   have hy2 : u + 1 ≤ y:=by omega
   rw [hy] at HY3 HX3 HDC HBD hs3
   (try rw [hy])
   clear hlb e1 hy hs2 HB2 HE2 HG2
   generalize ((w2.alloc (.cells #[.slice d.A d.n d.d,.slice q.A q.n q.d] 25)).alloc (.cells #[.int .i64 0,.int .i64 0] 28)) = w3 at *
   have x0:=HX3.out.c0
   have x1:=HX3.out.c1
   have y0:=HY3.out.c0
   have y1:=HY3.out.c1
   go_upto_region 4 with fail
   clear x0 x1 y0 y1
   have HYd:=hid (show SoB w3.drew y d q from HY3.out)
   have HEd:=hid (show DoB w3.drew z .zero .zero ⟨#[]⟩ from HE3.out)
   have HGd:=hid (show Flt w3.drew u 0 0 from HG3.out)
   have HBd:=hid HB3.out.drew
   have hsd : y + 2 ≤ w3.drew.heap.size:=hs3
   have HTd:=hid (HT3.out.on ((Below.refl w3.heap.size w3).drew) (by omega))
   have HDd:=hid (show DcL (fun g=>u < g ∧ g < y) w3.drew ds d from HDC.out.keep fun _ _=>rfl)
   have HSd:=hid (show BdV (fun g=>u < g ∧ g < y) w3.drew b q from HBD.out.keep fun _ _=>rfl)
   clear HY3 HE3 HG3 HB3 hs3 HT3 HDC HBD HX3
   obtain ⟨TX,hTX⟩ : ∃ TX,sb (txSrc ds b) = TX:=⟨_,rfl⟩
   have HTT:=hid hTX
   clear hTX
   have HBT:=hid (show Tryd.prog.built 36 [(0,.agg #[.slice d.A d.n d.d,.slice q.A q.n q.d]),(1,.string TX)] = some #[.slice d.A d.n d.d,.slice q.A q.n q.d,.string TX] by kernel_rfl)
   refine wp_region_noPanic ?_
   refine wp_region_held_drew (S:=fun W=>W.cell? ⟨y,0,none⟩ = some (.slice d.A d.n d.d) ∧ W.cell? ⟨y,1,none⟩ = some (.slice q.A q.n q.d)) (by kernel_rfl) ?_ (fun hHeld=>?_)
   · (try dsimp only)
     exact ⟨HYd.out.c0,HYd.out.c1⟩
   generalize w3.drew = w3 at *
   apply tkH 0
   apply tkH 1
   apply tkH 4
   refine wpAnyH_ready (rs:=[2]) (by kernel_rfl) (by simp) ?_
   refine AllReadyH.cons rfl (fun K hK=>?_) AllReadyH.nil
   go_simp
   refine (Print_any ds b d q (fun g=>u < g ∧ g < y) w3 (tabx_more HTd.out (by omega)) HDd.out HSd.out (fun g hg=>by have:=hg.2;omega) (HFT.out ds b HOK.out).1 (HFT.out ds b HOK.out).2.1 (HFT.out ds b HOK.out).2.2).mono ?_
   rintro e w4 ⟨rfl,hbg⟩
   rw [HTT.out]
   have HY4:=hid (HYd.out.far (hbg.block y (by omega)))
   have HE4:=hid (HEd.out.far (hbg.block z (by omega)))
   have HG4:=hid (show Flt w4 u 0 0 from (hbg.block u (by omega)).trans HGd.out)
   have HB4:=hid (HBd.out.trans (hbg.mono (by omega)))
   have hs4:=Nat.le_trans hsd hbg.size
   have HDC4:=hid (HDd.out.keep fun g hg=>hbg.block g (by have:=hg.2;omega))
   have HBD4:=hid (HSd.out.keep fun g hg=>hbg.block g (by have:=hg.2;omega))
   clear hbg HYd HEd HGd HBd hsd HDd HSd HTd
   (try dsimp only)
   first | (refine hK.out _ _ ?_ (fun hHeld=>?_)) | (go_wp2_with fail;refine hK.out _ _ ?_ (fun hHeld=>?_))
   · (try dsimp only)
     exact ⟨HY4.out.c0,HY4.out.c1⟩
   clear hK K
   (try simp only [List.getElem_toArray,List.getElem_cons_zero,List.getElem_cons_succ,Act.put,List.setIfInBounds_toArray,List.set_cons_zero,List.set_cons_succ])
   refine wpAnyH_ready (rs:=[3]) (by kernel_rfl) (by simp) ?_
   refine AllReadyH.cons rfl (fun K hK=>?_) AllReadyH.nil
   refine wp_litT 36 [(0,.tmp 16),(1,.tmp 18)] rfl _ rfl #[.slice d.A d.n d.d,.slice q.A q.n q.d,.string TX] HBT.out ?_
   first | (refine hK.out _ _ ?_ (fun hHeld=>?_)) | (go_wp2_with fail;refine hK.out _ _ ?_ (fun hHeld=>?_))
   · (try dsimp only)
     exact ⟨HY4.out.c0,HY4.out.c1⟩
   clear hK K
   (try simp only [List.getElem_toArray,List.getElem_cons_zero,List.getElem_cons_succ,Act.put,List.setIfInBounds_toArray,List.set_cons_zero,List.set_cons_succ])
   refine wpAnyH_ready (rs:=[5]) (by kernel_rfl) (by simp) ?_
   refine AllReadyH.cons rfl (fun K hK=>?_) AllReadyH.nil
   have e0:=HE4.out.c0
   have e1:=HE4.out.c1
   have e2:=HE4.out.c2
   have e3:=HE4.out.free 0
   have e4:=HE4.out.free 1
   have e5:=HE4.out.free 2
   go_simp
   clear e0 e1 e2 e3 e4 e5
   have hf1 : ∀ g,g ≠ z → (((w4.setCell ⟨z,0,none⟩ (.slice d.A d.n d.d)).setCell ⟨z,1,none⟩ (.slice q.A q.n q.d)).setCell ⟨z,2,none⟩ (.string TX)).heap[g]? = w4.heap[g]?:=fun g hg=>((Below.heap_setCell _ ⟨z,2,none⟩ _ g hg).trans (Below.heap_setCell _ ⟨z,1,none⟩ _ g hg)).trans (Below.heap_setCell _ ⟨z,0,none⟩ _ g hg)
   have HE5:=hid (DoB.put HE4.out d q TX)
   have HG5:=hid (show Flt (((w4.setCell ⟨z,0,none⟩ (.slice d.A d.n d.d)).setCell ⟨z,1,none⟩ (.slice q.A q.n q.d)).setCell ⟨z,2,none⟩ (.string TX)) u 0 0 from (hf1 u (by omega)).trans HG4.out)
   have HY5:=hid (HY4.out.far (hf1 y (by omega)))
   have HB5:=hid (((HB4.out.setCell (p:=⟨z,0,none⟩) (Nat.le_refl _) (.slice d.A d.n d.d)).setCell (p:=⟨z,1,none⟩) (Nat.le_refl _) (.slice q.A q.n q.d)).setCell (p:=⟨z,2,none⟩) (Nat.le_refl _) (.string TX))
   have hs5 : y + 2 ≤ (((w4.setCell ⟨z,0,none⟩ (.slice d.A d.n d.d)).setCell ⟨z,1,none⟩ (.slice q.A q.n q.d)).setCell ⟨z,2,none⟩ (.string TX)).heap.size:=by rw [World.size_setCell,World.size_setCell,World.size_setCell];exact hs4
   have HDC5:=hid (HDC4.out.keep fun g hg=>hf1 g (by have:=hg.1;omega))
   have HBD5:=hid (HBD4.out.keep fun g hg=>hf1 g (by have:=hg.1;omega))
   clear HE4 HG4 HY4 HB4 hs4 HDC4 HBD4 hf1
   generalize (((w4.setCell ⟨z,0,none⟩ (.slice d.A d.n d.d)).setCell ⟨z,1,none⟩ (.slice q.A q.n q.d)).setCell ⟨z,2,none⟩ (.string TX)) = w5 at *
   first | (refine hK.out _ _ ?_ (fun hHeld=>?_)) | (go_wp2_with fail;refine hK.out _ _ ?_ (fun hHeld=>?_))
   · (try dsimp only)
     exact ⟨HY5.out.c0,HY5.out.c1⟩
   clear hK K
   (try simp only [List.getElem_toArray,List.getElem_cons_zero,List.getElem_cons_succ,Act.put,List.setIfInBounds_toArray,List.set_cons_zero,List.set_cons_succ])
   refine wpAnyH_ready (rs:=[6]) (by kernel_rfl) (by simp) ?_
   refine AllReadyH.cons rfl (fun K hK=>?_) AllReadyH.nil
   have g0:=HG5.out.c0
   have g1:=HG5.out.c1
   have g2:=HG5.out.free 0
   have g3:=HG5.out.free 1
   go_simp
   clear g0 g1 g2 g3
   have hf2 : ∀ g,g ≠ u → ((w5.setCell ⟨u,0,none⟩ (.int .i64 0)).setCell ⟨u,1,none⟩ (.int .i64 0)).heap[g]? = w5.heap[g]?:=fun g hg=>(Below.heap_setCell _ ⟨u,1,none⟩ _ g hg).trans (Below.heap_setCell _ ⟨u,0,none⟩ _ g hg)
   have HG6:=hid (Flt.put HG5.out 0 0)
   have HE6:=hid (HE5.out.far (hf2 z (by omega)))
   have HY6:=hid (HY5.out.far (hf2 y (by omega)))
   have HB6:=hid ((HB5.out.setCell (p:=⟨u,0,none⟩) (by show z ≤ u;omega) (.int .i64 0)).setCell (p:=⟨u,1,none⟩) (by show z ≤ u;omega) (.int .i64 0))
   have hs6 : y + 2 ≤ ((w5.setCell ⟨u,0,none⟩ (.int .i64 0)).setCell ⟨u,1,none⟩ (.int .i64 0)).heap.size:=by rw [World.size_setCell,World.size_setCell];exact hs5
   have HDC6:=hid (HDC5.out.keep fun g hg=>hf2 g (by have:=hg.1;omega))
   have HBD6:=hid (HBD5.out.keep fun g hg=>hf2 g (by have:=hg.1;omega))
   clear HE5 HG5 HY5 HB5 hs5 HDC5 HBD5 hf2
   generalize ((w5.setCell ⟨u,0,none⟩ (.int .i64 0)).setCell ⟨u,1,none⟩ (.int .i64 0)) = w6 at *
   first | (refine hK.out _ _ ?_ (fun hHeld=>?_)) | (go_wp2_with fail;refine hK.out _ _ ?_ (fun hHeld=>?_))
   · (try dsimp only)
     exact ⟨HY6.out.c0,HY6.out.c1⟩
   clear hK K
   (try simp only [List.getElem_toArray,List.getElem_cons_zero,List.getElem_cons_succ,Act.put,List.setIfInBounds_toArray,List.set_cons_zero,List.set_cons_succ])
   refine wpAnyH_done (by kernel_rfl) ?_ _
   refine NoPanic.normal ?_
   skip
   go_wp2_with fail
   refine bodyPost_ret (v:=.tuple #[.agg #[.slice d.A d.n d.d,.slice q.A q.n q.d,.string TX],.agg #[.int .i64 0,.int .i64 0]]) (results_c2 rfl _ _ _ ⟨z,0,none⟩ ⟨u,0,none⟩ _ _ rfl rfl HE6.out.load HG6.out.load) rfl ?_
   have hzw:=HZ.out
   refine ⟨by rw [hzw];exact HB6.out,.inr ⟨ds,b,HOK.out,d,q,by rw [HTT.out],HDC6.out.mono fun g hg=>⟨by have:=hg.1;omega,by have:=hg.2;omega⟩,HBD6.out.mono fun g hg=>⟨by have:=hg.1;omega,by have:=hg.2;omega⟩⟩⟩
end
end Go.Proofs.YtgmjpnnblhkbpaaDoor
namespace Tx
def Fn (t : Tk) : Prop:=Gd t ∧ t.text.length ≤ 8000
theorem fn_suf {a b : List Tk} (hs : Suf a b) (hg : ∀ t ∈ b,Fn t) : ∀ t ∈ a,Fn t:=fun t ht=>by
 obtain ⟨x,rfl⟩:=hs
 exact hg t (by simp [ht])
def rl (l : List Pc) : Nat:=(rend l).length
theorem rl_nil : rl [] = 0:=rfl
theorem rl_app (a b : List Pc) : rl (a ++ b) = rl a + rl b:=by rw [rl,rend_app,List.length_append];rfl
theorem rl_bl (b : Bs) (l : List Pc) : rl (.bl b :: l) = b.length + rl l:=by rw [rl,rend,List.length_append];rfl
theorem rl_tk (t : Tk) (l : List Pc) : rl (.tk t :: l) = (spell t).length + rl l:=by rw [rl,rend,List.length_append];rfl
theorem rl_sp (l : List Pc) : rl (sp :: l) = 1 + rl l:=rl_bl _ _
theorem rl_ind (d : Nat) (l : List Pc) : rl (ind d :: l) = 2 * d + rl l:=by rw [ind,rl_bl,List.length_replicate]
theorem rl_name (x : Bs) (l : List Pc) : rl (.tk (tName x) :: l) = x.length + rl l:=by rw [rl_tk];rfl
theorem rl_word (x : Bs) (l : List Pc) : rl (.tk (tWord x) :: l) = x.length + rl l:=by rw [rl_tk];rfl
theorem rl_mark (x : Bs) (l : List Pc) : rl (.tk (tMark x) :: l) = x.length + rl l:=by rw [rl_tk];rfl
theorem rl_par (b : Bool) (l : List Pc) : rl (parP b l) ≤ rl l + 2:=by
 unfold parP
 split
 · rw [rl_mark,rl_app,rl_mark,rl_nil];simp only [kLp,kRp,List.length_cons,List.length_nil];omega
 · omega
theorem rl_bin (o : Bs) (x y : Ex) : rl (pcE (.bin o x y)) ≤ rl (pcE x) + rl (pcE y) + o.length + 6:=by
 rw [pcE,rl_app,rl_bl,rl_mark,rl_bl]
 have h1:=rl_par (o == kStar && x.isSum) (pcE x)
 have h2:=rl_par (y.isSum || (o == kStar && y.isProd)) (pcE y)
 simp only [List.length_cons,List.length_nil]
 omega
theorem rl_R_app : ∀ (l : List Ex) (e : Ex),rl (pcR (l ++ [e])) = rl (pcR l) + 2 + rl (pcE e)
 | [],e=>by simp only [List.nil_append,pcR,rl_mark,rl_bl,rl_app,rl_nil,kComma,List.length_cons,List.length_nil];omega
 | x :: l,e=>by
   have:=rl_R_app l e
   simp only [List.cons_append,pcR,rl_mark,rl_bl,rl_app,this,kComma,List.length_cons,List.length_nil];omega
theorem rl_J_app (l : List Ex) (e : Ex) : rl (pcJ (l ++ [e])) ≤ rl (pcJ l) + 2 + rl (pcE e):=by
 cases l with
 | nil=>simp only [List.nil_append,pcJ,pcR,rl_app,rl_nil];omega
 | cons x l=>
   have:=rl_R_app l e
   simp only [List.cons_append,pcJ,rl_app,this];omega
theorem rl_join (l : List Ex) : rl (pcE (.join l)) = rl (pcJ l) + 6:=by
 rw [pcE,rl_word,rl_mark,rl_app,rl_mark,rl_nil]
 simp only [kJoin,kLp,kRp,List.length_cons,List.length_nil]
 omega
theorem isT_ne {r : List Tk} {xs : List Bs} (h : isT r xs = true) : r ≠ []:=by
 rintro rfl
 simp [isT,pk,endT] at h
theorem tail_len {r : List Tk} (h : r ≠ []) : r.tail.length + 1 = r.length:=by
 cases r with
 | nil=>exact absurd rfl h
 | cons t r=>simp
theorem sees_len {s : PS} {xs : List Bs} (h : sees s xs = true) : (nx s).1.length + 1 = s.1.length:=tail_len (isT_ne (sees_ok h).2)
theorem knd_len {s : PS} {k : Int} (h : knd s k = true) (hk : k ≠ 6) : (nx s).1.length + 1 = s.1.length ∧ pk s.1 ∈ s.1:=by
 have h2:=(knd_ok h).2
 have h3 : pk s.1 ∈ s.1:=pk_mem (by rw [h2];exact hk)
 exact ⟨tail_len (List.ne_nil_of_mem h3),h3⟩
theorem sees_mem {s : PS} {xs : List Bs} (h : sees s xs = true) : pk s.1 ∈ s.1:=by
 have h2:=(sees_ok h).2
 refine pk_mem fun h3=>?_
 simp [isT,h3] at h2
theorem takeS_len {s : PS} {x : Bs} (h : (takeS s x).2 = 0) : (takeS s x).1.length + 1 = s.1.length:=by
 obtain ⟨_,h2,h3⟩:=takeS_ok h
 rw [h3]
 exact tail_len (isT_ne h2)
theorem openS_len {k : Nat} {s : PS} (h : (openS k s).2 = 0) : (openS k s).1.length + 1 = s.1.length:=by
 obtain ⟨_,h2,_,h3⟩:=openS_ok h
 rw [h3]
 exact tail_len (isT_ne h2)
theorem bodyS_len {b : Nat} {s : PS} (h : (bodyS b s).2 = 0) : (bodyS b s).1.length + 1 = s.1.length:=by
 obtain ⟨_,h2,_,h3⟩:=bodyS_ok h
 rw [h3]
 exact tail_len (isT_ne h2)
theorem refS_len {s : PS} (hg : ∀ t ∈ s.1,Fn t) (h : (refS s).2.2 = 0) : (refS s).2.1.length + 1 = s.1.length ∧ (refS s).1.length ≤ 8000:=by
 obtain ⟨_,h2,h3⟩:=refS_ok h
 have h4 : pk s.1 ∈ s.1:=pk_mem (by rw [h2];decide)
 rw [h3]
 exact ⟨tail_len (List.ne_nil_of_mem h4),(hg _ h4).2⟩
theorem qb_len (c : UInt8) : (qb c).length ≤ 4:=by
 unfold qb
 split
 · show 2 ≤ 4;decide
 · split
   · show 2 ≤ 4;decide
   · split
     · show 4 ≤ 4;exact Nat.le_refl _
     · show 1 ≤ 4;decide
theorem quote_len (b : Bs) : (quoteB b).length ≤ 4 * b.length + 2:=by
 have : (b.flatMap qb).length ≤ 4 * b.length:=by
   induction b with
   | nil=>exact Nat.le_refl _
   | cons c b ih=>
     rw [List.flatMap_cons,List.length_append,List.length_cons]
     have:=qb_len c
     omega
 rw [quoteB,List.length_cons,List.length_append]
 simp only [List.length_cons,List.length_nil]
 omega
theorem gd_numlen {t : Tk} (h : Gd t) (hk : t.kind = 3) : rl (pcE (.num t.num)) ≤ 9:=by
 have h2:=gd_num h hk
 rw [pcE,rl_tk,rl_nil]
 have h3:=decN_len 8 t.num.toNat (by have:=h2.2;omega)
 show (decN t.num.toNat).length + 0 ≤ 9
 omega
def baseE : CallE → Nat
 | .sum a _=>rl (pcE a)
 | .prod a _=>rl (pcE a)
 | .args l _=>rl (pcJ l) + 6
 | _=>0
theorem RunE.len {k : Nat} {c : CallE} {e : Ex} {s : PS} (h : RunE k c e s) : (∀ t ∈ c.st.1,Fn t) → s.2 = 0 → rl (pcE e) + 40000 * s.1.length ≤ baseE c + 40000 * c.st.1.length:=by
 induction h with
 | expr a b i j=>
   intro hg h0
   have h1:=b.ok h0
   have h2:=i hg h1
   have h3:=j (fn_suf a.suf hg) h0
   simp only [baseE,CallE.st] at h2 h3 ⊢
   omega
 | @sumGo k s e r s1 e2 s2 hs a b i j=>
   intro hg h0
   have h1:=b.ok h0
   have g1 : ∀ t ∈ s1.1,Fn t:=fn_suf (a.suf.trans (Suf.tail _)) hg
   have h2:=i (fn_suf (Suf.tail _) hg) h1
   have h3:=j g1 h0
   have h4:=sees_len hs
   have h5 : (pk s.1).text.length ≤ 8000:=(hg _ (sees_mem hs)).2
   have h6:=rl_bin (pk s.1).text e r
   simp only [baseE,CallE.st] at h2 h3 ⊢
   omega
 | sumStop _=>intro hg h0;exact Nat.le_refl _
 | term a b i j=>
   intro hg h0
   have h1:=b.ok h0
   have h2:=i hg h1
   have h3:=j (fn_suf a.suf hg) h0
   simp only [baseE,CallE.st] at h2 h3 ⊢
   omega
 | @prodGo k s e r s1 e2 s2 hs a b i j=>
   intro hg h0
   have h1:=b.ok h0
   have g1 : ∀ t ∈ s1.1,Fn t:=fn_suf (a.suf.trans (Suf.tail _)) hg
   have h2:=i (fn_suf (Suf.tail _) hg) h1
   have h3:=j g1 h0
   have h4:=sees_len hs
   have h6:=rl_bin kStar e r
   have h7 : kStar.length = 1:=rfl
   simp only [baseE,CallE.st] at h2 h3 ⊢
   omega
 | prodStop _=>intro hg h0;exact Nat.le_refl _
 | @ftext k s hs=>
   intro hg h0
   obtain ⟨h4,h5⟩:=knd_len hs (by decide)
   have h6:=(hg _ h5).2
   have h7:=quote_len (pk s.1).text
   have h8 : rl (pcE (.text (pk s.1).text)) = (quoteB (pk s.1).text).length:=by rw [pcE,rl_tk,rl_nil];rfl
   simp only [baseE,CallE.st]
   omega
 | @fjoin k s e s1 j s2 h4 hs a b i j'=>
   intro hg h0
   have hk:=takeS_len h0
   have h1:=(takeS_ok h0).1
   have h2:=b.ok h1
   have h3:=a.ok h2
   have h5:=openS_len h3
   have g0 : ∀ t ∈ (nx s).1,Fn t:=fn_suf (Suf.tail _) hg
   have g1 : ∀ t ∈ (openS k (nx s)).1,Fn t:=fn_suf Suf.opn g0
   have h6:=i g1 h2
   have h7:=j' (fn_suf a.suf g1) h1
   have h8:=sees_len hs
   have h9 : rl (pcJ [e]) = rl (pcE e):=by simp only [pcJ,pcR,rl_app,rl_nil];rfl
   simp only [baseE,CallE.st] at h6 h7 h3 h5 ⊢
   omega
 | fatom _ _ a i=>intro hg h0;exact i hg h0
 | @argsGo k s l e s1 j s2 hs a b i j'=>
   intro hg h0
   have h1:=b.ok h0
   have g0 : ∀ t ∈ (nx s).1,Fn t:=fn_suf (Suf.tail _) hg
   have h2:=i g0 h1
   have h3:=j' (fn_suf a.suf g0) h0
   have h4:=sees_len hs
   have h5:=rl_J_app l e
   simp only [baseE,CallE.st] at h2 h3 ⊢
   omega
 | @argsStop k s l _=>
   intro hg h0
   simp only [baseE,CallE.st,rl_join]
   omega
 | @anum k s hs=>
   intro hg h0
   obtain ⟨h4,h5⟩:=knd_len hs (by decide)
   have h6:=gd_numlen (hg _ h5).1 (knd_ok hs).2
   simp only [baseE,CallE.st]
   omega
 | @aname k s _ hs=>
   intro hg h0
   obtain ⟨h4,h5⟩:=knd_len hs (by decide)
   have h6:=(hg _ h5).2
   have h8 : rl (pcE (.name (pk s.1).text)) = (pk s.1).text.length:=by rw [pcE,rl_name,rl_nil];rfl
   simp only [baseE,CallE.st]
   omega
 | @aparen k s e s1 _ _ hs a i=>
   intro hg h0
   have hk:=takeS_len h0
   have h1:=(takeS_ok h0).1
   have h3:=a.ok h1
   have h5:=openS_len h3
   have h6:=i (fn_suf Suf.opn hg) h1
   simp only [baseE,CallE.st] at h6 h3 h5 ⊢
   omega
 | abad _ _ _=>intro hg h0;exact absurd h0 (failS_bad (by decide))
theorem RunE.len0 {s s' : PS} {e : Ex} (h : RunE 0 (.expr s) e s') (hg : ∀ t ∈ s.1,Fn t) (h0 : s'.2 = 0) : rl (pcE e) + 40000 * s'.1.length ≤ 40000 * s.1.length:=by
 have:=h.len hg h0
 simp only [baseE,CallE.st] at this
 omega
theorem rl_Rs_app : ∀ (l : List Bs) (x : Bs),rl (pcRs (l ++ [x])) = rl (pcRs l) + 2 + x.length
 | [],x=>by simp only [List.nil_append,pcRs,rl_mark,rl_sp,rl_name,rl_nil,kComma,List.length_cons,List.length_nil];omega
 | y :: l,x=>by
   have:=rl_Rs_app l x
   simp only [List.cons_append,pcRs,rl_mark,rl_sp,rl_name,this,kComma,List.length_cons,List.length_nil];omega
theorem rl_routes_app (l : List Bs) (x : Bs) : rl (pcRoutes (l ++ [x])) ≤ rl (pcRoutes l) + 2 + x.length:=by
 cases l with
 | nil=>simp only [List.nil_append,pcRoutes,pcRs,rl_name,rl_nil];omega
 | cons y l=>
   have:=rl_Rs_app l x
   simp only [List.cons_append,pcRoutes,rl_name,this];omega
theorem rl_via (l : List Bs) : rl (pcVia l) = 5 + rl (pcRoutes l):=by
 rw [pcVia,rl_sp,rl_word,rl_sp]
 simp only [kVia,List.length_cons,List.length_nil]
 omega
theorem RefsR.len {l l2 : List Bs} {s s2 : PS} (h : RefsR l s l2 s2) : (∀ t ∈ s.1,Fn t) → s2.2 = 0 → rl (pcRoutes l2) + 40000 * s2.1.length ≤ rl (pcRoutes l) + 40000 * s.1.length:=by
 induction h with
 | @go l s l2 s2 hs a i=>
   intro hg h0
   have h1:=a.ok h0
   have g0 : ∀ t ∈ (nx s).1,Fn t:=fn_suf (Suf.tail _) hg
   obtain ⟨h2,h3⟩:=refS_len g0 h1
   have h4:=i (fn_suf refS_suf g0) h0
   have h5:=sees_len hs
   have h6:=rl_routes_app l (refS (nx s)).1
   omega
 | stop _=>intro hg h0;exact Nat.le_refl _
theorem ViaR.len {b : Bool} {l : List Bs} {s s2 : PS} (h : ViaR b s l s2) (hg : ∀ t ∈ s.1,Fn t) (h0 : s2.2 = 0) : rl (pcVia l) + 40000 * s2.1.length ≤ 40000 * s.1.length:=by
 rw [rl_via]
 have hone : (refS (takeS s kVia)).2.2 = 0 → rl (pcRoutes [(refS (takeS s kVia)).1]) + 5 + 40000 * (refS (takeS s kVia)).2.1.length ≤ 40000 * s.1.length:=fun h1=>by
   have h2:=(refS_ok h1).1
   have h3:=takeS_len h2
   obtain ⟨h4,h5⟩:=refS_len (fn_suf Suf.take hg) h1
   have h6 : rl (pcRoutes [(refS (takeS s kVia)).1]) = (refS (takeS s kVia)).1.length:=by simp only [pcRoutes,pcRs,rl_name,rl_nil];rfl
   omega
 cases h with
 | one=>have:=hone h0;omega
 | many a=>
   have h1:=hone (a.ok h0)
   have h2:=a.len (fn_suf (refS_suf.trans Suf.take) hg) h0
   omega
theorem rl_N (w x : Bs) (hw : w.length ≤ 10) : rl (pcN w x) ≤ 12 + x.length:=by
 unfold pcN
 split
 · rw [rl_nil];omega
 · rw [rl_sp,rl_word,rl_sp,rl_name,rl_nil];omega
theorem tagS_len {s : PS} (hg : ∀ t ∈ s.1,Fn t) (h : (tagS s).2.2 = 0) : rl (pcN kAs (tagS s).1) + 40000 * (tagS s).2.1.length ≤ 40000 * s.1.length:=by
 unfold tagS at h ⊢
 by_cases hs : sees s [kAs] = true
 · rw [if_pos hs] at h ⊢
   obtain ⟨h2,h3⟩:=refS_len (fn_suf (Suf.tail _) hg) h
   have h4:=sees_len hs
   have h5:=rl_N kAs (refS (nx s)).1 (by decide)
   have h6 : (nx s).1 = s.1.tail:=rfl
   omega
 · rw [if_neg hs]
   show rl (pcN kAs []) + 40000 * s.1.length ≤ _
   rw [pcN,if_pos rfl,rl_nil]
   omega
theorem withS_len {s : PS} (hg : ∀ t ∈ s.1,Fn t) (h : (withS s).2.2 = 0) : rl (pcN kWith (withS s).1) + 40000 * (withS s).2.1.length ≤ 40000 * s.1.length:=by
 unfold withS at h ⊢
 by_cases hs : sees s [kWith] = true
 · rw [if_pos hs] at h ⊢
   obtain ⟨h2,h3⟩:=refS_len (fn_suf (Suf.tail _) hg) h
   have h4:=sees_len hs
   have h5:=rl_N kWith (refS (nx s)).1 (by decide)
   have h6 : (nx s).1 = s.1.tail:=rfl
   omega
 · rw [if_neg hs]
   show rl (pcN kWith []) + 40000 * s.1.length ≤ _
   rw [pcN,if_pos rfl,rl_nil]
   omega
theorem LineR.kind {k : Bs} {s s2 : PS} {t : St} (h : LineR k s t s2) : t.kind = k:=by cases h <;> rfl
theorem LineR.len {k : Bs} {s s2 : PS} {t : St} (h : LineR k s t s2) (hg : ∀ t ∈ s.1,Fn t) (h0 : s2.2 = 0) : rl (pcLine t) + 40000 * s2.1.length ≤ 40 + 40000 * s.1.length:=by
 cases h with
 | @send _ a s1 l s3 a1 a2=>
   have h1:=tagS_ok h0
   have h2:=withS_ok h1
   have h3:=a2.ok h2
   have g1:=fn_suf a1.suf hg
   have g2:=fn_suf a2.suf g1
   have g3 : ∀ t ∈ (withS s3).2.1,Fn t:=fn_suf withS_suf g2
   have e1:=a1.len0 hg h3
   have e2:=a2.len g1 h2
   have e3:=withS_len g2 h1
   have e4:=tagS_len g3 h0
   show rl (pcLn kSend _ _ _ _ _ _ _) + _ ≤ _
   rw [pcLn,if_pos rfl]
   simp only [rl_word,rl_sp,rl_app,kSend,List.length_cons,List.length_nil]
   omega
 | @split _ a s1 l s3 a1 a2=>
   have h2:=tagS_ok h0
   have h3:=a2.ok h2
   have g1:=fn_suf a1.suf hg
   have g2:=fn_suf a2.suf g1
   have e1:=a1.len0 hg h3
   have e2:=a2.len g1 h2
   have e4:=tagS_len g2 h0
   show rl (pcLn kSplit _ _ _ _ _ _ _) + _ ≤ _
   rw [pcLn,if_neg (by decide),if_pos rfl]
   simp only [rl_word,rl_sp,rl_app,kSplit,List.length_cons,List.length_nil]
   omega
 | cover=>
   obtain ⟨h1,h2⟩:=refS_len hg h0
   show rl (pcLn kCover _ _ _ _ _ _ _) + _ ≤ _
   rw [pcLn,if_neg (by decide),if_neg (by decide),if_pos rfl]
   simp only [rl_word,rl_sp,pcRoutes,pcRs,rl_name,rl_nil,kCover,List.length_cons,List.length_nil]
   omega
 | wait a1=>
   have e1:=a1.len0 hg h0
   show rl (pcLn kWait _ _ _ _ _ _ _) + _ ≤ _
   rw [pcLn,if_neg (by decide),if_neg (by decide),if_neg (by decide),if_pos rfl]
   simp only [rl_word,rl_sp,kWait,List.length_cons,List.length_nil]
   omega
 | @block _ l s2 a2=>
   have h1:=a2.ok h0
   obtain ⟨h2,h3⟩:=refS_len hg h1
   have e2:=a2.len (fn_suf refS_suf hg) h0
   show rl (pcLn kBlock _ _ _ _ _ _ _) + _ ≤ _
   rw [pcLn,if_neg (by decide),if_neg (by decide),if_neg (by decide),if_neg (by decide),if_pos rfl]
   simp only [rl_word,rl_sp,rl_name,kBlock,List.length_cons,List.length_nil]
   omega
 | @retry _ a s1 b s2 c s3 l s4 a1 a2 a3 a4=>
   have h1:=tagS_ok h0
   have h2:=a4.ok h1
   have h3:=a3.ok h2
   have h4:=takeS_len h3
   have h5:=(takeS_ok h3).1
   have h6:=a2.ok h5
   have h7:=takeS_len h6
   have h8:=(takeS_ok h6).1
   have g1:=fn_suf a1.suf hg
   have g1' : ∀ t ∈ (takeS s1 kEvery).1,Fn t:=fn_suf Suf.take g1
   have g2:=fn_suf a2.suf g1'
   have g2' : ∀ t ∈ (takeS s2 kSend).1,Fn t:=fn_suf Suf.take g2
   have g3:=fn_suf a3.suf g2'
   have g4:=fn_suf a4.suf g3
   have e1:=a1.len0 hg h8
   have e2:=a2.len0 g1' h5
   have e3:=a3.len0 g2' h2
   have e4:=a4.len g3 h1
   have e5:=tagS_len g4 h0
   show rl (pcLn kRetry _ _ _ _ _ _ _) + _ ≤ _
   rw [pcLn,if_neg (by decide),if_neg (by decide),if_neg (by decide),if_neg (by decide),if_neg (by decide),if_pos rfl]
   simp only [rl_word,rl_sp,rl_app,kRetry,kEvery,kSend,List.length_cons,List.length_nil] at *
   omega
 | @every _ a s1 b s2 a1 a2=>
   have h1:=(refS_ok h0).1
   have h2:=takeS_len h1
   have h3:=(takeS_ok h1).1
   have h4:=a2.ok h3
   have h5:=takeS_len h4
   have h6:=(takeS_ok h4).1
   have g1:=fn_suf a1.suf hg
   have g1' : ∀ t ∈ (takeS s1 kTimes).1,Fn t:=fn_suf Suf.take g1
   have g2:=fn_suf a2.suf g1'
   obtain ⟨h7,h8⟩:=refS_len (fn_suf Suf.take g2) h0
   have e1:=a1.len0 hg h6
   have e2:=a2.len0 g1' h3
   show rl (pcLn kEvery _ _ _ _ _ _ _) + _ ≤ _
   rw [pcLn,if_neg (by decide),if_neg (by decide),if_neg (by decide),if_neg (by decide),if_neg (by decide),if_neg (by decide),if_pos rfl]
   simp only [rl_word,rl_sp,rl_app,pcRoutes,pcRs,rl_name,rl_nil,kEvery,kTimes,kCover,List.length_cons,List.length_nil] at *
   omega
theorem rl_L_app (d : Nat) : ∀ (a b : List St),rl (pcL d (a ++ b)) = rl (pcL d a) + rl (pcL d b)
 | [],b=>by rw [List.nil_append,pcL,rl_nil,Nat.zero_add]
 | t :: a,b=>by rw [List.cons_append,pcL,pcL,rl_ind,rl_ind,rl_app,rl_app,rl_L_app d a b];omega
theorem rl_L_one (d : Nat) (t : St) : rl (pcL d [t]) = 2 * d + rl (pcS d t):=by rw [pcL,rl_ind,rl_app,pcL,rl_nil];omega
theorem rl_B (d : Nat) (l : List St) : rl (pcB d l) = 4 + 2 * d + rl (pcL (d + 1) l):=by
 rw [pcB,rl_sp,rl_mark,rl_bl,rl_app,rl_ind,rl_mark,rl_nil]
 simp only [kLb,kRb,List.length_cons,List.length_nil]
 omega
theorem rl_X (d : Nat) (l : List St) : rl (pcX d l) ≤ 6 + rl (pcB d l):=by
 cases l with
 | nil=>rw [pcX,rl_nil];omega
 | cons t l=>
   rw [pcX,rl_sp,rl_word]
   simp only [kElse,List.length_cons,List.length_nil]
   omega
def baseS (b : Nat) : CallS → Nat
 | .stmts a _=>rl (pcL b a)
 | _=>0
def madeS (b : Nat) (l : List St) : CallS → Nat
 | .body _=>rl (pcB b l)
 | _=>rl (pcL b l)
theorem RunS.len {b : Nat} {c : CallS} {l : List St} {s : PS} (h : RunS b c l s) : b ≤ 12 → (∀ t ∈ c.st.1,Fn t) → s.2 = 0 → madeS b l c + 40000 * s.1.length ≤ baseS b c + 40000 * c.st.1.length:=by
 induction h with
 | bad _=>exact fun _ _ h=>absurd h (failS_bad (by decide))
 | @after b s a s1 l s2 hs h2 a1 b1 i=>
   intro hb hg h0
   have g0 : ∀ t ∈ (nx s).1,Fn t:=fn_suf (Suf.tail _) hg
   have h1:=b1.ok h0
   have e1:=a1.len0 g0 h1
   have e2:=i hb (fn_suf a1.suf g0) h0
   have e3:=sees_len hs
   simp only [madeS,baseS,CallS.st,rl_L_one] at e2 ⊢
   rw [pcS,if_pos rfl]
   simp only [rl_app,rl_word,rl_sp,rl_bl,rl_nil,kAfter,List.length_cons,List.length_nil]
   omega
 | @rpt b s a s1 l s2 hs h2 a1 b1 i=>
   intro hb hg h0
   have g0 : ∀ t ∈ (nx s).1,Fn t:=fn_suf (Suf.tail _) hg
   have h1:=b1.ok h0
   have h3:=a1.ok h1
   obtain ⟨e4,e5⟩:=refS_len g0 h3
   have g1 : ∀ t ∈ (refS (nx s)).2.1,Fn t:=fn_suf refS_suf g0
   have e1:=a1.len0 g1 h1
   have e2:=i hb (fn_suf a1.suf g1) h0
   have e3:=sees_len hs
   simp only [madeS,baseS,CallS.st,rl_L_one] at e2 ⊢
   rw [pcS,if_neg (by decide),if_pos rfl]
   simp only [rl_app,rl_word,rl_sp,rl_name,rl_bl,rl_nil,kRepeat,List.length_cons,List.length_nil]
   omega
 | @ifOne b s l s1 hs h2 b1 h3 i=>
   intro hb hg h0
   have g0 : ∀ t ∈ (nx s).1,Fn t:=fn_suf (Suf.tail _) hg
   have h1 : (refS (takeS (nx s) kAcked)).2.2 = 0:=b1.ok h0
   have h4:=(refS_ok h1).1
   have e1:=takeS_len h4
   have g1 : ∀ t ∈ (takeS (nx s) kAcked).1,Fn t:=fn_suf Suf.take g0
   obtain ⟨e4,e5⟩:=refS_len g1 h1
   have e2:=i hb (fn_suf refS_suf g1) h0
   have e3:=sees_len hs
   simp only [madeS,baseS,CallS.st,rl_L_one] at e2 ⊢
   rw [pcS,if_neg (by decide),if_neg (by decide),if_pos rfl,pcX]
   simp only [rl_app,rl_word,rl_sp,rl_name,rl_bl,rl_nil,kIf,kAcked,List.length_cons,List.length_nil] at *
   omega
 | @ifTwo b s l s1 m s2 hs h2 b1 h3 b2 i j=>
   intro hb hg h0
   have g0 : ∀ t ∈ (nx s).1,Fn t:=fn_suf (Suf.tail _) hg
   have h5:=(sees_ok h3).1
   have h1 : (refS (takeS (nx s) kAcked)).2.2 = 0:=b1.ok h5
   have h4:=(refS_ok h1).1
   have e1:=takeS_len h4
   have g1 : ∀ t ∈ (takeS (nx s) kAcked).1,Fn t:=fn_suf Suf.take g0
   obtain ⟨e4,e5⟩:=refS_len g1 h1
   have g2 : ∀ t ∈ (refS (takeS (nx s) kAcked)).2.1,Fn t:=fn_suf refS_suf g1
   have g3 : ∀ t ∈ s1.1,Fn t:=fn_suf b1.suf g2
   have e2:=i hb g2 h5
   have e6:=j hb (fn_suf (Suf.tail _) g3) h0
   have e3:=sees_len hs
   have e7:=sees_len h3
   have e8:=rl_X b m
   simp only [madeS,baseS,CallS.st,rl_L_one] at e2 e6 ⊢
   rw [pcS,if_neg (by decide),if_neg (by decide),if_pos rfl]
   simp only [rl_app,rl_word,rl_sp,rl_name,rl_bl,rl_nil,kIf,kAcked,List.length_cons,List.length_nil] at *
   omega
 | @line b s t s1 hs h1 h2 h3 a1=>
   intro hb hg h0
   have g0 : ∀ t ∈ (nx s).1,Fn t:=fn_suf (Suf.tail _) hg
   have e1:=takeS_len h0
   have e2:=a1.len g0 (takeS_ok h0).1
   have e3:=sees_len hs
   have hk:=a1.kind
   obtain ⟨kind,name,ea,eb,ec,routes,block,tag,body,els⟩:=t
   have hk' : kind = (pk s.1).text:=hk
   subst hk'
   simp only [madeS,baseS,CallS.st,rl_L_one] at e2 ⊢
   rw [pcS,if_neg h1,if_neg h2,if_neg h3]
   have e4 : rl (pcLine (.mk (pk s.1).text name ea eb ec routes block tag body els)) = rl (pcLn (pk s.1).text name ea eb ec routes block tag):=rfl
   simp only [rl_app,rl_mark,rl_bl,rl_nil,kSemi,List.length_cons,List.length_nil] at *
   omega
 | @body b s l s1 b1 i=>
   intro hb hg h0
   have h1:=(takeS_ok h0).1
   have e1:=takeS_len h0
   have h2 : (bodyS b s).2 = 0:=b1.ok h1
   have h3:=(bodyS_ok h2).2.2.1
   have e2:=bodyS_len h2
   have e3:=i (by omega) (fn_suf Suf.bdy hg) h1
   simp only [madeS,baseS,CallS.st,pcL,rl_nil] at e3 ⊢
   rw [rl_B]
   omega
 | @stmtsGo b s l t s1 m s2 h1 h2 a1 b1 i j=>
   intro hb hg h0
   have h3:=b1.ok h0
   have e1:=i hb hg h3
   have e2:=j hb (fn_suf a1.suf hg) h0
   simp only [madeS,baseS,CallS.st,rl_L_app] at e1 e2 ⊢
   omega
 | stmtsEnd _ _=>intro hb hg h0;exact Nat.le_refl _
 | stmtsBad h1=>intro hb hg h0;exact absurd h0 h1
theorem TopR.len {l l2 : List St} {s s2 : PS} (h : TopR l s l2 s2) : (∀ t ∈ s.1,Fn t) → s2.2 = 0 → rl (pcL 0 l2) + 40000 * s2.1.length ≤ rl (pcL 0 l) + 40000 * s.1.length:=by
 induction h with
 | @go l s t s1 l2 s2 h1 h2 a b i=>
   intro hg h0
   have h3:=b.ok h0
   have e1:=a.len (by omega) hg h3
   have e2:=i (fn_suf a.suf hg) h0
   simp only [madeS,baseS,CallS.st,rl_L_app] at e1 e2 ⊢
   omega
 | fin _ _=>intro hg h0;exact Nat.le_refl _
 | bad h1=>intro hg h0;exact absurd h0 h1
theorem rl_at (x : Bs) (e : Ex) : rl (pcAt x e) ≤ x.length + 2 + rl (pcE e):=by
 cases e with
 | none=>rw [pcAt,rl_nil];omega
 | _=>
   rw [pcAt]
   · rw [rl_mark]
     have:=rl_par
     exact Nat.le_trans (Nat.add_le_add_left (this _ _) _) (by omega)
   · intro h;cases h
theorem OptA.len {x : Bs} {s s' : PS} {e : Ex} (hx : x.length ≤ 10) (h : OptA x s e s') (hg : ∀ t ∈ s.1,Fn t) (h0 : s'.2 = 0) : rl (pcAt x e) + 40000 * s'.1.length ≤ 40000 * s.1.length:=by
 cases h with
 | yes hs a=>
   have e1:=a.len (fn_suf (Suf.tail _) hg) h0
   have e2:=sees_len hs
   have e3:=rl_at x e
   simp only [baseE,CallE.st] at e1
   omega
 | no _=>rw [pcAt,rl_nil];omega
theorem rl_pl (p : Pl) : rl (pcPl p) = p.node.length + rl (pcAt kAt p.delay) + rl (pcAt kBang p.flags):=by rw [pcPl,rl_name,rl_app];omega
theorem PlaceR.len {s s' : PS} {p : Pl} (h : PlaceR s p s') (hg : ∀ t ∈ s.1,Fn t) (h0 : s'.2 = 0) : rl (pcPl p) + 40000 * s'.1.length ≤ 40000 * s.1.length:=by
 cases h with
 | @mk d s1 f _ a b=>
   have h1:=b.ok h0
   have h2:=a.ok h1
   obtain ⟨e1,e2⟩:=refS_len hg h2
   have g1 : ∀ t ∈ (refS s).2.1,Fn t:=fn_suf refS_suf hg
   have e3:=a.len (by decide) g1 h1
   have e4:=b.len (by decide) (fn_suf a.suf g1) h0
   rw [rl_pl]
   show (refS s).1.length + rl (pcAt kAt d) + rl (pcAt kBang f) + _ ≤ _
   omega
theorem rl_pr_app : ∀ (l : List Pl) (p : Pl),rl (pcPr (l ++ [p])) = rl (pcPr l) + 3 + rl (pcPl p)
 | [],p=>by simp only [List.nil_append,pcPr,rl_sp,rl_mark,rl_app,rl_nil,kGt,List.length_cons,List.length_nil];omega
 | q :: l,p=>by
   have:=rl_pr_app l p
   simp only [List.cons_append,pcPr,rl_sp,rl_mark,rl_app,this,kGt,List.length_cons,List.length_nil];omega
theorem rl_pls_app (l : List Pl) (p : Pl) : rl (pcPls (l ++ [p])) ≤ rl (pcPls l) + 3 + rl (pcPl p):=by
 cases l with
 | nil=>simp only [List.nil_append,pcPls,pcPr,rl_app,rl_nil];omega
 | cons q l=>
   have:=rl_pr_app l p
   simp only [List.cons_append,pcPls,rl_app,this];omega
theorem PlacesR.len {l l2 : List Pl} {s s2 : PS} (h : PlacesR l s l2 s2) : (∀ t ∈ s.1,Fn t) → s2.2 = 0 → rl (pcPls l2) + 40000 * s2.1.length ≤ rl (pcPls l) + 40000 * s.1.length:=by
 induction h with
 | @go l s p s1 l2 s2 hs a b i=>
   intro hg h0
   have h1:=b.ok h0
   have g0 : ∀ t ∈ (nx s).1,Fn t:=fn_suf (Suf.tail _) hg
   have e1:=a.len g0 h1
   have e2:=i (fn_suf a.suf g0) h0
   have e3:=sees_len hs
   have e4:=rl_pls_app l p
   omega
 | stop _=>intro hg h0;exact Nat.le_refl _
set_option maxRecDepth 100000 in
theorem DeclR.len {s s' : PS} {d : Dc} (h : DeclR s d s') (hs : sees s [kLet,kRoute] = true) (hg : ∀ t ∈ s.1,Fn t) (h0 : s'.2 = 0) : rl (pcD d) + 40000 * s'.1.length ≤ 40000 * s.1.length:=by
 have e0:=sees_len hs
 have g0 : ∀ t ∈ (nx s).1,Fn t:=fn_suf (Suf.tail _) hg
 have hw : (pk s.1).text = kLet ∨ (pk s.1).text = kRoute:=by
   have:=(sees_ok hs).2
   have h2 : [kLet,kRoute].contains (pk s.1).text = true:=by unfold isT at this;exact (Bool.and_eq_true_iff.1 this).2
   simpa using h2
 have hlen : (pk s.1).text.length ≤ 5:=by rcases hw with h | h <;> rw [h] <;> decide
 cases h with
 | @dlet v s2 h1 a=>
   have e1:=takeS_len h0
   have h2:=(takeS_ok h0).1
   have h3:=a.ok h2
   have e2:=takeS_len (show (takeS (refS (nx s)).2 kEq).2 = 0 from h3)
   have h4:=(takeS_ok (show (takeS (refS (nx s)).2 kEq).2 = 0 from h3)).1
   obtain ⟨e3,e4⟩:=refS_len g0 h4
   have g1 : ∀ t ∈ (takeS (refS (nx s)).2 kEq).1,Fn t:=fn_suf (Suf.take.trans refS_suf) g0
   have e5:=a.len0 g1 h2
   rw [pcD,if_pos h1]
   simp only [rl_app,rl_word,rl_sp,rl_name,rl_mark,rl_bl,rl_nil,kLet,kEq,kSemi,List.length_cons,List.length_nil] at *
   omega
 | @droute p s1 l s2 h1 a b=>
   have e1:=takeS_len h0
   have h2:=(takeS_ok h0).1
   have h5:=b.ok h2
   have h3:=a.ok h5
   have e2:=takeS_len h3
   have h4:=(takeS_ok h3).1
   obtain ⟨e3,e4⟩:=refS_len g0 h4
   have g1 : ∀ t ∈ (takeS (refS (nx s)).2 kEq).1,Fn t:=fn_suf (Suf.take.trans refS_suf) g0
   have e5:=a.len g1 h5
   have e6:=b.len (fn_suf a.suf g1) h2
   have e7 : rl (pcPls [p]) = rl (pcPl p):=by rw [pcPls,rl_app,pcPr,rl_nil];rfl
   rw [pcD,if_neg h1,if_pos (hw.resolve_left h1)]
   simp only [rl_app,rl_word,rl_sp,rl_name,rl_mark,rl_bl,rl_nil,kRoute,kEq,kSemi,List.length_cons,List.length_nil] at *
   omega
theorem rl_Ds_app : ∀ (a b : List Dc),rl (pcDs (a ++ b)) = rl (pcDs a) + rl (pcDs b)
 | [],b=>by rw [List.nil_append,pcDs,rl_nil,Nat.zero_add]
 | d :: a,b=>by rw [List.cons_append,pcDs,pcDs,rl_app,rl_app,rl_Ds_app a b];omega
theorem DeclsR.len {l l2 : List Dc} {s s2 : PS} (h : DeclsR l s l2 s2) : (∀ t ∈ s.1,Fn t) → s2.2 = 0 → rl (pcDs l2) + 40000 * s2.1.length ≤ rl (pcDs l) + 40000 * s.1.length:=by
 induction h with
 | @go l s d s1 l2 s2 hs a b i=>
   intro hg h0
   have h1:=b.ok h0
   have e1:=a.len hs hg h1
   have e2:=i (fn_suf a.suf hg) h0
   have e3 : rl (pcDs [d]) = rl (pcD d):=by rw [pcDs,rl_app,pcDs,rl_nil];rfl
   rw [rl_Ds_app,e3] at e2
   omega
 | stop _=>intro hg h0;exact Nat.le_refl _
theorem SrcR.len {r : List Tk} {ds : List Dc} {l : List St} {s : PS} (h : SrcR r ds l s) (hg : ∀ t ∈ r,Fn t) (h0 : s.2 = 0) : rl (pcSrc ds l) ≤ 40000 * r.length:=by
 cases h with
 | @mk _ _ _ a b=>
   have h1:=b.ok h0
   have e1:=a.len hg h1
   have e2:=b.len (fn_suf a.suf hg) h0
   simp only [pcSrc,rl_app,pcDs,pcL,rl_nil] at e1 e2 ⊢
   omega
set_option maxRecDepth 100000 in
theorem textT_sz : ∀ (n : Nat) (acc u : Bs) (t : Tk) (r : Bs),u.length ≤ n → textT acc u = .ok t r → t.text.length + r.length + 1 ≤ acc.length + u.length
 | _,acc,[],t,r,_,h=>by rw [textT_nil] at h;cases h
 | 0,acc,c :: u,t,r,hl,_=>by simp at hl
 | n + 1,acc,c :: u,t,r,hl,h=>by
   have hl' : u.length ≤ n:=by simpa using hl
   by_cases h1 : c = 34
   · subst h1
     rw [textT_end] at h
     injection h with e e2
     subst e e2
     simp only [List.length_cons];omega
   · by_cases h2 : c = 92
     · subst h2
       cases he : escT u with
       | none=>rw [textT_bad he] at h;cases h
       | some x=>
         obtain ⟨d,r2⟩:=x
         rw [textT_esc he] at h
         have h3:=escT_lt he
         have:=textT_sz n _ r2 t r (by omega) h
         simp only [List.length_append,List.length_cons,List.length_nil] at this ⊢
         omega
     · by_cases h3 : c.toNat < 32 ∨ 126 < c.toNat
       · rw [textT_odd h1 h2 h3] at h;cases h
       · rw [textT_one h1 h2 h3] at h
         have:=textT_sz n _ u t r hl' h
         simp only [List.length_append,List.length_cons,List.length_nil] at this ⊢
         omega
theorem takeDrop_len (p : UInt8 → Bool) (u : Bs) : (u.takeWhile p).length + (u.dropWhile p).length = u.length:=by
 rw [← List.length_append,List.takeWhile_append_dropWhile]
theorem tokT_sz {u r : Bs} {t : Tk} (h0 : u ≠ []) (h : tokT u = .ok t r) : t.text.length ≤ u.length ∧ r.length < u.length:=by
 obtain ⟨c,u,rfl⟩ : ∃ c v,u = c :: v:=by cases u with | nil=>exact absurd rfl h0 | cons c v=>exact ⟨c,v,rfl⟩
 unfold tokT at h
 rw [List.headD_cons] at h
 by_cases h1 : isL c = true
 · rw [if_pos h1] at h
   unfold nameT at h
   split at h
   · cases h
   · injection h with e1 e2
     subst e1 e2
     have h2:=takeDrop_len isA (c :: u)
     have h3 : 1 ≤ ((c :: u).takeWhile isA).length:=by rw [List.takeWhile_cons,if_pos (isA_of_isL h1)];simp
     exact ⟨by show ((c :: u).takeWhile isA).length ≤ _;omega,by omega⟩
 · rw [if_neg h1] at h
   by_cases h2 : isD c = true
   · rw [if_pos h2] at h
     unfold numberT at h
     split at h
     · cases h
     · split at h
       · cases h
       · injection h with e1 e2
         subst e1 e2
         have h3:=takeDrop_len isD (c :: u)
         have h4 : 1 ≤ ((c :: u).takeWhile isD).length:=by rw [List.takeWhile_cons,if_pos h2];simp
         exact ⟨by show ((c :: u).takeWhile isD).length ≤ _;omega,by omega⟩
   · rw [if_neg h2] at h
     split at h
     · have:=textT_sz u.length [] u t r (Nat.le_refl _) h
       simp only [List.length_nil,List.length_cons] at this ⊢
       omega
     · split at h
       · injection h with e1 e2
         subst e1 e2
         simp
       · cases h
theorem skipC_len : ∀ (b : Bool) (s : Bs),(skipC b s).length ≤ s.length
 | b,[]=>by cases b <;> exact Nat.le_refl _
 | true,c :: r=>by
   rw [skipC]
   have h1:=skipC_len false r
   have h2:=skipC_len true r
   split <;> simp only [List.length_cons] <;> omega
 | false,c :: r=>by
   rw [skipC]
   have h1:=skipC_len false r
   have h2:=skipC_len true r
   split
   · simp only [List.length_cons];omega
   · split
     · simp only [List.length_cons];omega
     · exact Nat.le_refl _
theorem ScR.sz {s : Bs} {ts : List Tk} {o : Option Bs} (h : ScR s ts o) : ts.length ≤ s.length ∧ ∀ t ∈ ts,t.text.length ≤ s.length:=by
 induction h with
 | done _=>exact ⟨Nat.zero_le _,fun _ h=>(by cases h)⟩
 | bad _ _ _=>exact ⟨Nat.zero_le _,fun _ h=>(by cases h)⟩
 | @more s u r t ts o h1 h2 h3 _ i=>
   obtain ⟨i1,i2⟩:=i
   have h4:=skipC_len false s
   rw [h1] at h4
   obtain ⟨h5,h6⟩:=tokT_sz h2 h3
   refine ⟨by rw [List.length_cons];omega,fun x hx=>?_⟩
   rcases List.mem_cons.1 hx with rfl | hx
   · omega
   · have:=i2 x hx;omega
theorem ScR.fn {s : Bs} {ts : List Tk} {o : Option Bs} (h : ScR s ts o) (hl : s.length ≤ 8000) : ∀ t ∈ ts,Fn t:=fun t ht=>⟨h.gd t ht,Nat.le_trans (h.sz.2 t ht) hl⟩
theorem src_len {s : Bs} {ts : List Tk} {ds : List Dc} {l : List St} {st : PS} (h : ScR s ts none) (hl : s.length ≤ 8000) (h2 : SrcR ts ds l st) (h0 : st.2 = 0) : rl (pcSrc ds l) ≤ 320000000:=by
 have h3:=h2.len (h.fn hl) h0
 have h4:=h.sz.1
 omega
end Tx
namespace Go.Proofs.YtgmjpnnblhkbpaaDoor
open Go Go.RowKit Go.Sh Tx
open Go.Lib (hid)
set_option maxHeartbeats 4000000 in
set_option maxRecDepth 100000 in
theorem tok_neq (k m : Int) (S : ByteArray) (W : World) : (binOp .neq 73 (.agg #[.int .i64 k,.string S,.int .i64 m,.int .i64 0]) (.agg #[.int .i64 k,.string S,.int .i64 m,.int .i64 0])).run Tryd.prog W = .ok (.bool false) W:=by
 have u1:=run_underlying Tryd.underlying3
 go_simp
set_option maxHeartbeats 4000000 in
set_option maxRecDepth 100000 in
theorem bare_eq (ts us : List (Tk × Int)) (he : ts.map Prod.fst = us.map Prod.fst) (B : Nat) (A1 A2 : Option Addr) (N c1 c2 : Nat) (w : World) (h1 : RR w B 4 A1 N (ts.map tkc)) (h2 : RR w B 4 A2 N (us.map tkc)) (hB : B ≤ w.heap.size) (hN : N ≤ 10000000000000) :
   Calls Tryd.prog 9 #[.slice A1 N c1,.slice A2 N c2] w fun e w'=>e = .returned (.bool true) ∧ Below w.heap.size w w':=by
 have HR1:=hid h1
 have HR2:=hid h2
 have HEQ:=hid he
 clear h1 h2 he
 obtain ⟨z,hz⟩ : ∃ z,w.heap.size = z:=⟨_,rfl⟩
 have HZ:=hid hz
 clear hz
 go_enter Tryd.func9,Tryd.ntmps9
 go_wp2_with fail
 go_loopw [15] (fun i wr=>∃ j : Nat,j ≤ N ∧ i = .int .i64 (j : Int) ∧ Below z w wr) (fun i _=>N - (intOf i).toNat)
 case atStart=>exact ⟨0,by omega,by first | rfl | simp,Below.refl _ _⟩
 case round=>
   obtain ⟨j,hj,rfl,hb⟩:=hrel
   have HBW:=hid hb
   have hzw:=hb.size
   clear hb
   by_cases hlt : j < N
   · have hji : (j : Int) < (N : Int):=by omega
     have hj0 : (0 : Int) ≤ (j : Int):=by omega
     have hwj : IntKind.i64.wrap ((j : Int) + 1) = (j : Int) + 1:=by rw [IntKind.wrap_i64];omega
     have HR1':=hid (HR1.out.below (HBW.out.mono (by have:=HZ.out;omega)))
     have HR2':=hid (HR2.out.below (HBW.out.mono (by have:=HZ.out;omega)))
     obtain ⟨b1,o1,cs1,hA1,hb1,hc1,hl1,hg1⟩:=HR1'.out.at_ hlt
     obtain ⟨b2,o2,cs2,hA2,hb2,hc2,hl2,hg2⟩:=HR2'.out.at_ hlt
     rw [List.getElem?_map,Option.map_eq_some_iff] at hc1 hc2
     obtain ⟨t,ht,rfl⟩:=hc1
     obtain ⟨u,hu,rfl⟩:=hc2
     have hfs : t.1 = u.1:=by
       have e:=congrArg (·[j]?) HEQ.out
       simp only [List.getElem?_map,ht,hu,Option.map_some,Option.some.injEq] at e
       exact e
     subst hA1 hA2
     obtain ⟨⟨k,tx,m⟩,a1⟩:=t
     obtain ⟨⟨k',tx',m'⟩,a2⟩:=u
     simp only [Tk.mk.injEq] at hfs
     obtain ⟨rfl,rfl,rfl⟩:=hfs
     have s0 : wr.cell? ⟨b1,o1 + j * 4,none⟩ = some (.int .i64 k):=hg1 0 _ rfl
     have s1 : wr.cell? ⟨b1,o1 + j * 4 + 1,none⟩ = some (.string (sb tx)):=hg1 1 _ rfl
     have s2 : wr.cell? ⟨b1,o1 + j * 4 + 2,none⟩ = some (.int .i64 m):=hg1 2 _ rfl
     have s3 : wr.cell? ⟨b1,o1 + j * 4 + 3,none⟩ = some (.int .i64 a1):=hg1 3 _ rfl
     have r0 : wr.cell? ⟨b2,o2 + j * 4,none⟩ = some (.int .i64 k):=hg2 0 _ rfl
     have r1 : wr.cell? ⟨b2,o2 + j * 4 + 1,none⟩ = some (.string (sb tx)):=hg2 1 _ rfl
     have r2 : wr.cell? ⟨b2,o2 + j * 4 + 2,none⟩ = some (.int .i64 m):=hg2 2 _ rfl
     have r3 : wr.cell? ⟨b2,o2 + j * 4 + 3,none⟩ = some (.int .i64 a2):=hg2 3 _ rfl
     have hbl1 : b1 < wr.heap.size:=by have:=HZ.out;omega
     have hbl2 : b2 < wr.heap.size:=by have:=HZ.out;omega
     have hn1 : b1 ≠ wr.heap.size:=by omega
     have hn2 : b2 ≠ wr.heap.size:=by omega
     have hn3 : b1 ≠ wr.heap.size + 1:=by omega
     have hn4 : b2 ≠ wr.heap.size + 1:=by omega
     obtain ⟨S,hS⟩ : ∃ S,sb tx = S:=⟨_,rfl⟩
     rw [hS] at s1 r1
     have HTN:=fun W=>tok_neq k m S W
     clear hg1 hg2 hl1 hl2 ht hu hS HR1' HR2'
     have HTA12:=hid (two_alloc wr #[.int .i64 k,.string S,.int .i64 m,.int .i64 a1] #[.int .i64 k,.string S,.int .i64 m,.int .i64 a2] 73)
     have HTA21:=hid (two_alloc wr #[.int .i64 k,.string S,.int .i64 m,.int .i64 a2] #[.int .i64 k,.string S,.int .i64 m,.int .i64 a1] 73)
     go_upto_region 6 with fail
     go_cut [6,7] (fun v6 v7 wx=>∃ x y : Nat,v6 = .pointer (some ⟨x,0,none⟩) ∧ v7 = .pointer (some ⟨y,0,none⟩) ∧ x ≠ y ∧ wr.heap.size ≤ x ∧ wr.heap.size ≤ y ∧ wx.heap[x]? = some (.cells #[.int .i64 k,.string S,.int .i64 m,.int .i64 a1] 73 (0,0)) ∧ wx.heap[y]? = some (.cells #[.int .i64 k,.string S,.int .i64 m,.int .i64 a2] 73 (0,0)) ∧ Below wr.heap.size wr wx)
     case first=>
       go_region
       all_goals
         go_wp2_with fail
         go_meet
         first
           | exact ⟨_,_,rfl,rfl,by omega,by omega,by omega,HTA12.out.1,HTA12.out.2.1,HTA12.out.2.2.1⟩
           | exact ⟨_,_,rfl,rfl,by omega,by omega,by omega,HTA21.out.2.1,HTA21.out.1,HTA21.out.2.2.1⟩
     obtain ⟨u1,u2,rfl,rfl,hne,hz1,hz2,q1,q2,q3⟩:=hcut
     have HBC:=hid (HBW.out.trans (q3.mono (by have:=HZ.out;omega)))
     have hzu1 : z ≤ u1:=by have:=HZ.out;omega
     have hzu2 : z ≤ u2:=by have:=HZ.out;omega
     have HQ1:=hid q1
     have HQ2:=hid q2
     have x0 : wc.cell? ⟨u1,3,none⟩ = some (.int .i64 a1):=blk_cell q1
     have x1:=frozen_of_row _ _ 3 _ _ q1
     have y0 : wc.cell? ⟨u2,3,none⟩ = some (.int .i64 a2):=blk_cell q2
     have y1:=frozen_of_row _ _ 3 _ _ q2
     clear q1 q2 q3 hz1 hz2 s0 s1 s2 s3 r0 r1 r2 r3 hbl1 hbl2 hn1 hn2 hn3 hn4 HTA12 HTA21 HBW
     have hne2 : u2 ≠ u1:=fun h=>hne h.symm
     have p0 : (wc.setCell ⟨u1,3,none⟩ (.int .i64 0)).cell? ⟨u2,3,none⟩ = some (.int .i64 a2):=(cell_heap (Below.heap_setCell wc ⟨u1,3,none⟩ _ u2 hne2)).trans y0
     have p1 : (wc.setCell ⟨u1,3,none⟩ (.int .i64 0)).frozen? ⟨u2,3,none⟩ = false:=frozen_of_row _ _ 3 _ _ ((Below.heap_setCell wc ⟨u1,3,none⟩ _ u2 hne2).trans HQ2.out)
     go_upto_region 8 with fail
     have HB2:=hid (show Below z w ((wc.setCell ⟨u1,3,none⟩ (.int .i64 0)).setCell ⟨u2,3,none⟩ (.int .i64 0)) from (HBC.out.setCell (p:=⟨u1,3,none⟩) hzu1 _).setCell (p:=⟨u2,3,none⟩) hzu2 _)
     have k1 : ((wc.setCell ⟨u1,3,none⟩ (.int .i64 0)).setCell ⟨u2,3,none⟩ (.int .i64 0)).heap[u1]? = some (.cells #[.int .i64 k,.string S,.int .i64 m,.int .i64 0] 73 (0,0)):=(Below.heap_setCell _ ⟨u2,3,none⟩ _ u1 hne).trans (blk_set HQ1.out _)
     have k2 : ((wc.setCell ⟨u1,3,none⟩ (.int .i64 0)).setCell ⟨u2,3,none⟩ (.int .i64 0)).heap[u2]? = some (.cells #[.int .i64 k,.string S,.int .i64 m,.int .i64 0] 73 (0,0)):=blk_set ((Below.heap_setCell wc ⟨u1,3,none⟩ _ u2 hne2).trans HQ2.out) _
     clear x0 x1 y0 y1 p0 p1 HBC HQ1 HQ2
     generalize (wc.setCell ⟨u1,3,none⟩ (.int .i64 0)).setCell ⟨u2,3,none⟩ (.int .i64 0) = wd at *
     have g10 : wd.cell? ⟨u1,0,none⟩ = some (.int .i64 k):=blk_cell k1
     have g11 : wd.cell? ⟨u1,1,none⟩ = some (.string S):=blk_cell k1
     have g12 : wd.cell? ⟨u1,2,none⟩ = some (.int .i64 m):=blk_cell k1
     have g13 : wd.cell? ⟨u1,3,none⟩ = some (.int .i64 0):=blk_cell k1
     have g20 : wd.cell? ⟨u2,0,none⟩ = some (.int .i64 k):=blk_cell k2
     have g21 : wd.cell? ⟨u2,1,none⟩ = some (.string S):=blk_cell k2
     have g22 : wd.cell? ⟨u2,2,none⟩ = some (.int .i64 m):=blk_cell k2
     have g23 : wd.cell? ⟨u2,3,none⟩ = some (.int .i64 0):=blk_cell k2
     clear k1 k2
     go_wp2_with fail
     exact ⟨⟨j + 1,by omega,by first | rfl | (congr 1;omega),HB2.out⟩,by simp [intOf];omega⟩
   · have hge : ¬ ((j : Int) < (N : Int)):=by omega
     go_wp2_with fail
     go_ret
     exact ⟨rfl,by rw [HZ.out];exact HBW.out⟩
end Go.Proofs.YtgmjpnnblhkbpaaDoor
namespace Go.Proofs.YtgmjpnnblhkbpaaDoor
open Go Go.RowKit Go.Sh Tx
theorem one_le : 1 ≤ 90000000000:=by decide
theorem exb {e : Ex} (h : e.wf) (hl : rl (pcE e) ≤ 90000000000) : ExB e:=⟨.inr h,hl⟩
theorem exb0 : ExB .none:=⟨.inl rfl,by simp [tE,pcE,rend]⟩
theorem rl_Rs_num : ∀ l : List Bs,l.length ≤ rl (pcRs l)
 | []=>Nat.zero_le _
 | x :: l=>by
   have:=rl_Rs_num l
   rw [pcRs,rl_mark,rl_sp,rl_name,List.length_cons]
   omega
theorem rl_routes_num : ∀ l : List Bs,l.length ≤ rl (pcRoutes l) + 1
 | []=>Nat.zero_le _
 | x :: l=>by
   have:=rl_Rs_num l
   rw [pcRoutes,rl_name,List.length_cons]
   omega
theorem rl_S_pos (d : Nat) (t : St) : 1 ≤ rl (pcS d t):=by
 obtain ⟨kind,name,a,b,c,routes,block,tag,body,els⟩:=t
 rw [pcS,rl_app,rl_bl,rl_nil]
 simp only [List.length_cons,List.length_nil]
 omega
theorem rl_L_mem {d : Nat} {t : St} : ∀ {l : List St},t ∈ l → rl (pcS d t) ≤ rl (pcL d l)
 | x :: l,h=>by
   rw [pcL,rl_ind,rl_app]
   rcases List.mem_cons.1 h with rfl | h
   · omega
   · have:=rl_L_mem (d:=d) h;omega
theorem rl_L_num (d : Nat) : ∀ l : List St,l.length ≤ rl (pcL d l)
 | []=>Nat.zero_le _
 | t :: l=>by
   have h1:=rl_L_num d l
   have h2:=rl_S_pos d t
   rw [pcL,rl_ind,rl_app,List.length_cons]
   omega
theorem rl_X_ge (d : Nat) (l : List St) : rl (pcL (d + 1) l) ≤ rl (pcX d l):=by
 cases l with
 | nil=>rw [pcL,rl_nil];exact Nat.zero_le _
 | cons t l=>rw [pcX,rl_sp,rl_word,rl_B];omega
theorem StB.line {d : Nat} {t : St} (h : LineW t) (hl : rl (pcS d t) ≤ 90000000000) : StB t:=by
 have hp : rl (pcLine t) ≤ rl (pcS d t):=by rw [h.body d,rl_app,rl_app];omega
 have n0 : ∀ t ∈ ([] : List St),StB t:=fun t ht=>by cases ht
 cases h with
 | @send a r b t ha=>
   have h1 : rl (pcLn kSend [] a .none .none [r] b t) ≤ _:=hp
   rw [pcLn,if_pos rfl] at h1
   simp only [rl_word,rl_sp,rl_app] at h1
   exact .mk (exb ha.1 (by omega)) exb0 exb0 one_le (by decide) (by decide) n0 n0
 | @split a r l t ha=>
   have h1 : rl (pcLn kSplit [] a .none .none (r :: l) [] t) ≤ _:=hp
   rw [pcLn,if_neg (by decide),if_pos rfl] at h1
   simp only [rl_word,rl_sp,rl_app,rl_via] at h1
   have h2:=rl_routes_num (r :: l)
   exact .mk (exb ha.1 (by omega)) exb0 exb0 (by omega) (by decide) (by decide) n0 n0
 | cover _=>exact .mk exb0 exb0 exb0 one_le (by decide) (by decide) n0 n0
 | @wait a ha=>
   have h1 : rl (pcLn kWait [] a .none .none [] [] []) ≤ _:=hp
   rw [pcLn,if_neg (by decide),if_neg (by decide),if_neg (by decide),if_pos rfl] at h1
   simp only [rl_word,rl_sp] at h1
   exact .mk (exb ha.1 (by omega)) exb0 exb0 (by decide) (by decide) (by decide) n0 n0
 | block _ _=>exact .mk exb0 exb0 exb0 one_le (by decide) (by decide) n0 n0
 | @retry a b c r t ha hb hc=>
   have h1 : rl (pcLn kRetry [] a b c [r] [] t) ≤ _:=hp
   rw [pcLn,if_neg (by decide),if_neg (by decide),if_neg (by decide),if_neg (by decide),if_neg (by decide),if_pos rfl] at h1
   simp only [rl_word,rl_sp,rl_app] at h1
   exact .mk (exb ha.1 (by omega)) (exb hb.1 (by omega)) (exb hc.1 (by omega)) one_le (by decide) (by decide) n0 n0
 | @every a b r ha hb=>
   have h1 : rl (pcLn kEvery [] a b .none [r] [] []) ≤ _:=hp
   rw [pcLn,if_neg (by decide),if_neg (by decide),if_neg (by decide),if_neg (by decide),if_neg (by decide),if_neg (by decide),if_pos rfl] at h1
   simp only [rl_word,rl_sp,rl_app] at h1
   exact .mk (exb ha.1 (by omega)) (exb hb.1 (by omega)) exb0 one_le (by decide) (by decide) n0 n0
theorem StB.of {b : Nat} {t : St} (h : StW b t) : ∀ d,rl (pcS d t) ≤ 90000000000 → StB t:=by
 have n0 : ∀ t ∈ ([] : List St),StB t:=fun t ht=>by cases ht
 induction h with
 | line h=>exact fun d hl=>StB.line h hl
 | @after b a l ha _ _ i=>
   intro d hl
   rw [pcS,if_pos rfl] at hl
   simp only [rl_app,rl_word,rl_sp,rl_B] at hl
   have h1:=rl_L_num (d + 1) l
   exact .mk (exb ha.1 (by omega)) exb0 exb0 (by decide) (by omega) (by decide) (fun t ht=>i t ht (d + 1) (by have:=rl_L_mem (d:=d + 1) ht;omega)) n0
 | @rpt b x a l hx ha _ _ i=>
   intro d hl
   rw [pcS,if_neg (by decide),if_pos rfl] at hl
   simp only [rl_app,rl_word,rl_sp,rl_name,rl_B] at hl
   have h1:=rl_L_num (d + 1) l
   exact .mk (exb ha.1 (by omega)) exb0 exb0 (by decide) (by omega) (by decide) (fun t ht=>i t ht (d + 1) (by have:=rl_L_mem (d:=d + 1) ht;omega)) n0
 | @iff b x l m hx _ _ _ i j=>
   intro d hl
   rw [pcS,if_neg (by decide),if_neg (by decide),if_pos rfl] at hl
   simp only [rl_app,rl_word,rl_sp,rl_name,rl_B] at hl
   have h1:=rl_L_num (d + 1) l
   have h2:=rl_L_num (d + 1) m
   have h3:=rl_X_ge d m
   exact .mk exb0 exb0 exb0 (by decide) (by omega) (by omega) (fun t ht=>i t ht (d + 1) (by have:=rl_L_mem (d:=d + 1) ht;omega)) (fun t ht=>j t ht (d + 1) (by have:=rl_L_mem (d:=d + 1) ht;omega))
theorem cnt_of_mem {d : Nat} : ∀ {l : List St},(∀ t ∈ l,cntS t + 1 ≤ rl (pcS d t)) → cntL l ≤ rl (pcL d l)
 | [],_=>by rw [cntL];exact Nat.zero_le _
 | t :: l,h=>by
   have h1:=h t (by simp)
   have h2:=cnt_of_mem (d:=d) (l:=l) fun x hx=>h x (by simp [hx])
   rw [cntL,pcL,rl_ind,rl_app]
   omega
theorem cntS_le {b : Nat} {t : St} (h : StW b t) : ∀ d,cntS t + 1 ≤ rl (pcS d t):=by
 induction h with
 | @line b t h=>
   intro d
   have h1:=rl_S_pos d t
   have h2 : cntS t = 0:=by cases h <;> (rw [cntS];rfl)
   omega
 | @after b a l ha _ _ i=>
   intro d
   have h1:=cnt_of_mem (d:=d + 1) (l:=l) fun t ht=>i t ht _
   rw [pcS,if_pos rfl,cntS]
   simp only [rl_app,rl_word,rl_sp,rl_B,cntL]
   omega
 | @rpt b x a l hx ha _ _ i=>
   intro d
   have h1:=cnt_of_mem (d:=d + 1) (l:=l) fun t ht=>i t ht _
   rw [pcS,if_neg (by decide),if_pos rfl,cntS]
   simp only [rl_app,rl_word,rl_sp,rl_name,rl_B,cntL]
   omega
 | @iff b x l m hx _ _ _ i j=>
   intro d
   have h1:=cnt_of_mem (d:=d + 1) (l:=l) fun t ht=>i t ht _
   have h2:=cnt_of_mem (d:=d + 1) (l:=m) fun t ht=>j t ht _
   have h3:=rl_X_ge d m
   rw [pcS,if_neg (by decide),if_neg (by decide),if_pos rfl,cntS]
   simp only [rl_app,rl_word,rl_sp,rl_name,rl_B]
   omega
theorem cntL_le {l : List St} (h : ∀ t ∈ l,StW 0 t) : cntL l ≤ rl (pcL 0 l):=cnt_of_mem fun t ht=>cntS_le (h t ht) 0
theorem atb {x : Bs} {e : Ex} (h : atW e) (hl : rl (pcAt x e) ≤ 90000000000) : ExB e:=by
 rcases h with rfl | ⟨h,_⟩
 · exact exb0
 · refine exb h (Nat.le_trans ?_ hl)
   have hp : ∀ b,rl (pcE e) ≤ rl (parP b (pcE e)):=fun b=>by
     unfold parP
     split
     · rw [rl_mark,rl_app];omega
     · exact Nat.le_refl _
   cases e with
   | none=>exact absurd h (by rw [Ex.wf];exact id)
   | _=>
     rw [pcAt]
     · rw [rl_mark];exact Nat.le_trans (hp _) (Nat.le_add_left _ _)
     · intro h;cases h
theorem rl_pr_mem {p : Pl} : ∀ {l : List Pl},p ∈ l → rl (pcPl p) ≤ rl (pcPr l)
 | x :: l,h=>by
   rw [pcPr,rl_sp,rl_mark,rl_sp,rl_app]
   rcases List.mem_cons.1 h with rfl | h
   · omega
   · have:=rl_pr_mem h;omega
theorem rl_pr_num : ∀ l : List Pl,l.length ≤ rl (pcPr l)
 | []=>Nat.zero_le _
 | x :: l=>by
   have:=rl_pr_num l
   rw [pcPr,rl_sp,rl_mark,rl_sp,rl_app,List.length_cons]
   omega
theorem DcB.of {d : Dc} (h : DcW d) (hl : rl (pcD d) ≤ 80000000000) : DcB d:=by
 cases h with
 | @dlet x v hx hv=>
   rw [pcD,if_pos rfl] at hl
   simp only [rl_app,rl_word,rl_sp,rl_name,rl_mark] at hl
   have he : ExB v:=exb hv.1 (by omega)
   exact ⟨he,Nat.zero_le _,fun p hp=>by cases hp⟩
 | @droute x p l hx hp hq=>
   rw [pcD,if_neg (show ¬ kRoute = kLet by decide),if_pos rfl] at hl
   simp only [rl_app,rl_word,rl_sp,rl_name,rl_mark,pcPls] at hl
   have h1:=rl_pr_num l
   refine ⟨exb0,by show (p :: l).length ≤ _;rw [List.length_cons];omega,fun q hq2=>?_⟩
   have h2 : PlW q ∧ rl (pcPl q) ≤ 80000000000:=by
     rcases List.mem_cons.1 hq2 with rfl | h
     · exact ⟨hp,by omega⟩
     · exact ⟨hq q h,by have:=rl_pr_mem h;omega⟩
   have h3:=h2.2
   rw [rl_pl] at h3
   exact ⟨atb h2.1.2.1 (x:=kAt) (by omega),atb h2.1.2.2 (x:=kBang) (by omega)⟩
theorem rl_Ds_mem {d : Dc} : ∀ {l : List Dc},d ∈ l → rl (pcD d) ≤ rl (pcDs l)
 | x :: l,h=>by
   rw [pcDs,rl_app]
   rcases List.mem_cons.1 h with rfl | h
   · omega
   · have:=rl_Ds_mem h;omega
theorem rl_Ds_num : ∀ l : List Dc,l.length ≤ rl (pcDs l)
 | []=>Nat.zero_le _
 | x :: l=>by
   have h1:=rl_Ds_num l
   have h2 : 1 ≤ rl (pcD x):=by
     rw [pcD,rl_app,rl_mark]
     simp only [kSemi,List.length_cons,List.length_nil]
     omega
   rw [pcDs,rl_app,List.length_cons]
   omega
structure Fit (ds : List Dc) (l : List St) : Prop where
 dw : ∀ d ∈ ds,DcW d
 sw : ∀ t ∈ l,StW 0 t
 len : (txSrc ds l).length ≤ 320000000
 db : ∀ d ∈ ds,DcB d
 sb : ∀ t ∈ l,StB t
 dn : ds.length ≤ 320000000
 sn : l.length ≤ 320000000
 cn : cntL l ≤ 320000000
theorem Fit.of {ds : List Dc} {l : List St} (hd : ∀ d ∈ ds,DcW d) (hs : ∀ t ∈ l,StW 0 t) (hl : rl (pcSrc ds l) ≤ 320000000) : Fit ds l:=by
 have h1 : rl (pcDs ds) + rl (pcL 0 l) ≤ 320000000:=by rw [← rl_app];exact hl
 exact ⟨hd,hs,hl,fun d h=>.of (hd d h) (by have:=rl_Ds_mem h;omega),fun t h=>.of (hs t h) 0 (by have:=rl_L_mem (d:=0) h;omega),by have:=rl_Ds_num ds;omega,by have:=rl_L_num 0 l;omega,by have:=cntL_le hs;omega⟩
theorem OkR.fit {l : Bs} {ds : List Dc} {b : List St} (h : OkR l ds b) : Fit ds b:=by
 obtain ⟨h1,ts,s,h2,h3,h4⟩:=h
 obtain ⟨h5,h6⟩:=h3.fit h2.gd h4
 exact .of h5 h6 (src_len h2 h1 h3 h4)
theorem OkR.open_ {l : Bs} : ∀ ds b,OkR l ds b → (∀ d ∈ ds,DcW d) ∧ (∀ t ∈ b,StW 0 t) ∧ (txSrc ds b).length ≤ 10000000000000:=fun _ _ h=>⟨h.fit.dw,h.fit.sw,by have:=h.fit.len;omega⟩
theorem spW_app (ts us : List Tk) : spW (ts ++ us) = spW ts ++ spW us:=by
 induction ts with
 | nil=>rfl
 | cons t ts ih=>
   rw [List.cons_append,spW,spW,ih]
   split <;> rfl
theorem gd_kind {t : Tk} (h : Gd t) : t.kind ≠ 6:=by
 rcases h with h | h | h | h | h <;> (have:=h.1;omega)
theorem spW_gd : ∀ {ts : List Tk},(∀ t ∈ ts,Gd t) → spW ts = ts.map spell
 | [],_=>rfl
 | t :: ts,h=>by
   rw [spW,if_neg (gd_kind (h t (by simp))),List.map_cons,spW_gd fun x hx=>h x (by simp [hx])]
theorem join_spell : ∀ ts : List Tk,Lib.join (ts.map spell) [32] = spellS ts
 | []=>rfl
 | [t]=>Lib.join_one _ _
 | t :: u :: ts=>by
   have ih:=join_spell (u :: ts)
   rw [List.map_cons] at ih ⊢
   rw [spellS,← ih]
   · simp [Lib.join_cons,Lib.joinTail]
   · intro h;cases h
theorem spell_scan {s : Bs} {ts : List Tk} (h : ScR s ts none) : Lib.join (spW (ts ++ [endT])) [32] = spellS ts:=by
 rw [spW_app,spW_gd h.gd,show spW [endT] = [] from rfl,List.append_nil,join_spell]
end Go.Proofs.YtgmjpnnblhkbpaaDoor
namespace Go.Proofs.YtgmjpnnblhkbpaaDoor
open Go Go.RowKit Go.Sh Tx
theorem OkR.det {l : Bs} {ds ds' : List Dc} {b b' : List St} (h : OkR l ds b) (h' : OkR l ds' b') : ds = ds' ∧ b = b':=by
 obtain ⟨_,ts,s,h1,h2,_⟩:=h
 obtain ⟨_,ts',s',h3,h4,_⟩:=h'
 obtain ⟨rfl,_⟩:=h1.det h3
 obtain ⟨rfl,rfl,_⟩:=h2.det h4
 exact ⟨rfl,rfl⟩
theorem FltR.ok {l : Bs} {c a : Int} {ds : List Dc} {b : List St} (h : FltR l c a) (h' : OkR l ds b) : False:=by
 obtain ⟨h0,h1,ts,s,h2,h3,h4⟩ : l.length ≤ 8000 ∧ OkR l ds b:=⟨h'.1,h'⟩
 rcases h.2 with ⟨h5,_⟩ | ⟨_,ts',o,h6,⟨f,rfl,_⟩ | ⟨rfl,ds',b',s',h7,h8,_⟩⟩
 · omega
 · have:=(h2.det h6).2;cases this
 · obtain ⟨rfl,_⟩:=h2.det h6
   obtain ⟨_,_,rfl⟩:=h3.det h7
   exact h8 h4
theorem FltR.code {l : Bs} {c a c' a' : Int} (h : FltR l c a) (h' : FltR l c' a') : c' = c:=by
 rcases h.2 with ⟨h5,rfl,_⟩ | ⟨h5,ts,o,h6,⟨f,rfl,rfl,_⟩ | ⟨rfl,ds,b,s,h7,h8,rfl⟩⟩
 · rcases h'.2 with ⟨_,rfl,_⟩ | ⟨h9,_⟩
   · rfl
   · omega
 · rcases h'.2 with ⟨h9,_⟩ | ⟨_,ts',o',h10,⟨f',rfl,rfl,_⟩ | ⟨rfl,_⟩⟩
   · omega
   · rfl
   · have:=(h6.det h10).2;cases this
 · rcases h'.2 with ⟨h9,_⟩ | ⟨_,ts',o',h10,⟨f',rfl,_⟩ | ⟨rfl,ds',b',s',h11,h12,rfl⟩⟩
   · omega
   · have:=(h6.det h10).2;cases this
   · obtain ⟨rfl,_⟩:=h6.det h10
     obtain ⟨_,_,rfl⟩:=h7.det h11
     rfl
def ScnF (l : Bs) (c a : Int) : Prop:=c ≠ 0 ∧ ((8000 < l.length ∧ c = 2 ∧ a = 0) ∨ (l.length ≤ 8000 ∧ ∃ ts f,ScR l ts (some f) ∧ c = 9 ∧ a = ((l.length - f.length : Nat) : Int)))
theorem ScnF.flt {l : Bs} {c a c' a' : Int} (h : ScnF l c a) (h' : FltR l c' a') : c' = c ∧ a' = a:=by
 rcases h.2 with ⟨h1,rfl,rfl⟩ | ⟨h1,ts,f,h2,rfl,rfl⟩
 · rcases h'.2 with ⟨_,rfl,rfl⟩ | ⟨h3,_⟩
   · exact ⟨rfl,rfl⟩
   · omega
 · rcases h'.2 with ⟨h3,_⟩ | ⟨_,ts',o,h4,⟨f',rfl,rfl,rfl⟩ | ⟨rfl,_⟩⟩
   · omega
   · have:=(h2.det h4).2
     injection this with this
     exact ⟨rfl,by rw [this]⟩
   · have:=(h2.det h4).2;cases this
theorem ScnF.ok {l : Bs} {c a : Int} {ds : List Dc} {b : List St} (h : ScnF l c a) (h' : OkR l ds b) : False:=by
 obtain ⟨h0,ts',s,h4,_,_⟩:=h'
 rcases h.2 with ⟨h1,_⟩ | ⟨_,ts,f,h2,_⟩
 · omega
 · have:=(h2.det h4).2;cases this
def Res (l : Bs) (c a : Int) (ds : List Dc) (b : List St) : Prop:=(c ≠ 0 ∧ FltR l c a ∧ ds = [] ∧ b = []) ∨ (c = 0 ∧ a = 0 ∧ OkR l ds b)
theorem Res.fit {l : Bs} {c a : Int} {ds : List Dc} {b : List St} (h : Res l c a ds b) : Fit ds b:=by
 rcases h with ⟨_,_,rfl,rfl⟩ | ⟨_,_,h⟩
 · exact .of (fun d h=>by cases h) (fun d h=>by cases h) (by simp [pcSrc,pcDs,pcL,rl,rend])
 · exact h.fit
theorem Res.scnf {l : Bs} {c a c' a' : Int} {ds : List Dc} {b : List St} (h : Res l c' a' ds b) (h' : ScnF l c a) : c' = c ∧ a' = a ∧ ds = [] ∧ b = []:=by
 rcases h with ⟨_,h,rfl,rfl⟩ | ⟨_,_,h⟩
 · obtain ⟨rfl,rfl⟩:=h'.flt h;exact ⟨rfl,rfl,rfl,rfl⟩
 · exact (h'.ok h).elim
theorem OkR.to {l m : Bs} {ts : List Tk} {ds : List Dc} {b : List St} (h : OkR l ds b) (h1 : ScR l ts none) (h2 : ScR m ts none) (hm : m.length ≤ 8000) : OkR m ds b:=by
 obtain ⟨_,ts',s,h3,h4,h5⟩:=h
 obtain ⟨rfl,_⟩:=h1.det h3
 exact ⟨hm,_,s,h2,h4,h5⟩
theorem FltR.to {l m : Bs} {ts : List Tk} {c a : Int} (h : FltR l c a) (hl : l.length ≤ 8000) (h1 : ScR l ts none) (h2 : ScR m ts none) (hm : m.length ≤ 8000) : FltR m c a:=by
 rcases h.2 with ⟨h3,_⟩ | ⟨_,ts',o,h4,⟨f,rfl,_⟩ | ⟨rfl,ds,b,s,h5,h6,h7⟩⟩
 · omega
 · have:=(h1.det h4).2;cases this
 · obtain ⟨rfl,_⟩:=h1.det h4
   exact ⟨h.1,.inr ⟨hm,_,none,h2,.inr ⟨rfl,ds,b,s,h5,h6,h7⟩⟩⟩
theorem Res.same {l m : Bs} {ts : List Tk} {c a c' a' : Int} {ds ds' : List Dc} {b b' : List St} (h : Res l c a ds b) (h' : Res m c' a' ds' b') (hl : l.length ≤ 8000) (h1 : ScR l ts none) (h2 : ScR m ts none) (hm : m.length ≤ 8000) : c' = c ∧ ds' = ds ∧ b' = b:=by
 rcases h with ⟨h3,h4,rfl,rfl⟩ | ⟨rfl,_,h4⟩
 · have h5:=h4.to hl h1 h2 hm
   rcases h' with ⟨_,h6,rfl,rfl⟩ | ⟨_,_,h6⟩
   · exact ⟨h5.code h6,rfl,rfl⟩
   · exact (h5.ok h6).elim
 · have h5:=h4.to h1 h2 hm
   rcases h' with ⟨_,h6,rfl,rfl⟩ | ⟨rfl,_,h6⟩
   · exact (h6.ok h5).elim
   · obtain ⟨rfl,rfl⟩:=h5.det h6;exact ⟨rfl,rfl,rfl⟩
theorem Res.print {l : Bs} {a : Int} {ds : List Dc} {b : List St} (h : Res l 0 a ds b) {c' a' : Int} {ds' : List Dc} {b' : List St} (hp : (txSrc ds b).length ≤ 8000) (h' : Res (txSrc ds b) c' a' ds' b') : c' = 0 ∧ ds' = ds ∧ b' = b:=by
 rcases h with ⟨h3,_⟩ | ⟨_,_,h4⟩
 · exact absurd rfl h3
 · obtain ⟨h5,ts,s,h6,h7,h8⟩:=h4
   obtain ⟨us,h9,h10⟩:=print_law h6 h7 h8
   have h11 : OkR (txSrc ds b) ds b:=⟨hp,us,_,h9,h10,rfl⟩
   rcases h' with ⟨_,h12,rfl,rfl⟩ | ⟨rfl,_,h12⟩
   · exact (h12.ok h11).elim
   · obtain ⟨rfl,rfl⟩:=h11.det h12;exact ⟨rfl,rfl,rfl⟩
def cvS : Bs:=[99,111,118,101,114,32,114,59]
def cvT : St:=.mk kCover [] .none .none .none [[114]] [] [] [] []
theorem cv_gd : gName [114]:=.inl ⟨rfl,by decide,by decide,by decide,by decide,rfl⟩
theorem cv_ok : OkR cvS [] [cvT]:=by
 have hs : ScR cvS (toks (pcSrc [] [cvT])) none:=by
   have h1:=scan_rend false [.tk (tWord kCover),sp,.tk (tName [114]),.tk (tMark kSemi)] (okW (by decide) (okSp (okN cv_gd (okM (c:=59) (by decide) trivial))))
   have e1 : toks (pcSrc [] [cvT]) = [tWord kCover,tName [114],tMark kSemi]:=by
     rw [pcSrc,pcDs,pcL,pcL,cvT,(LineW.cover cv_gd).body 0,pcLine,pcLn,if_neg (by decide),if_neg (by decide),if_pos rfl]
     rfl
   rw [e1]
   exact h1
 exact ⟨by decide,_,_,hs,src_run (fun d h=>by cases h) (fun t ht=>by rw [List.mem_singleton.1 ht];exact .line (.cover cv_gd)),rfl⟩
theorem cv_cnt : cntL [cvT] = 1:=by simp [cntL,cvT,cntS]
theorem tx_nil : txSrc [] [] = []:=by simp [txSrc,pcSrc,pcDs,pcL,rend]
theorem OpenPost.uni {l : Bs} {w w' : World} {e : Ending} (h : OpenPost l w e w') : Below w.heap.size w w' ∧ ∃ (ds : List Dc) (b : List St) (d q : QS) (c a : Int),e = .returned (.tuple #[.agg #[.slice d.A d.n d.d,.slice q.A q.n q.d,.string (sb (txSrc ds b))],.agg #[.int .i64 c,.int .i64 a]]) ∧ DcL (Fr w w') w' ds d ∧ BdV (Fr w w') w' b q ∧ Res l c a ds b ∧ d.n = ds.length:=by
 obtain ⟨h1,h2⟩:=h
 refine ⟨h1,?_⟩
 rcases h2 with ⟨c,a,h3,rfl⟩ | ⟨ds,b,h3,d,q,rfl,h4,h5⟩
 · exact ⟨[],[],.zero,.zero,c,a,by rw [tx_nil];rfl,⟨[],.nil,RP.none_,Nat.le_refl _⟩,⟨[],.nil,RP.none_,Nat.le_refl _⟩,.inl ⟨h3.1,h3,rfl,rfl⟩,rfl⟩
 · refine ⟨ds,b,d,q,0,0,rfl,h4,h5,.inr ⟨rfl,rfl,h3⟩,?_⟩
   obtain ⟨css,h6,h7,_⟩:=h4
   have h8:=h6.len
   have h9:=h7.1
   omega
end Go.Proofs.YtgmjpnnblhkbpaaDoor
