/-
  The contract of tree.Parse. No conditions.
-/
import Derived.Test.YtgmjpnnblhkbpaaDoorTyEM
import Derived.Test.YtgmjpnnblhkbpaaDoorSqM
namespace Go.Proofs.YtgmjpnnblhkbpaaDoor
open Go Go.RowKit Go.Sh Tx
open Go.Lib (hid)
set_option maxRecDepth 100000 in
theorem results_c2 {fn : Func} {t u : Tmp} {ty ty2 : TypeId} (h : fn.results = #[.cell t ty,.cell u ty2]) (ts : Array Value) (P : Program) (w : World) (ad ad2 : Addr) (v v2 : Value) (h2 : ts.getD t undef = .pointer (some ad)) (h3 : ts.getD u undef = .pointer (some ad2)) (h4 : (loadVar ty ad).run P w = .ok v w) (h5 : (loadVar ty2 ad2).run P w = .ok v2 w) :
   (results fn ts).run P w = .ok (.tuple #[v,v2]) w:=by
 have h2' : ts[t]?.getD undef = .pointer (some ad):=by simpa using h2
 have h3' : ts[u]?.getD undef = .pointer (some ad2):=by simpa using h3
 simp [results,h,h2',h3',asAddr,h4,h5]
set_option maxRecDepth 100000 in
theorem TTd : STy Tryd.prog 22 58 (.agg #[.string .empty,.string .empty,.int .i64 0,.string .empty,.int .i64 0,.string .empty,.int .i64 0,.slice none 0 0,.slice none 0 0]) 9 136:=⟨Tryd.underlying22,by kernel_rfl,rfl,by decide⟩
def SoB (w : World) (y : Nat) (d b : QS) : Prop:=w.heap[y]? = some (.cells #[.slice d.A d.n d.d,.slice b.A b.n b.d] 25 (0,0))
section
variable {w w' : World} {y : Nat} {d b : QS}
theorem SoB.far (h : SoB w y d b) (hz : w'.heap[y]? = w.heap[y]?) : SoB w' y d b:=hz.trans h
theorem SoB.free (h : SoB w y d b) (i : Nat) : w.frozen? ⟨y,i,none⟩ = false:=frozen_of_row _ _ i _ _ h
theorem SoB.c0 (h : SoB w y d b) : w.cell? ⟨y,0,none⟩ = some (.slice d.A d.n d.d):=blk_cell h
theorem SoB.c1 (h : SoB w y d b) : w.cell? ⟨y,1,none⟩ = some (.slice b.A b.n b.d):=blk_cell h
theorem SoB.putD (h : SoB w y d b) (e : QS) : SoB (w.setCell ⟨y,0,none⟩ (.slice e.A e.n e.d)) y e b:=blk_set h _
theorem SoB.putB (h : SoB w y d b) (e : QS) : SoB (w.setCell ⟨y,1,none⟩ (.slice e.A e.n e.d)) y d e:=blk_set h _
set_option maxRecDepth 100000 in
theorem SoB.load (h : SoB w y d b) : (loadVar 25 ⟨y,0,none⟩).run Tryd.prog w = .ok (.agg #[.slice d.A d.n d.d,.slice b.A b.n b.d]) w:=by
 have h2:=run_loadVar_mid (P:=Tryd.prog) w y 0 25 [.slice d.A d.n d.d,.slice b.A b.n b.d] _ (blk_range h) Tryd.underlying25 rfl (by kernel_rfl)
 exact h2
theorem Flt.heap (h : Flt w y 0 0) (hz : w'.heap[y]? = w.heap[y]?) : Flt w' y 0 0:=hz.trans h
end
def Rg (a b g : Nat) : Prop:=a ≤ g ∧ g < b
def DcL (X : Nat → Prop) (w : World) (l : List Dc) (q : QS) : Prop:=∃ css,DcV X w l css ∧ RP X w 9 q.A q.n css ∧ q.n ≤ q.d
theorem DcL.keep {X : Nat → Prop} {w w' : World} {l : List Dc} {q : QS} (h : DcL X w l q) (hb : ∀ b,X b → w'.heap[b]? = w.heap[b]?) : DcL X w' l q:=by
 obtain ⟨rs,h1,h2,h3⟩:=h
 exact ⟨rs,h1.keep hb,h2.keep hb,h3⟩
theorem DcL.mono {X Y : Nat → Prop} {w : World} {l : List Dc} {q : QS} (h : DcL X w l q) (hb : ∀ b,X b → Y b) : DcL Y w l q:=by
 obtain ⟨rs,h1,h2,h3⟩:=h
 exact ⟨rs,h1.mono hb,h2.mono hb,h3⟩
theorem TL.ran {α : Type} {K : Rw α} {e : TypeId} {lo n c : Nat} {w : World} {A : Option Addr} {l : List α} (h : TL K e lo w (.slice A n c) n l) : ∃ css,RP (Rg lo w.heap.size) w K.sz A n css ∧ K.R (Rg lo w.heap.size) w l css ∧ n ≤ c:=by
 obtain ⟨css,h1,h2,h3⟩:=h
 refine ⟨css,RP.of_own h1 h3 (K.size h2) (fun b _ hb hb2=>⟨hb,hb2⟩),K.mono h2 fun b hb=>⟨hb.1,hb.2.1⟩,?_⟩
 rcases h1.2 with ⟨h,h0⟩ | ⟨g,cap,cur,hv,_,_,hcap,_⟩
 · injection h with h1 h2 h3;omega
 · injection hv with _ _ h3;omega
theorem DeclR.lt {s s' : PS} {d : Dc} (h : DeclR s d s') (hs : sees s [kLet,kRoute] = true) : s'.1.length < s.1.length:=by
 have h2 : Suf s'.1 (nx s).1:=by
   cases h with
   | dlet _ a=>exact Suf.take.trans (a.suf.trans (Suf.take.trans refS_suf))
   | droute _ a b=>exact Suf.take.trans (b.suf.trans (a.suf.trans (Suf.take.trans refS_suf)))
 exact suf_lt h2 (seen_some hs)
theorem kx_below {q p z : Nat} {w w' : World} (h : Kx q p z w w') (hq : z ≤ q) (hp : z ≤ p) : Below z w w':=⟨h.os,h.tape,h.output,h.size,fun b hb=>h.block b hb (by omega) (by omega)⟩
def ParsePost (l : Bs) (w : World) (e : Ending) (w' : World) : Prop:=
 Below w.heap.size w w' ∧
 ((8000 < l.length ∧ e = .returned (.tuple #[.agg #[.slice none 0 0,.slice none 0 0],.agg #[.int .i64 2,.int .i64 0]])) ∨
  (l.length ≤ 8000 ∧ ∃ ts o,ScR l ts o ∧
     ((∃ f : Bs,o = some f ∧ e = .returned (.tuple #[.agg #[.slice none 0 0,.slice none 0 0],.agg #[.int .i64 9,.int .i64 ((l.length - f.length : Nat) : Int)]])) ∨
      (o = none ∧ ∃ ds b s,SrcR ts ds b s ∧
         ((s.2 ≠ 0 ∧ ∃ a,e = .returned (.tuple #[.agg #[.slice none 0 0,.slice none 0 0],.agg #[.int .i64 s.2,.int .i64 a]])) ∨
          (s.2 = 0 ∧ ∃ d q : QS,e = .returned (.tuple #[.agg #[.slice d.A d.n d.d,.slice q.A q.n q.d],.agg #[.int .i64 0,.int .i64 0]]) ∧ DcL (Fr w w') w' ds d ∧ BdV (Fr w w') w' b q))))))
section
set_option maxHeartbeats 16000000
set_option maxRecDepth 100000
set_option maxRecDepth 100000 in
theorem Parse_any (l : Bs) (w : World) : Calls Tryd.prog 4 #[.string (sb l)] w (ParsePost l w):=by
 have HNS:=hid (fun W=>NewStream_any l W)
 obtain ⟨S,hS⟩ : ∃ S,sb l = S:=⟨_,rfl⟩
 rw [hS] at HNS ⊢
 clear hS
 go_enter Tryd.func4,Tryd.ntmps4
 go_upto_region 1 with fail
 have HB1:=hid (show Below w.heap.size w ((w.alloc (.cells #[.slice none 0 0,.slice none 0 0] 25)).alloc (.cells #[.int .i64 0,.int .i64 0] 28)) from ((Below.refl _ w).alloc (Nat.le_refl _) _).alloc (by rw [show (w.alloc (.cells #[.slice none 0 0,.slice none 0 0] 25)).heap.size = w.heap.size + 1 from Array.size_push _];omega) _)
 have hu : (w.alloc (.cells #[.slice none 0 0,.slice none 0 0] 25)).heap.size = w.heap.size + 1:=Array.size_push _
 have hs1 : ((w.alloc (.cells #[.slice none 0 0,.slice none 0 0] 25)).alloc (.cells #[.int .i64 0,.int .i64 0] 28)).heap.size = (w.alloc (.cells #[.slice none 0 0,.slice none 0 0] 25)).heap.size + 1:=Array.size_push _
 have HE1:=hid (show SoB ((w.alloc (.cells #[.slice none 0 0,.slice none 0 0] 25)).alloc (.cells #[.int .i64 0,.int .i64 0] 28)) w.heap.size .zero .zero from SoB.far (show SoB (w.alloc (.cells #[.slice none 0 0,.slice none 0 0] 25)) w.heap.size .zero .zero from heap_alloc_new w _) (((Below.refl _ (w.alloc (.cells #[.slice none 0 0,.slice none 0 0] 25))).alloc (Nat.le_refl _) _).block w.heap.size (by rw [hu];exact Nat.lt_succ_self _)))
 have HG1:=hid (show Flt ((w.alloc (.cells #[.slice none 0 0,.slice none 0 0] 25)).alloc (.cells #[.int .i64 0,.int .i64 0] 28)) (w.alloc (.cells #[.slice none 0 0,.slice none 0 0] 25)).heap.size 0 0 from heap_alloc_new (w.alloc (.cells #[.slice none 0 0,.slice none 0 0] 25)) _)
 obtain ⟨u,hu'⟩ : ∃ u,(w.alloc (.cells #[.slice none 0 0,.slice none 0 0] 25)).heap.size = u:=⟨_,rfl⟩
 rw [hu'] at HG1 hs1 hu
 clear hu'
 obtain ⟨z,hz⟩ : ∃ z,w.heap.size = z:=⟨_,rfl⟩
 have HZ:=hid hz
 rw [hz] at HB1 HE1 hu ⊢
 rw [← hu]
 have hzu1 : z + 1 ≤ u:=Nat.le_of_eq hu.symm
 have hzu2 : u ≤ z + 1:=Nat.le_of_eq hu
 clear hu
 generalize ((w.alloc (.cells #[.slice none 0 0,.slice none 0 0] 25)).alloc (.cells #[.int .i64 0,.int .i64 0] 28)) = w1 at *
 clear hz
 go_wp2_with fail
 refine (HNS.out w1).mono ?_
 rintro e w2 ⟨hb2,hp⟩
 have HB2:=hid (HB1.out.trans (bl_least hb2 (by omega)))
 have HE2:=hid (HE1.out.far (hb2.block z (by omega)))
 have HG2:=hid (show Flt w2 u 0 0 from (hb2.block u (by omega)).trans HG1.out)
 have hs2 : u + 1 ≤ w2.heap.size:=Nat.le_trans (Nat.le_of_eq hs1.symm) hb2.size
 rw [hs1] at hp
 have hcase : (∃ f k : Int,f ≠ 0 ∧ e = .returned (.tuple #[.pointer none,.agg #[.int .i64 f,.int .i64 k]]) ∧ ∀ V,Below z w V → ParsePost l w (.returned (.tuple #[.agg #[.slice none 0 0,.slice none 0 0],.agg #[.int .i64 f,.int .i64 k]])) V) ∨
     (∃ ts q,l.length ≤ 8000 ∧ ScR l ts none ∧ e = .returned (.tuple #[.pointer (some ⟨q,0,none⟩),.agg #[.int .i64 0,.int .i64 0]]) ∧ u < q ∧ Stm w2 q ts):=by
   rcases hp with ⟨h1,rfl⟩ | ⟨h1,ts,o,h2,⟨f,h3,rfl⟩ | ⟨rfl,q,rfl,h3,h4⟩⟩
   · exact .inl ⟨2,0,by decide,rfl,fun V hV=>⟨by rw [HZ.out];exact hV,.inl ⟨h1,rfl⟩⟩⟩
   · exact .inl ⟨9,_,by decide,rfl,fun V hV=>⟨by rw [HZ.out];exact hV,.inr ⟨h1,ts,o,h2,.inl ⟨f,h3,rfl⟩⟩⟩⟩
   · exact .inr ⟨ts,q,h1,h2,rfl,by omega,h4⟩
 clear hp HNS hb2 hs1 HB1 HE1 HG1
 rcases hcase with ⟨f,k,hf,rfl,hpost⟩ | ⟨ts,q,hl,hsc,rfl,huq,hstm⟩
 · have hfb : (f != 0) = true:=bne_iff_ne.2 hf
   have HPO:=hid hpost
   clear hpost hf
   go_upto_region 2 with fail
   have hlb : Below w2.heap.size w2 (w2.alloc (.cells #[.int .i64 f,.int .i64 k] 28)):=(Below.refl _ w2).alloc (Nat.le_refl _) _
   have HB3:=hid (HB2.out.trans (bl_least hlb (by omega)))
   have HE3:=hid (HE2.out.far (hlb.block z (by omega)))
   have HG3:=hid (show Flt (w2.alloc (.cells #[.int .i64 f,.int .i64 k] 28)) u 0 0 from (hlb.block u (by omega)).trans HG2.out)
   have HY3:=hid (show Flt (w2.alloc (.cells #[.int .i64 f,.int .i64 k] 28)) w2.heap.size f k from heap_alloc_new w2 _)
   obtain ⟨y,hy⟩ : ∃ y,w2.heap.size = y:=⟨_,rfl⟩
   rw [hy] at HY3 hs2 ⊢
   clear hlb hy HB2 HE2 HG2
   generalize (w2.alloc (.cells #[.int .i64 f,.int .i64 k] 28)) = w3 at *
   have y0:=HY3.out.c0
   have y1:=HY3.out.c1
   go_upto_region 3 with fail
   have e0:=HE3.out.c0
   have e1:=HE3.out.c1
   have e2:=HE3.out.free 0
   have e3:=HE3.out.free 1
   have g0:=HG3.out.c0
   have g1:=HG3.out.c1
   have g2:=HG3.out.free 0
   have g3:=HG3.out.free 1
   have huz : u ≠ z:=by omega
   have hzu : z ≠ u:=by omega
   have hzy : z ≠ y:=by omega
   have hyz : y ≠ z:=by omega
   go_region
   all_goals go_wp2_with fail
   have hf1 : ∀ g,g ≠ z → ((w3.setCell ⟨z,0,none⟩ (.slice none 0 0)).setCell ⟨z,1,none⟩ (.slice none 0 0)).heap[g]? = w3.heap[g]?:=fun g hg=>(Below.heap_setCell _ ⟨z,1,none⟩ _ g hg).trans (Below.heap_setCell _ ⟨z,0,none⟩ _ g hg)
   have hf2 : ∀ g,g ≠ u → ((((w3.setCell ⟨z,0,none⟩ (.slice none 0 0)).setCell ⟨z,1,none⟩ (.slice none 0 0)).setCell ⟨u,0,none⟩ (.int .i64 f)).setCell ⟨u,1,none⟩ (.int .i64 k)).heap[g]? = ((w3.setCell ⟨z,0,none⟩ (.slice none 0 0)).setCell ⟨z,1,none⟩ (.slice none 0 0)).heap[g]?:=fun g hg=>(Below.heap_setCell _ ⟨u,1,none⟩ _ g hg).trans (Below.heap_setCell _ ⟨u,0,none⟩ _ g hg)
   have hS : SoB ((((w3.setCell ⟨z,0,none⟩ (.slice none 0 0)).setCell ⟨z,1,none⟩ (.slice none 0 0)).setCell ⟨u,0,none⟩ (.int .i64 f)).setCell ⟨u,1,none⟩ (.int .i64 k)).drew z ⟨none,0,0⟩ ⟨none,0,0⟩:=show SoB ((((w3.setCell ⟨z,0,none⟩ (.slice none 0 0)).setCell ⟨z,1,none⟩ (.slice none 0 0)).setCell ⟨u,0,none⟩ (.int .i64 f)).setCell ⟨u,1,none⟩ (.int .i64 k)) z ⟨none,0,0⟩ ⟨none,0,0⟩ from SoB.far (SoB.putB (SoB.putD HE3.out ⟨none,0,0⟩) ⟨none,0,0⟩) (hf2 z (by omega))
   have hF : Flt ((((w3.setCell ⟨z,0,none⟩ (.slice none 0 0)).setCell ⟨z,1,none⟩ (.slice none 0 0)).setCell ⟨u,0,none⟩ (.int .i64 f)).setCell ⟨u,1,none⟩ (.int .i64 k)).drew u f k:=show Flt ((((w3.setCell ⟨z,0,none⟩ (.slice none 0 0)).setCell ⟨z,1,none⟩ (.slice none 0 0)).setCell ⟨u,0,none⟩ (.int .i64 f)).setCell ⟨u,1,none⟩ (.int .i64 k)) u f k from Flt.put (show Flt ((w3.setCell ⟨z,0,none⟩ (.slice none 0 0)).setCell ⟨z,1,none⟩ (.slice none 0 0)) u 0 0 from (hf1 u (by omega)).trans HG3.out) f k
   have hb : Below z w ((((w3.setCell ⟨z,0,none⟩ (.slice none 0 0)).setCell ⟨z,1,none⟩ (.slice none 0 0)).setCell ⟨u,0,none⟩ (.int .i64 f)).setCell ⟨u,1,none⟩ (.int .i64 k)).drew:=((((HB3.out.setCell (p:=⟨z,0,none⟩) (Nat.le_refl _) _).setCell (p:=⟨z,1,none⟩) (Nat.le_refl _) _).setCell (p:=⟨u,0,none⟩) (by show z ≤ u;omega) _).setCell (p:=⟨u,1,none⟩) (by show z ≤ u;omega) _).drew
   refine bodyPost_ret (v:=.tuple #[.agg #[.slice none 0 0,.slice none 0 0],.agg #[.int .i64 f,.int .i64 k]]) (results_c2 rfl _ _ _ ⟨z,0,none⟩ ⟨u,0,none⟩ _ _ rfl rfl hS.load hF.load) rfl ?_
   exact HPO.out _ hb
 · have HSC := hid hsc
   have HLL:=hid hl
   have HSM:=hid hstm
   clear hsc hl hstm
   go_upto_region 2 with fail
   have hq2:=HSM.out.lt
   have hlb : Below w2.heap.size w2 (w2.alloc (.cells #[.int .i64 0,.int .i64 0] 28)):=(Below.refl _ w2).alloc (Nat.le_refl _) _
   have hl3 : w2.heap.size + 1 ≤ (w2.alloc (.cells #[.int .i64 0,.int .i64 0] 28)).heap.size:=Nat.le_of_eq (Array.size_push _).symm
   have HB3:=hid (HB2.out.trans (bl_least hlb (by omega)))
   have HE3:=hid (HE2.out.far (hlb.block z (by omega)))
   have HG3:=hid (show Flt (w2.alloc (.cells #[.int .i64 0,.int .i64 0] 28)) u 0 0 from (hlb.block u (by omega)).trans HG2.out)
   have y0 : (w2.alloc (.cells #[.int .i64 0,.int .i64 0] 28)).cell? ⟨w2.heap.size,0,none⟩ = some (.int .i64 0):=blk_cell (heap_alloc_new w2 _)
   have HSM3:=hid (HSM.out.below hq2 hlb)
   clear hlb HB2 HE2 HG2 HSM
   obtain ⟨v,hv⟩ : ∃ v,w2.heap.size = v:=⟨_,rfl⟩
   rw [hv] at y0 hl3 hq2 ⊢
   clear hv hs2
   generalize (w2.alloc (.cells #[.int .i64 0,.int .i64 0] 28)) = w3 at *
   go_upto_region 5 with fail
   clear y0
   have hlb : Below w3.heap.size w3 (w3.alloc (.cells #[.pointer (some ⟨q,0,none⟩),.int .i64 0,.int .i64 0,.int .i64 0,.int .i64 0] 49)):=(Below.refl _ w3).alloc (Nat.le_refl _) _
   have hl4 : w3.heap.size + 1 ≤ (w3.alloc (.cells #[.pointer (some ⟨q,0,none⟩),.int .i64 0,.int .i64 0,.int .i64 0,.int .i64 0] 49)).heap.size:=Nat.le_of_eq (Array.size_push _).symm
   have HP4:=hid (show Ps (w3.alloc (.cells #[.pointer (some ⟨q,0,none⟩),.int .i64 0,.int .i64 0,.int .i64 0,.int .i64 0] 49)) w3.heap.size q (ts,0) 0 0 from ⟨⟨0,heap_alloc_new w3 _⟩,HSM3.out.below HSM3.out.lt hlb,HSM3.out.lt,by decide,by decide⟩)
   have HE4:=hid (HE3.out.far (hlb.block z (by omega)))
   have HG4:=hid (show Flt (w3.alloc (.cells #[.pointer (some ⟨q,0,none⟩),.int .i64 0,.int .i64 0,.int .i64 0,.int .i64 0] 49)) u 0 0 from (hlb.block u (by omega)).trans HG3.out)
   have HB4:=hid (HB3.out.trans (bl_least hlb (by omega)))
   obtain ⟨p,hp⟩ : ∃ p,w3.heap.size = p:=⟨_,rfl⟩
   rw [hp] at HP4 hl4 hl3 ⊢
   clear hlb HB3 HE3 HG3 HSM3 hp
   generalize (w3.alloc (.cells #[.pointer (some ⟨q,0,none⟩),.int .i64 0,.int .i64 0,.int .i64 0,.int .i64 0] 49)) = w4 at *
   go_upto_region 6 with fail
   have hlb : Below w4.heap.size w4 (w4.alloc (.cells #[.slice none 0 0,.slice none 0 0] 25)):=(Below.refl _ w4).alloc (Nat.le_refl _) _
   have hl5 : w4.heap.size + 1 ≤ (w4.alloc (.cells #[.slice none 0 0,.slice none 0 0] 25)).heap.size:=Nat.le_of_eq (Array.size_push _).symm
   have HY5:=hid (show SoB (w4.alloc (.cells #[.slice none 0 0,.slice none 0 0] 25)) w4.heap.size .zero .zero from heap_alloc_new w4 _)
   have HP5:=hid (HP4.out.below (by omega) hlb)
   have HE5:=hid (HE4.out.far (hlb.block z (by omega)))
   have HG5:=hid (show Flt (w4.alloc (.cells #[.slice none 0 0,.slice none 0 0] 25)) u 0 0 from (hlb.block u (by omega)).trans HG4.out)
   have HK5:=hid (show Kx q p z w (w4.alloc (.cells #[.slice none 0 0,.slice none 0 0] 25)) from Kx.of (HB4.out.trans (bl_least hlb (by omega))) (Nat.le_refl _))
   obtain ⟨y,hy⟩ : ∃ y,w4.heap.size = y:=⟨_,rfl⟩
   rw [hy] at HY5 hl5 hl4 ⊢
   clear hlb hy HP4 HE4 HG4 HB4
   generalize (w4.alloc (.cells #[.slice none 0 0,.slice none 0 0] 25)) = w5 at *
   have hy5 : y + 1 ≤ w5.heap.size:=hl5
   have hpy : p < y:=by omega
   have hqp : q < p:=by omega
   have HBD5:=hid HP5.out.stm.bound
   clear hl3 hl4 hl5 hq2
   go_wp2_with fail
   go_loopw [23] (fun _ wr=>∃ (ds : List Dc) (s' : PS) (A : Option Addr) (n' c' : Nat),n' + s'.1.length ≤ 8002 ∧ (∀ l2 s3,DeclsR ds s' l2 s3 → DeclsR [] (ts,0) l2 s3) ∧ TL dcR 58 (y + 1) wr (.slice A n' c') n' ds ∧ SoB wr y ⟨A,n',c'⟩ .zero ∧ SoB wr z .zero .zero ∧ Flt wr u 0 0 ∧ Ps wr p q s' 0 0 ∧ Kx q p z w wr ∧ y + 1 ≤ wr.heap.size) (fun _ wr=>mW q wr)
   case atStart=>
     exact ⟨[],(ts,0),none,0,0,by have:=HBD5.out;dsimp only;omega,fun _ _ h=>h,TL.nil,HY5.out,HE5.out,HG5.out,HP5.out,HK5.out,hy5⟩
   case round=>
     obtain ⟨ds,s1,A1,n1,c1,hbd1,hc1,htl1,hy1,he1,hg1,hp1,hkx1,hl1⟩:=hrel
     have HBD:=hid hbd1
     have HC:=hid hc1
     have HTLr:=hid htl1
     have HYr:=hid hy1
     have HEr:=hid he1
     have HGr:=hid hg1
     have HPr:=hid hp1
     have HKr:=hid hkx1
     have HMW:=hid (mW_of hp1.stm)
     clear hbd1 hc1 htl1 hy1 he1 hg1 hp1 hkx1 HY5 HE5 HG5 HP5 HK5 hy5 HBD5
     have hb1 : Below wr.heap.size wr (wr.alloc (.cells #[.string ⟨#[108,101,116]⟩,.string ⟨#[114,111,117,116,101]⟩] 9)):=(Below.refl _ wr).alloc (Nat.le_refl _) _
     have hl2 : (wr.alloc (.cells #[.string ⟨#[108,101,116]⟩,.string ⟨#[114,111,117,116,101]⟩] 9)).heap.size = wr.heap.size + 1:=Array.size_push _
     have HB1':=hid hb1
     have HSE:=hid (show Calls Tryd.prog 13 #[.pointer (some ⟨p,0,none⟩),.slice (some ⟨wr.heap.size,0,none⟩) 2 2] (wr.alloc (.cells #[.string ⟨#[108,101,116]⟩,.string ⟨#[114,111,117,116,101]⟩] 9)) (fun e w'=>e = .returned (.bool (sees s1 [kLet,kRoute])) ∧ Below (wr.alloc (.cells #[.string ⟨#[108,101,116]⟩,.string ⟨#[114,111,117,116,101]⟩] 9)).heap.size (wr.alloc (.cells #[.string ⟨#[108,101,116]⟩,.string ⟨#[114,111,117,116,101]⟩] 9)) w') from sees_any p q 0 0 s1 (some ⟨wr.heap.size,0,none⟩) 2 [kLet,kRoute] _ (HPr.out.below HPr.out.size hb1) (RS.new wr [kLet,kRoute]) (Nat.le_add_left 2 98))
     clear hb1
     go_wp2_with fail
     refine HSE.out.mono ?_
     rintro e w7 ⟨rfl,hb7⟩
     have HB7:=hid (HB1'.out.trans (bl_least hb7 (by rw [hl2];omega)))
     have HP:=hid (HPr.out.below HPr.out.size HB7.out)
     have HTL:=hid (HTLr.out.keep HB7.out.size fun g _ hg=>HB7.out.block g hg)
     have HY:=hid (HYr.out.far (HB7.out.block y (by omega)))
     have HE:=hid (HEr.out.far (HB7.out.block z (by omega)))
     have HG:=hid (show Flt w7 u 0 0 from (HB7.out.block u (by omega)).trans HGr.out)
     have HK:=hid (HKr.out.trans (Kx.of HB7.out (by omega)))
     have HL:=hid (Nat.le_trans hl1 HB7.out.size)
     have hl7:=HL.out
     clear hb7 HB7 HB1' HSE hl2 HPr HTLr HYr HEr HGr HKr hl1
     cases hse : sees s1 [kLet,kRoute] with
     | true=>
       go_upto_region 7 with fail
       clear hl7
       have HPd:=hid (show Ps w7.drew p q s1 0 0 from HP.out.drew)
       have HYd:=hid (show SoB w7.drew y ⟨A1,n1,c1⟩ .zero from HY.out)
       have HEd:=hid (show SoB w7.drew z .zero .zero from HE.out)
       have HGd:=hid (show Flt w7.drew u 0 0 from HG.out)
       have HTLd:=hid (show TL dcR 58 (y + 1) w7.drew (.slice A1 n1 c1) n1 ds from HTL.out.keep (Nat.le_refl _) fun _ _ _=>rfl)
       have HKd:=hid (show Kx q p z w w7.drew from HK.out.drew)
       have hlw : (y + 1) ≤ w7.drew.heap.size:=HL.out
       refine wp_region_noPanic ?_
       refine wp_region_until (S:=fun X=>X.cell? ⟨y,0,none⟩ = some (.slice A1 n1 c1)) 7 (by kernel_rfl) ?_ (fun hHeld=>?_)
       · (try dsimp only)
         exact HYd.out.c0
       clear HK HL HTL HP HY HE HG
       generalize w7.drew = wd at *
       apply tkY 0
       apply tkW 1
       apply tkY 2
       refine wpAnyU_one (i:=3) rfl (by decide) (by kernel_rfl) (by rfl) (fun K' hK'=>?_)
       have HKP:=hid hK'
       clear hK'
       go_simp
       refine (decl_any p q 0 s1 wd HPd.out).mono ?_
       rintro e w8 ⟨x2,s2,cs2,hr2,rfl,htr2,hp8,hk8⟩
       have HP8:=hid hp8
       have HR2:=hid hr2
       have hs8:=hk8.size
       have hcl : cs2.length = 9:=dcR.size htr2 cs2 (List.mem_singleton.2 rfl)
       have HY8:=hid (HYd.out.far (hk8.block y (by omega) (by omega) (by omega)))
       have HE8:=hid (HEd.out.far (hk8.block z (by omega) (by omega) (by omega)))
       have HG8:=hid (Flt.heap HGd.out (hk8.block u (by omega) (by omega) (by omega)))
       have HK8:=hid (HKd.out.trans (hk8.least (by omega)))
       obtain ⟨A3,c3,w9,hrun,htl9,hbl9,hs9⟩:=TL.push (K:=dcR) (p:=p) (q:=q) 22 TTd (by decide) HTLd.out hk8 (show q < (y + 1) by omega) (show p < (y + 1) by omega) hlw (by have:=HBD.out;omega) htr2
       have HRUN:=hid (show (Builtin.append_ #[22,22] 22 #[.slice A1 n1 c1,.slice (some ⟨w8.heap.size,0,none⟩) 1 1]).run Tryd.prog (w8.alloc (.cells cs2.toArray 58)) = .ok (.slice A3 (n1 + 1) c3) w9 from hrun)
       have HTL9:=hid htl9
       have HP9:=hid (HP8.out.below (show p < (y + 1) by omega) hbl9)
       have HK9:=hid (HK8.out.trans (Kx.of hbl9 (by omega)))
       have HY9:=hid (HY8.out.far (hbl9.block y (by omega)))
       have HE9:=hid (HE8.out.far (hbl9.block z (by omega)))
       have HG9:=hid (Flt.heap HG8.out (hbl9.block u (by omega)))
       have HYa:=hid (HY8.out.far (((Below.refl _ w8).alloc (Nat.le_refl _) (.cells cs2.toArray 58)).block y (by omega)))
       clear hr2 htr2 hp8 hk8 hrun htl9 hbl9 HPd HTLd HKd HYd HEd HGd
       (try dsimp only)
       refine HKP.out _ _ HY8.out.c0 ?_
       clear HKP K'
       (try simp only [List.getElem_toArray,List.getElem_cons_zero,List.getElem_cons_succ,Act.put,List.setIfInBounds_toArray,List.set_cons_zero,List.set_cons_succ])
       refine wpAnyU_one (i:=4) rfl (by decide) (by kernel_rfl) (by rfl) (fun K' hK'=>?_)
       have HKP:=hid hK'
       clear hK'
       refine wp_bs1 TTd (.tmp 27) rfl cs2.toArray rfl (by rw [List.size_toArray,hcl]) (by decide) ?_
       refine HKP.out _ _ HYa.out.c0 ?_
       clear HKP K'
       (try simp only [List.getElem_toArray,List.getElem_cons_zero,List.getElem_cons_succ,Act.put,List.setIfInBounds_toArray,List.set_cons_zero,List.set_cons_succ])
       refine wpAnyU_one (i:=5) rfl (by decide) (by kernel_rfl) (by rfl) (fun K' hK'=>?_)
       have HKP:=hid hK'
       clear hK'
       refine Lib.wp_append_run _ (.tmp 25) (.tmp 28) 22 22 rfl _ _ rfl rfl _ _ HRUN.out ?_
       refine HKP.out _ _ HY9.out.c0 ?_
       clear HKP K'
       (try simp only [List.getElem_toArray,List.getElem_cons_zero,List.getElem_cons_succ,Act.put,List.setIfInBounds_toArray,List.set_cons_zero,List.set_cons_succ])
       clear hHeld HRUN HYa
       have hHeld:=HY9.out.c0
       apply tkY 6
       refine wpAnyU_at (c:=7) rfl (by kernel_rfl) (by rfl) (fun K hK=>?_)
       have HK:=hid hK
       clear hK
       have k4:=HY9.out.c0
       have l4:=HY9.out.free 0
       go_simp
       refine HK.out _ _ ?_
       clear HK K
       (try simp only [List.getElem_toArray,List.getElem_cons_zero,List.getElem_cons_succ,Act.put,List.setIfInBounds_toArray,List.set_cons_zero,List.set_cons_succ])
       refine wpAny_done (by kernel_rfl) ?_ _
       refine NoPanic.normal ?_
       have hbn : Below y w9 (w9.setCell ⟨y,0,none⟩ (.slice A3 (n1 + 1) c3)):=(Below.refl y w9).setCell (p:=⟨y,0,none⟩) (Nat.le_refl _) _
       have hfn : ∀ g,g ≠ y → (w9.setCell ⟨y,0,none⟩ (.slice A3 (n1 + 1) c3)).heap[g]? = w9.heap[g]?:=fun g hg=>Below.heap_setCell w9 ⟨y,0,none⟩ _ g hg
       have HPn:=hid (HP9.out.below (show p < y by omega) hbn)
       have HYn:=hid (HY9.out.putD ⟨A3,n1 + 1,c3⟩)
       have HEn:=hid (HE9.out.far (hfn z (by omega)))
       have HGn:=hid (Flt.heap HG9.out (hfn u (by omega)))
       have HKn:=hid (HK9.out.trans (Kx.of hbn (by omega)))
       have HTLn:=hid (HTL9.out.keep hbn.size fun g hg _=>hfn g (by omega))
       have HLn:=hid (Nat.le_trans (show (y + 1) ≤ w9.heap.size by omega) hbn.size)
       clear hbn hfn HP8 HK8 HP9 HK9 HTL9 hs8 hs9 hHeld hlw hcl k4 l4 HY8 HY9 HE8 HE9 HG8 HG9
       generalize (w9.setCell ⟨y,0,none⟩ (.slice A3 (n1 + 1) c3)) = wn at *
       have HLT:=hid (DeclR.lt HR2.out hse)
       go_wp2_with fail
       refine ⟨⟨ds ++ [x2],s2,A3,n1 + 1,c3,by have:=HBD.out;have:=HLT.out;omega,fun l2 s3 h=>HC.out _ _ (DeclsR.go hse HR2.out h),HTLn.out,HYn.out,HEn.out,HGn.out,HPn.out,HKn.out,HLn.out⟩,?_⟩
       rw [mW_of HPn.out.stm,HMW.out]
       exact Nat.succ_lt_succ HLT.out
     | false=>
       have HD1:=hid (HC.out _ _ (DeclsR.stop hse))
       clear HC HMW
       obtain ⟨css,hrp,htv,hnc⟩:=HTL.out.ran
       obtain ⟨lo,hlo⟩ : ∃ lo,w7.heap.size = lo:=⟨_,rfl⟩
       have HD:=hid (show DcL (Rg (y + 1) lo) w7 ds ⟨A1,n1,c1⟩ from by rw [← hlo];exact ⟨css,htv,hrp,hnc⟩)
       have hylo : y + 1 ≤ lo:=by omega
       have hlo7 : lo ≤ w7.heap.size:=Nat.le_of_eq hlo.symm
       clear hrp htv hnc hlo HTL HL hl7
       have hmu7 : mu s1 ≤ 8002:=by have:=HP.out.stm.bound;rw [mu];split <;> omega
       clear HBD
       go_wp2_with fail
       go_loopw [32] (fun _ wr=>∃ (b : List St) (s' : PS) (A : Option Addr) (n' c' : Nat),n' + mu s' ≤ 8002 ∧ (∀ l2 s3,TopR b s' l2 s3 → TopR [] s1 l2 s3) ∧ TL stR 64 lo wr (.slice A n' c') n' b ∧ SoB wr y ⟨A1,n1,c1⟩ ⟨A,n',c'⟩ ∧ SoB wr z .zero .zero ∧ Flt wr u 0 0 ∧ DcL (Rg (y + 1) lo) wr ds ⟨A1,n1,c1⟩ ∧ Ps wr p q s' 0 0 ∧ Kx q p z w wr ∧ lo ≤ wr.heap.size) (fun _ wr=>mF p q wr)
       case atStart=>
         exact ⟨[],s1,none,0,0,by omega,fun _ _ h=>h,TL.nil,HY.out,HE.out,HG.out,HD.out,HP.out,HK.out,hlo7⟩
       case round=>
         obtain ⟨b,s0,A2,n2,c2,hbd1,hc1,htl1,hy1,he1,hg1,hd1,hp1,hkx1,hl1⟩:=hrel
         clear HY HE HG HD HP HK hlo7 hmu7 hse
         have HBD:=hid hbd1
         have HC:=hid hc1
         have HTL:=hid htl1
         have HY:=hid hy1
         have HE:=hid he1
         have HG:=hid hg1
         have HD:=hid hd1
         have HP:=hid hp1
         have HK:=hid hkx1
         have HMF:=hid (mF_of hp1)
         have HL:=hid hl1
         clear hbd1 hc1 htl1 hy1 he1 hg1 hd1 hp1 hkx1
         have HOKC:=hid (fun (s : PS) W (h : Ps W p q s 0 0)=>ok_any p q 0 0 s W h)
         cases hs0 : (s0.2 == 0) with
         | false=>
           have hne : s0.2 ≠ 0:=beq_eq_false_iff_ne.1 hs0
           have HNE:=hid hne
           clear hne
           go_upto_region 11 with (go_at_call 15;refine (HOKC.out s0 _ HP.out).mono ?_;rintro e w6 ⟨rfl,hw6⟩;rw [hw6];clear hw6 w6;(try rw [hs0]))
           clear hs0
           obtain ⟨a2,ha2⟩:=HP.out.c2
           have ha1:=HP.out.c1
           obtain ⟨er,her⟩ : ∃ er,s0.2 = er:=⟨_,rfl⟩
           rw [her] at ha1
           have HER:=hid her
           clear her
           have HBr:=hid (kx_below HK.out (show z ≤ q by omega) (show z ≤ p by omega))
           have hzp : z ≠ p:=by omega
           have hpz : p ≠ z:=by omega
           have e0:=HE.out.c0
           have e1:=HE.out.c1
           have e2:=HE.out.free 0
           have e3:=HE.out.free 1
           have g0:=HG.out.c0
           have g1:=HG.out.c1
           have g2:=HG.out.free 0
           have g3:=HG.out.free 1
           have huz : u ≠ z:=by omega
           have hzu : z ≠ u:=by omega
           have hzy : z ≠ y:=by omega
           have hyz : y ≠ z:=by omega
           go_region
           all_goals go_wp2_with fail
           have hf1 : ∀ g,g ≠ z → ((wr.setCell ⟨z,0,none⟩ (.slice none 0 0)).setCell ⟨z,1,none⟩ (.slice none 0 0)).heap[g]? = wr.heap[g]?:=fun g hg=>(Below.heap_setCell _ ⟨z,1,none⟩ _ g hg).trans (Below.heap_setCell _ ⟨z,0,none⟩ _ g hg)
           have hf2 : ∀ g,g ≠ u → ((((wr.setCell ⟨z,0,none⟩ (.slice none 0 0)).setCell ⟨z,1,none⟩ (.slice none 0 0)).setCell ⟨u,0,none⟩ (.int .i64 er)).setCell ⟨u,1,none⟩ (.int .i64 a2)).heap[g]? = ((wr.setCell ⟨z,0,none⟩ (.slice none 0 0)).setCell ⟨z,1,none⟩ (.slice none 0 0)).heap[g]?:=fun g hg=>(Below.heap_setCell _ ⟨u,1,none⟩ _ g hg).trans (Below.heap_setCell _ ⟨u,0,none⟩ _ g hg)
           have hS : SoB ((((wr.setCell ⟨z,0,none⟩ (.slice none 0 0)).setCell ⟨z,1,none⟩ (.slice none 0 0)).setCell ⟨u,0,none⟩ (.int .i64 er)).setCell ⟨u,1,none⟩ (.int .i64 a2)).drew z ⟨none,0,0⟩ ⟨none,0,0⟩:=show SoB ((((wr.setCell ⟨z,0,none⟩ (.slice none 0 0)).setCell ⟨z,1,none⟩ (.slice none 0 0)).setCell ⟨u,0,none⟩ (.int .i64 er)).setCell ⟨u,1,none⟩ (.int .i64 a2)) z ⟨none,0,0⟩ ⟨none,0,0⟩ from SoB.far (SoB.putB (SoB.putD HE.out ⟨none,0,0⟩) ⟨none,0,0⟩) (hf2 z (by omega))
           have hF : Flt ((((wr.setCell ⟨z,0,none⟩ (.slice none 0 0)).setCell ⟨z,1,none⟩ (.slice none 0 0)).setCell ⟨u,0,none⟩ (.int .i64 er)).setCell ⟨u,1,none⟩ (.int .i64 a2)).drew u er a2:=show Flt ((((wr.setCell ⟨z,0,none⟩ (.slice none 0 0)).setCell ⟨z,1,none⟩ (.slice none 0 0)).setCell ⟨u,0,none⟩ (.int .i64 er)).setCell ⟨u,1,none⟩ (.int .i64 a2)) u er a2 from Flt.put (show Flt ((wr.setCell ⟨z,0,none⟩ (.slice none 0 0)).setCell ⟨z,1,none⟩ (.slice none 0 0)) u 0 0 from (hf1 u (by omega)).trans HG.out) er a2
           have hb : Below z w ((((wr.setCell ⟨z,0,none⟩ (.slice none 0 0)).setCell ⟨z,1,none⟩ (.slice none 0 0)).setCell ⟨u,0,none⟩ (.int .i64 er)).setCell ⟨u,1,none⟩ (.int .i64 a2)).drew:=((((HBr.out.setCell (p:=⟨z,0,none⟩) (Nat.le_refl _) _).setCell (p:=⟨z,1,none⟩) (Nat.le_refl _) _).setCell (p:=⟨u,0,none⟩) (by show z ≤ u;omega) _).setCell (p:=⟨u,1,none⟩) (by show z ≤ u;omega) _).drew
           refine bodyPost_ret (v:=.tuple #[.agg #[.slice none 0 0,.slice none 0 0],.agg #[.int .i64 er,.int .i64 a2]]) (results_c2 rfl _ _ _ ⟨z,0,none⟩ ⟨u,0,none⟩ _ _ rfl rfl hS.load hF.load) rfl ?_
           refine ⟨by rw [HZ.out];exact hb,.inr ⟨HLL.out,ts,none,HSC.out,.inr ⟨rfl,ds,b,s0,SrcR.mk HD1.out (HC.out _ _ (TopR.bad HNE.out)),.inl ⟨HNE.out,a2,?_⟩⟩⟩⟩
           rw [HER.out]
         | true=>
           have hne : s0.2 = 0:=beq_iff_eq.1 hs0
           have HNE:=hid hne
           have HKC:=hid (kind_any p q 0 0 s0 6 wr HP.out)
           have HKN:=hid (show knd s0 6 = decide ((pk s0.1).kind = 6) by rw [knd,decide_eq_true hne,Bool.true_and])
           clear hne
           cases hk6 : knd s0 6 with
           | true=>
             have h6 : (pk s0.1).kind = 6:=by rw [HKN.out] at hk6;exact of_decide_eq_true hk6
             have H6:=hid h6
             clear h6 HKN
             rw [hk6] at HKC
             clear hk6
             go_wp2_with (go_at_call 15;refine (HOKC.out s0 wr HP.out).mono ?_;rintro e w6 ⟨rfl,hw6⟩;rw [hw6];clear hw6 w6;(try rw [hs0]))
             refine HKC.out.mono ?_
             rintro e w6 ⟨rfl,hb6⟩
             have HP6:=hid (HP.out.below HP.out.size hb6)
             have HY6:=hid (HY.out.far (hb6.block y (by omega)))
             have HE6:=hid (HE.out.far (hb6.block z (by omega)))
             have HG6:=hid (show Flt w6 u 0 0 from (hb6.block u (by omega)).trans HG.out)
             have HD6:=hid (HD.out.keep fun g hg=>hb6.block g (by have:=hg.2;omega))
             have HTL6:=hid (HTL.out.keep hb6.size fun g _ hg=>hb6.block g hg)
             have HK6:=hid (HK.out.trans (Kx.of hb6 (by omega)))
             have HL6:=hid (Nat.le_trans HL.out hb6.size)
             have hl6:=HL6.out
             clear hb6 HP HY HE HG HD HTL HK HL hl1 HKC
             have k0:=HY6.out.c0
             have k1:=HY6.out.c1
             have hf1 : ∀ g,g ≠ z → ((w6.setCell ⟨z,0,none⟩ (.slice A1 n1 c1)).setCell ⟨z,1,none⟩ (.slice A2 n2 c2)).heap[g]? = w6.heap[g]?:=fun g hg=>(Below.heap_setCell _ ⟨z,1,none⟩ _ g hg).trans (Below.heap_setCell _ ⟨z,0,none⟩ _ g hg)
             have hgw : Flt ((w6.setCell ⟨z,0,none⟩ (.slice A1 n1 c1)).setCell ⟨z,1,none⟩ (.slice A2 n2 c2)) u 0 0:=(hf1 u (by omega)).trans HG6.out
             have e0:=HE6.out.c0
             have e1:=HE6.out.c1
             have e2:=HE6.out.free 0
             have e3:=HE6.out.free 1
             have g0:=hgw.c0
             have g1:=hgw.c1
             have g2:=hgw.free 0
             have g3:=hgw.free 1
             clear hf1 hgw
             go_wp2_with (go_at_call 15;refine (HOKC.out s0 _ HP6.out).mono ?_;rintro e w7 ⟨rfl,hw7⟩;rw [hw7];clear hw7 w7;(try rw [hs0]))
             have hf1 : ∀ g,g ≠ z → ((w6.setCell ⟨z,0,none⟩ (.slice A1 n1 c1)).setCell ⟨z,1,none⟩ (.slice A2 n2 c2)).heap[g]? = w6.heap[g]?:=fun g hg=>(Below.heap_setCell _ ⟨z,1,none⟩ _ g hg).trans (Below.heap_setCell _ ⟨z,0,none⟩ _ g hg)
             have hf2 : ∀ g,g ≠ u → ((((w6.setCell ⟨z,0,none⟩ (.slice A1 n1 c1)).setCell ⟨z,1,none⟩ (.slice A2 n2 c2)).setCell ⟨u,0,none⟩ (.int .i64 0)).setCell ⟨u,1,none⟩ (.int .i64 0)).heap[g]? = ((w6.setCell ⟨z,0,none⟩ (.slice A1 n1 c1)).setCell ⟨z,1,none⟩ (.slice A2 n2 c2)).heap[g]?:=fun g hg=>(Below.heap_setCell _ ⟨u,1,none⟩ _ g hg).trans (Below.heap_setCell _ ⟨u,0,none⟩ _ g hg)
             have hS : SoB ((((w6.setCell ⟨z,0,none⟩ (.slice A1 n1 c1)).setCell ⟨z,1,none⟩ (.slice A2 n2 c2)).setCell ⟨u,0,none⟩ (.int .i64 0)).setCell ⟨u,1,none⟩ (.int .i64 0)) z ⟨A1,n1,c1⟩ ⟨A2,n2,c2⟩:=show SoB ((((w6.setCell ⟨z,0,none⟩ (.slice A1 n1 c1)).setCell ⟨z,1,none⟩ (.slice A2 n2 c2)).setCell ⟨u,0,none⟩ (.int .i64 0)).setCell ⟨u,1,none⟩ (.int .i64 0)) z ⟨A1,n1,c1⟩ ⟨A2,n2,c2⟩ from SoB.far (SoB.putB (SoB.putD HE6.out ⟨A1,n1,c1⟩) ⟨A2,n2,c2⟩) (hf2 z (by omega))
             have hF : Flt ((((w6.setCell ⟨z,0,none⟩ (.slice A1 n1 c1)).setCell ⟨z,1,none⟩ (.slice A2 n2 c2)).setCell ⟨u,0,none⟩ (.int .i64 0)).setCell ⟨u,1,none⟩ (.int .i64 0)) u 0 0:=show Flt ((((w6.setCell ⟨z,0,none⟩ (.slice A1 n1 c1)).setCell ⟨z,1,none⟩ (.slice A2 n2 c2)).setCell ⟨u,0,none⟩ (.int .i64 0)).setCell ⟨u,1,none⟩ (.int .i64 0)) u 0 0 from Flt.put (show Flt ((w6.setCell ⟨z,0,none⟩ (.slice A1 n1 c1)).setCell ⟨z,1,none⟩ (.slice A2 n2 c2)) u 0 0 from (hf1 u (by omega)).trans HG6.out) 0 0
             have hb : Below z w ((((w6.setCell ⟨z,0,none⟩ (.slice A1 n1 c1)).setCell ⟨z,1,none⟩ (.slice A2 n2 c2)).setCell ⟨u,0,none⟩ (.int .i64 0)).setCell ⟨u,1,none⟩ (.int .i64 0)):=(((((kx_below (q:=q) (p:=p) HK6.out (show z ≤ q by omega) (show z ≤ p by omega)).setCell (p:=⟨z,0,none⟩) (Nat.le_refl _) _).setCell (p:=⟨z,1,none⟩) (Nat.le_refl _) _).setCell (p:=⟨u,0,none⟩) (by show z ≤ u;omega) _).setCell (p:=⟨u,1,none⟩) (by show z ≤ u;omega) _)
             refine bodyPost_ret (v:=.tuple #[.agg #[.slice A1 n1 c1,.slice A2 n2 c2],.agg #[.int .i64 0,.int .i64 0]]) (results_c2 rfl _ _ _ ⟨z,0,none⟩ ⟨u,0,none⟩ _ _ rfl rfl hS.load hF.load) rfl ?_
             obtain ⟨es,hv1,hv2,hv3⟩:=HTL6.out.ran
             have hsz6 : w6.heap.size ≤ ((((w6.setCell ⟨z,0,none⟩ (.slice A1 n1 c1)).setCell ⟨z,1,none⟩ (.slice A2 n2 c2)).setCell ⟨u,0,none⟩ (.int .i64 0)).setCell ⟨u,1,none⟩ (.int .i64 0)).heap.size:=Nat.le_of_eq (by simp only [World.size_setCell])
             have hfa : ∀ g,y + 1 ≤ g → ((((w6.setCell ⟨z,0,none⟩ (.slice A1 n1 c1)).setCell ⟨z,1,none⟩ (.slice A2 n2 c2)).setCell ⟨u,0,none⟩ (.int .i64 0)).setCell ⟨u,1,none⟩ (.int .i64 0)).heap[g]? = w6.heap[g]?:=fun g hg=>(hf2 g (by omega)).trans (hf1 g (by omega))
             refine ⟨by rw [HZ.out];exact hb,.inr ⟨HLL.out,ts,none,HSC.out,.inr ⟨rfl,ds,b,s0,SrcR.mk HD1.out (HC.out _ _ (TopR.fin HNE.out H6.out)),.inr ⟨HNE.out,⟨A1,n1,c1⟩,⟨A2,n2,c2⟩,rfl,?_,?_⟩⟩⟩⟩
             · exact (HD6.out.keep fun g hg=>hfa g hg.1).mono fun g hg=>⟨by rw [HZ.out];have:=hg.1;omega,Nat.lt_of_lt_of_le (show g < w6.heap.size by have:=hg.2;omega) hsz6⟩
             · exact ⟨es,(StV.keep hv2 fun g hg=>hfa g (by have:=hg.1;omega)).mono fun g hg=>⟨by rw [HZ.out];have:=hg.1;omega,Nat.lt_of_lt_of_le hg.2 hsz6⟩,(hv1.keep fun g hg=>hfa g (by have:=hg.1;omega)).mono fun g hg=>⟨by rw [HZ.out];have:=hg.1;omega,Nat.lt_of_lt_of_le hg.2 hsz6⟩,hv3⟩
           | false=>
             have h6 : (pk s0.1).kind ≠ 6:=by rw [HKN.out] at hk6;exact of_decide_eq_false hk6
             have H6:=hid h6
             clear h6 HKN
             rw [hk6] at HKC
             clear hk6
             go_wp2_with (go_at_call 15;refine (HOKC.out s0 wr HP.out).mono ?_;rintro e w6 ⟨rfl,hw6⟩;rw [hw6];clear hw6 w6;(try rw [hs0]))
             refine HKC.out.mono ?_
             rintro e w6 ⟨rfl,hb6⟩
             have HP6:=hid (HP.out.below HP.out.size hb6)
             have HY6:=hid (HY.out.far (hb6.block y (by omega)))
             have HE6:=hid (HE.out.far (hb6.block z (by omega)))
             have HG6:=hid (show Flt w6 u 0 0 from (hb6.block u (by omega)).trans HG.out)
             have HD6:=hid (HD.out.keep fun g hg=>hb6.block g (by have:=hg.2;omega))
             have HTL6:=hid (HTL.out.keep hb6.size fun g _ hg=>hb6.block g hg)
             have HK6:=hid (HK.out.trans (Kx.of hb6 (by omega)))
             have HL6:=hid (Nat.le_trans HL.out hb6.size)
             have hl6:=HL6.out
             clear hb6 HP HY HE HG HD HTL HK HL hl1 HKC
             go_upto_region 9 with fail
             have HP:=HP6
             have HY:=HY6
             have HE:=HE6
             have HG:=HG6
             have HD:=HD6
             have HTL:=HTL6
             have HK:=HK6
             have HL:=HL6
             clear HP6 HY6 HE6 HG6 HD6 HTL6 HK6 HL6 hl6
             have HPd:=hid (show Ps w6.drew p q s0 0 0 from HP.out.drew)
             have HYd:=hid (show SoB w6.drew y ⟨A1,n1,c1⟩ ⟨A2,n2,c2⟩ from HY.out)
             have HEd:=hid (show SoB w6.drew z .zero .zero from HE.out)
             have HGd:=hid (show Flt w6.drew u 0 0 from HG.out)
             have HDd:=hid (show DcL (Rg (y + 1) lo) w6.drew ds ⟨A1,n1,c1⟩ from HD.out.keep fun _ _=>rfl)
             have HTLd:=hid (show TL stR 64 lo w6.drew (.slice A2 n2 c2) n2 b from HTL.out.keep (Nat.le_refl _) fun _ _ _=>rfl)
             have HKd:=hid (show Kx q p z w w6.drew from HK.out.drew)
             have hlw : lo ≤ w6.drew.heap.size:=HL.out
             refine wp_region_noPanic ?_
             refine wp_region_until (S:=fun X=>X.cell? ⟨y,1,none⟩ = some (.slice A2 n2 c2)) 7 (by kernel_rfl) ?_ (fun hHeld=>?_)
             · (try dsimp only)
               exact HYd.out.c1
             clear HK HL HTL HP HY HE HG HD
             generalize w6.drew = wd at *
             apply tkY 0
             apply tkW 1
             apply tkY 2
             refine wpAnyU_one (i:=3) rfl (by decide) (by kernel_rfl) (by rfl) (fun K' hK'=>?_)
             have HKP:=hid hK'
             clear hK'
             go_simp
             refine (stmt_any p q 0 s0 wd (fun _=>by decide) HPd.out).mono ?_
             rintro e w8 ⟨x2,s2,cs2,hr2,rfl,htr2,hp8,hk8⟩
             have HP8:=hid hp8
             have HR2:=hid hr2
             have hs8:=hk8.size
             have hcl : cs2.length = 26:=stR.size htr2 cs2 (List.mem_singleton.2 rfl)
             have HY8:=hid (HYd.out.far (hk8.block y (by omega) (by omega) (by omega)))
             have HE8:=hid (HEd.out.far (hk8.block z (by omega) (by omega) (by omega)))
             have HG8:=hid (Flt.heap HGd.out (hk8.block u (by omega) (by omega) (by omega)))
             have HD8:=hid (HDd.out.keep fun g hg=>hk8.block g (by have:=hg.2;omega) (by have:=hg.1;omega) (by have:=hg.1;omega))
             have HK8:=hid (HKd.out.trans (hk8.least (by omega)))
             obtain ⟨A3,c3,w9,hrun,htl9,hbl9,hs9⟩:=TL.push (K:=stR) (p:=p) (q:=q) 23 TTs (by decide) HTLd.out hk8 (show q < lo by omega) (show p < lo by omega) hlw (by have:=HBD.out;omega) htr2
             have HRUN:=hid (show (Builtin.append_ #[23,23] 23 #[.slice A2 n2 c2,.slice (some ⟨w8.heap.size,0,none⟩) 1 1]).run Tryd.prog (w8.alloc (.cells cs2.toArray 64)) = .ok (.slice A3 (n2 + 1) c3) w9 from hrun)
             have HTL9:=hid htl9
             have HP9:=hid (HP8.out.below (show p < lo by omega) hbl9)
             have HK9:=hid (HK8.out.trans (Kx.of hbl9 (by omega)))
             have HY9:=hid (HY8.out.far (hbl9.block y (by omega)))
             have HE9:=hid (HE8.out.far (hbl9.block z (by omega)))
             have HG9:=hid (Flt.heap HG8.out (hbl9.block u (by omega)))
             have HD9:=hid (HD8.out.keep fun g hg=>hbl9.block g (by have:=hg.2;omega))
             have HYa:=hid (HY8.out.far (((Below.refl _ w8).alloc (Nat.le_refl _) (.cells cs2.toArray 64)).block y (by omega)))
             clear hr2 htr2 hp8 hk8 hrun htl9 hbl9 HPd HTLd HKd HYd HEd HGd HDd
             (try dsimp only)
             refine HKP.out _ _ HY8.out.c1 ?_
             clear HKP K'
             (try simp only [List.getElem_toArray,List.getElem_cons_zero,List.getElem_cons_succ,Act.put,List.setIfInBounds_toArray,List.set_cons_zero,List.set_cons_succ])
             refine wpAnyU_one (i:=4) rfl (by decide) (by kernel_rfl) (by rfl) (fun K' hK'=>?_)
             have HKP:=hid hK'
             clear hK'
             refine wp_bs1 TTs (.tmp 41) rfl cs2.toArray rfl (by rw [List.size_toArray,hcl]) (by decide) ?_
             refine HKP.out _ _ HYa.out.c1 ?_
             clear HKP K'
             (try simp only [List.getElem_toArray,List.getElem_cons_zero,List.getElem_cons_succ,Act.put,List.setIfInBounds_toArray,List.set_cons_zero,List.set_cons_succ])
             refine wpAnyU_one (i:=5) rfl (by decide) (by kernel_rfl) (by rfl) (fun K' hK'=>?_)
             have HKP:=hid hK'
             clear hK'
             refine Lib.wp_append_run _ (.tmp 39) (.tmp 42) 23 23 rfl _ _ rfl rfl _ _ HRUN.out ?_
             refine HKP.out _ _ HY9.out.c1 ?_
             clear HKP K'
             (try simp only [List.getElem_toArray,List.getElem_cons_zero,List.getElem_cons_succ,Act.put,List.setIfInBounds_toArray,List.set_cons_zero,List.set_cons_succ])
             clear hHeld HRUN HYa
             have hHeld:=HY9.out.c1
             apply tkY 6
             refine wpAnyU_at (c:=7) rfl (by kernel_rfl) (by rfl) (fun K hK=>?_)
             have HK:=hid hK
             clear hK
             have k4:=HY9.out.c1
             have l4:=HY9.out.free 1
             go_simp
             refine HK.out _ _ ?_
             clear HK K
             (try simp only [List.getElem_toArray,List.getElem_cons_zero,List.getElem_cons_succ,Act.put,List.setIfInBounds_toArray,List.set_cons_zero,List.set_cons_succ])
             refine wpAny_done (by kernel_rfl) ?_ _
             refine NoPanic.normal ?_
             have hbn : Below y w9 (w9.setCell ⟨y,1,none⟩ (.slice A3 (n2 + 1) c3)):=(Below.refl y w9).setCell (p:=⟨y,1,none⟩) (Nat.le_refl _) _
             have hfn : ∀ g,g ≠ y → (w9.setCell ⟨y,1,none⟩ (.slice A3 (n2 + 1) c3)).heap[g]? = w9.heap[g]?:=fun g hg=>Below.heap_setCell w9 ⟨y,1,none⟩ _ g hg
             have HPn:=hid (HP9.out.below (show p < y by omega) hbn)
             have HYn:=hid (HY9.out.putB ⟨A3,n2 + 1,c3⟩)
             have HEn:=hid (HE9.out.far (hfn z (by omega)))
             have HGn:=hid (Flt.heap HG9.out (hfn u (by omega)))
             have HDn:=hid (HD9.out.keep fun g hg=>hfn g (by have:=hg.1;omega))
             have HKn:=hid (HK9.out.trans (Kx.of hbn (by omega)))
             have HTLn:=hid (HTL9.out.keep hbn.size fun g hg _=>hfn g (by omega))
             have HLn:=hid (Nat.le_trans (show lo ≤ w9.heap.size by omega) hbn.size)
             clear hbn hfn HP8 HK8 HP9 HK9 HTL9 hs8 hs9 hHeld hlw hcl k4 l4 HY8 HY9 HE8 HE9 HG8 HG9 HD8 HD9
             generalize (w9.setCell ⟨y,1,none⟩ (.slice A3 (n2 + 1) c3)) = wn at *
             have HLT:=hid (stmt_lt HR2.out HNE.out)
             go_wp2_with fail
             refine ⟨⟨b ++ [x2],s2,A3,n2 + 1,c3,by have:=HBD.out;have:=HLT.out;omega,fun l2 s3 h=>HC.out _ _ (TopR.go HNE.out H6.out HR2.out h),HTLn.out,HYn.out,HEn.out,HGn.out,HDn.out,HPn.out,HKn.out,HLn.out⟩,?_⟩
             rw [mF_of HPn.out,HMF.out]
             exact HLT.out
end
end Go.Proofs.YtgmjpnnblhkbpaaDoor
