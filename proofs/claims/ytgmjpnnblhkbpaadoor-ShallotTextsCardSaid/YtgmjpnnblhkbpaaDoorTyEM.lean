/-
  The parser's stmt and body, the knot closed. No conditions.
-/
import Derived.Test.YtgmjpnnblhkbpaaDoorTyCM
import Derived.Test.YtgmjpnnblhkbpaaDoorSqM
namespace Go.Proofs.YtgmjpnnblhkbpaaDoor
open Go Go.RowKit Go.Sh Tx
open Go.Lib (hid)
theorem bytes_eqT (a b : ByteArray) : (a.toList == b.toList) = decide (a = b):=by
 rw [bytes_toList,bytes_toList,Bool.eq_iff_iff,beq_iff_eq,decide_eq_true_iff]
 exact ⟨fun h=>WideShapes.bytes_inj h,fun h=>by rw [h]⟩
theorem wp_bs1 {P : Program} {t e : TypeId} {z : Value} {size bytes : Nat} (T : STy P t e z size bytes) {o : Oper} {a : Act} {w : World} {K : Act → World → Prop} {Q : Exit → Act → World → Prop} (x : Operand) (ho : o.op = .buildSlice t 1 #[(0,x)])
   (cells : Array Value) (hx : a.eval x = .agg cells) (hs : cells.size = size) (hsm : size ≤ 16777216) (h : K (a.put o.dst (.slice (some ⟨w.heap.size,0,none⟩) 1 1)) (w.alloc (.cells cells e))) : o.wp P a w K Q:=by
 obtain ⟨i,hi,hz,hsize,hby⟩:=info_parts T.info
 have hpos:=T.pos
 refine wp_buildSlice t e 1 #[(0,x)] ho cells i z T.und hi hz (by rw [hsize];omega) (by rw [hsize];omega) ?_ h
 have : (#[(0,x)].map fun (i,x)=>(i,a.eval x)).toList = [(0,Value.agg cells)]:=by simp [hx]
 rw [this]
 exact fill_one (v:=.agg cells) (size:=size) (by simp [hsize]) hs (by simp [hsize])
set_option maxRecDepth 100000 in
theorem TTp : STy Tryd.prog 56 88 (.agg #[.string .empty,.int .i64 0,.string .empty,.int .i64 0,.string .empty,.int .i64 0,.slice none 0 0,.string .empty,.int .i64 0,.string .empty,.int .i64 0,.slice none 0 0]) 12 168:=⟨Tryd.underlying56,by kernel_rfl,rfl,by decide⟩
structure DC where
 kind : ByteArray
 name : Q2
 value : Q5
 places : QS
def DC.cells (c : DC) : List Value:=[.string c.kind,.string c.name.t,.int .i64 c.name.a,.string c.value.o,.int .i64 c.value.m,.string c.value.t,.int .i64 c.value.a,.slice c.value.A c.value.n c.value.d,.slice c.places.A c.places.n c.places.d]
def DC.zero : DC:=⟨⟨#[]⟩,.zero,.zero,.zero⟩
def DB (w : World) (y : Nat) (c : DC) : Prop:=w.heap[y]? = some (.cells c.cells.toArray 58 (0,0))
section
variable {w w' : World} {y : Nat} {c : DC}
theorem DB.far (h : DB w y c) (hz : w'.heap[y]? = w.heap[y]?) : DB w' y c:=hz.trans h
theorem DB.free (h : DB w y c) (i : Nat) : w.frozen? ⟨y,i,none⟩ = false:=frozen_of_row _ _ i _ _ h
theorem DB.cell (h : DB w y c) (i : Nat) : w.cell? ⟨y,i,none⟩ = c.cells[i]?:=by rw [blk_cell h];simp
theorem DB.cP (h : DB w y c) : w.cell? ⟨y,8,none⟩ = some (.slice c.places.A c.places.n c.places.d):=h.cell 8
theorem DB.putN (h : DB w y c) (e : Q2) : DB ((w.setCell ⟨y,1,none⟩ (.string e.t)).setCell ⟨y,2,none⟩ (.int .i64 e.a)) y ⟨c.kind,e,c.value,c.places⟩:=blk_set (blk_set h _) _
theorem DB.putV (h : DB w y c) (e : Q5) : DB (((((w.setCell ⟨y,3,none⟩ (.string e.o)).setCell ⟨y,4,none⟩ (.int .i64 e.m)).setCell ⟨y,5,none⟩ (.string e.t)).setCell ⟨y,6,none⟩ (.int .i64 e.a)).setCell ⟨y,7,none⟩ (.slice e.A e.n e.d)) y ⟨c.kind,c.name,e,c.places⟩:=blk_set (blk_set (blk_set (blk_set (blk_set h _) _) _) _) _
theorem DB.putP (h : DB w y c) (e : QS) : DB (w.setCell ⟨y,8,none⟩ (.slice e.A e.n e.d)) y ⟨c.kind,c.name,c.value,e⟩:=blk_set h _
theorem DC.one (c : DC) : ∀ v ∈ c.cells,v.oneCell' = true:=by
 intro v hv
 simp only [DC.cells,List.mem_cons,List.not_mem_nil,or_false] at hv
 rcases hv with rfl | rfl | rfl | rfl | rfl | rfl | rfl | rfl | rfl <;> rfl
theorem DC.size (c : DC) : c.cells.toArray.size = 9:=rfl
set_option maxRecDepth 100000 in
theorem infoDc (c : DC) : (Tryd.prog.info? 58).map (·.size) = some c.cells.toArray.size:=by rw [DC.size];kernel_rfl
set_option maxRecDepth 100000 in
theorem DC.oneA (c : DC) : ∀ v ∈ c.cells.toArray.toList,v.oneCell' = true:=fun v hv=>DC.one c v (by simpa using hv)
theorem DC.loadRow {z : Nat} {zc : Array Value} (c : DC) (h : w.heap[z]? = some (.cells zc 58 (0,0))) : (loadVar 58 ⟨z,0,none⟩).run Tryd.prog (w.setRow z c.cells.toArray) = .ok (.agg c.cells.toArray) (w.setRow z c.cells.toArray):=
 run_loadVar_mid (P:=Tryd.prog) _ z 0 58 c.cells _ (blk_range (setRow_heap w z _ _ _ _ h)) Tryd.underlying58 rfl (infoDc c)
end
def DeclPost (p q b : Nat) (s : PS) (w : World) (e : Ending) (w' : World) : Prop:=
 ∃ (t : Dc) (s' : PS) (cs : List Value),DeclR s t s' ∧ e = .returned (.agg cs.toArray) ∧ dcR.R (Fr w w') w' [t] [cs] ∧ Ps w' p q s' b 0 ∧ Kx q p w.heap.size w w'
theorem DeclPost.of {p q b y z : Nat} {s s' : PS} {w w8 : World} {t : Dc} {c : DC} (hr : DeclR s t s') (hz : w.heap.size = z) (hT : DcV (Fx z y w8) w8 [t] [c.cells]) (hP : Ps w8 p q s' b 0) (hp : p < z) (hK : Kx q p z w w8) :
   DeclPost p q b s w (.returned (.agg c.cells.toArray)) (w8.setRow z c.cells.toArray):=by
 have hb:=below_setRow (Below.refl z w8) (Nat.le_refl z) c.cells.toArray
 refine ⟨t,s',c.cells,hr,rfl,DcV.mono (DcV.keep hT fun g hg=>setRow_other w8 z g _ (by have:=hg.1;omega)) fun g hg=>⟨by have:=hg.1;omega,Nat.lt_of_lt_of_le hg.2.1 hb.size⟩,hP.below hp hb,?_⟩
 rw [hz]
 exact hK.trans (Kx.of hb (Nat.le_refl _))
section
set_option maxHeartbeats 16000000
set_option maxRecDepth 100000
set_option maxRecDepth 100000 in
theorem decl_any (p q b : Nat) (s : PS) (w : World) (h : Ps w p q s b 0) : Calls Tryd.prog 14 #[.pointer (some ⟨p,0,none⟩)] w (DeclPost p q b s w):=by
 have hp:=h.size
 have hqp:=h.lt
 have HB1:=hid (show Below w.heap.size w (w.alloc (.cells #[.string ⟨#[]⟩,.string ⟨#[]⟩,.int .i64 0,.string ⟨#[]⟩,.int .i64 0,.string ⟨#[]⟩,.int .i64 0,.slice none 0 0,.slice none 0 0] 58)) from (Below.refl _ w).alloc (Nat.le_refl _) _)
 have HP1:=hid (h.below hp HB1.out)
 have HE1:=hid (show DB (w.alloc (.cells #[.string ⟨#[]⟩,.string ⟨#[]⟩,.int .i64 0,.string ⟨#[]⟩,.int .i64 0,.string ⟨#[]⟩,.int .i64 0,.slice none 0 0,.slice none 0 0] 58)) w.heap.size .zero from heap_alloc_new w _)
 have hs1 : (w.alloc (.cells #[.string ⟨#[]⟩,.string ⟨#[]⟩,.int .i64 0,.string ⟨#[]⟩,.int .i64 0,.string ⟨#[]⟩,.int .i64 0,.slice none 0 0,.slice none 0 0] 58)).heap.size = w.heap.size + 1:=Array.size_push _
 clear h
 go_enter Tryd.func14,Tryd.ntmps14
 go_upto_region 1 with fail
 obtain ⟨z,hz⟩ : ∃ z,w.heap.size = z:=⟨_,rfl⟩
 have HZ:=hid hz
 rw [hz] at HB1 HE1 hs1 hp
 have HK1:=hid (show Kx q p z w _ from Kx.of HB1.out (Nat.le_refl _))
 rw [hz]
 have hz1 : z + 1 ≤ (w.alloc (.cells #[.string ⟨#[]⟩,.string ⟨#[]⟩,.int .i64 0,.string ⟨#[]⟩,.int .i64 0,.string ⟨#[]⟩,.int .i64 0,.slice none 0 0,.slice none 0 0] 58)).heap.size:=Nat.le_of_eq hs1.symm
 have hzq : z ≠ q:=by omega
 have hzp : z ≠ p:=by omega
 clear hz hs1 HB1
 generalize w.alloc (.cells #[.string ⟨#[]⟩,.string ⟨#[]⟩,.int .i64 0,.string ⟨#[]⟩,.int .i64 0,.string ⟨#[]⟩,.int .i64 0,.slice none 0 0,.slice none 0 0] 58) = w1 at *
 have HNX:=hid (Next_any q s.1 w1 HP1.out.stm)
 generalize (pk s.1).kind = k1 at *
 generalize (pk s.1).num = m1 at *
 by_cases ht : (pk s.1).text = kLet
 · have HT:=hid ht
   rw [ht,show sb kLet = ⟨#[108,101,116]⟩ from rfl] at HNX
   clear ht
   have hfd:=fun W a=>tok_text (.int .i64 k1) (.string ⟨#[108,101,116]⟩) (.int .i64 m1) (.int .i64 a) W
   have c0:=HP1.out.c0
   go_wp2_with fail
   refine HNX.out.mono ?_
   rintro e w2 ⟨⟨a3,rfl⟩,hs2,hq2⟩
   have HP2:=hid (show Ps w2 p q (nx s) b 0 from HP1.out.moved hs2 hq2 HP1.out.size)
   have hk2 : Kx q p w1.heap.size w1 w2:=hq2.wide (.inl rfl) (.inl rfl)
   have HE2:=hid (HE1.out.far (hk2.block z (by omega) hzq hzp))
   have HK2:=hid (HK1.out.trans (hk2.least (by omega)))
   have hz2 : z + 1 ≤ w2.heap.size:=Nat.le_trans hz1 hk2.size
   have hfd2:=fun W=>hfd W a3
   clear hs2 hq2 hk2 HNX c0 HP1 HE1 HK1 hfd
   go_upto_region 2 with fail
   have ha3 : Below w2.heap.size w2 (w2.alloc (.cells #[.string ⟨#[108,101,116]⟩,.string ⟨#[]⟩,.int .i64 0,.string ⟨#[]⟩,.int .i64 0,.string ⟨#[]⟩,.int .i64 0,.slice none 0 0,.slice none 0 0] 58)):=(Below.refl _ w2).alloc (Nat.le_refl _) _
   have hl3 : (w2.alloc (.cells #[.string ⟨#[108,101,116]⟩,.string ⟨#[]⟩,.int .i64 0,.string ⟨#[]⟩,.int .i64 0,.string ⟨#[]⟩,.int .i64 0,.slice none 0 0,.slice none 0 0] 58)).heap.size = w2.heap.size + 1:=Array.size_push _
   have HY3:=hid (show DB (w2.alloc (.cells #[.string ⟨#[108,101,116]⟩,.string ⟨#[]⟩,.int .i64 0,.string ⟨#[]⟩,.int .i64 0,.string ⟨#[]⟩,.int .i64 0,.slice none 0 0,.slice none 0 0] 58)) w2.heap.size ⟨⟨#[108,101,116]⟩,.zero,.zero,.zero⟩ from heap_alloc_new w2 _)
   have HP3:=hid (HP2.out.below HP2.out.size ha3)
   have HE3:=hid (HE2.out.far (ha3.block z (by omega)))
   have HK3:=hid (HK2.out.trans (Kx.of ha3 (by omega)))
   clear ha3 HP2 HE2 HK2 hfd2
   obtain ⟨y,hy⟩ : ∃ y,w2.heap.size = y:=⟨_,rfl⟩
   rw [hy] at HY3 hl3 hz2 ⊢
   generalize (w2.alloc (.cells #[.string ⟨#[108,101,116]⟩,.string ⟨#[]⟩,.int .i64 0,.string ⟨#[]⟩,.int .i64 0,.string ⟨#[]⟩,.int .i64 0,.slice none 0 0,.slice none 0 0] 58)) = w3 at *
   clear hy
   have hs3 : y + 1 ≤ w3.heap.size:=Nat.le_of_eq hl3.symm
   clear hl3
   go_wp2_with fail
   refine (ref_any p q b 0 (nx s) w3 HP3.out).mono ?_
   rintro e w4 ⟨⟨a4,rfl⟩,hp4,hk4⟩
   have HP4:=hid hp4
   clear hp4 HP3
   have HY4:=hid (HY3.out.far (hk4.block y (by omega) (by omega) (by omega)))
   have HE4:=hid (HE3.out.far (hk4.block z (by omega) hzq hzp))
   have HK4:=hid (HK3.out.trans (hk4.least (by omega)))
   have hs4 : y + 1 ≤ w4.heap.size:=Nat.le_trans hs3 hk4.size
   clear hk4 HY3 HE3 HK3
   obtain ⟨r4,hr4⟩ : ∃ r4,refS (nx s) = r4:=⟨_,rfl⟩
   rw [hr4] at HP4 ⊢
   have HR4:=hid hr4
   clear hr4
   obtain ⟨v0,g0⟩ : ∃ v,w4.cell? ⟨y,1,none⟩ = some v:=⟨_,HY4.out.cell 1⟩
   have l0:=HY4.out.free 1
   obtain ⟨v1,g1⟩ : ∃ v,w4.cell? ⟨y,2,none⟩ = some v:=⟨_,HY4.out.cell 2⟩
   have l1:=HY4.out.free 2
   go_upto_region 3 with fail
   have hb : Below y w4 ((w4.setCell ⟨y,1,none⟩ (.string (sb r4.1))).setCell ⟨y,2,none⟩ (.int .i64 a4)):=(((Below.refl y w4).setCell (p:=⟨y,1,none⟩) (Nat.le_refl _) _).setCell (p:=⟨y,2,none⟩) (Nat.le_refl _) _)
   have hf : ∀ g,g ≠ y → ((w4.setCell ⟨y,1,none⟩ (.string (sb r4.1))).setCell ⟨y,2,none⟩ (.int .i64 a4)).heap[g]? = w4.heap[g]?:=fun g hg=>(Below.heap_setCell _ ⟨y,2,none⟩ _ g hg).trans (Below.heap_setCell _ ⟨y,1,none⟩ _ g hg)
   have HP5:=hid (HP4.out.below (show p < y by omega) hb)
   have HY5:=hid (HY4.out.putN (Q2.mk (sb r4.1) a4))
   have HE5:=hid (HE4.out.far (hf z (by omega)))
   have HK5:=hid (HK4.out.trans (Kx.of hb (by omega)))
   have hs5:=Nat.le_trans hs4 hb.size
   clear hb hf g0 l0 g1 l1 HP4 HY4 HE4 HK4
   generalize ((w4.setCell ⟨y,1,none⟩ (.string (sb r4.1))).setCell ⟨y,2,none⟩ (.int .i64 a4)) = w5 at *
   go_wp2_with fail
   refine (show Calls Tryd.prog 32 #[.pointer (some ⟨p,0,none⟩),.string ⟨#[61]⟩] w5 _ from take_any p q b 0 r4.2 kEq w5 HP5.out).mono ?_
   rintro e w6 ⟨rfl,hp6,hk6⟩
   have HP6:=hid hp6
   clear hp6 HP5
   have HY6:=hid (HY5.out.far (hk6.block y (by omega) (by omega) (by omega)))
   have HE6:=hid (HE5.out.far (hk6.block z (by omega) hzq hzp))
   have HK6:=hid (HK5.out.trans (hk6.least (by omega)))
   have hs6 : y + 1 ≤ w6.heap.size:=Nat.le_trans hs5 hk6.size
   clear hk6 HY5 HE5 HK5
   have k0 : w6.cell? ⟨y,0,none⟩ = some (.string ⟨#[108,101,116]⟩):=HY6.out.cell 0
   go_wp2_with fail
   refine (expr_any p q b 0 (takeS r4.2 kEq) w6 HP6.out (fun _=>by decide)).mono ?_
   rintro e w7 ⟨x,s1,o1,t1,m1,a1,A1,n1,d1,hr,rfl,htr,hp7,hk7⟩
   have HP7:=hid hp7
   have HR:=hid hr
   have HV7:=hid (htr.mono (fun g hg=>Fr.fx (z:=z) (y:=y) (w2:=w7) hg (by omega) (.inl (by omega)) (Nat.le_refl _)))
   clear hp7 htr hr HP6 k0
   have HY7:=hid (HY6.out.far (hk7.block y (by omega) (by omega) (by omega)))
   have HE7:=hid (HE6.out.far (hk7.block z (by omega) hzq hzp))
   have HK7:=hid (HK6.out.trans (hk7.least (by omega)))
   have hs7 : y + 1 ≤ w7.heap.size:=Nat.le_trans hs6 hk7.size
   clear hk7 HY6 HE6 HK6
   obtain ⟨v0,g0⟩ : ∃ v,w7.cell? ⟨y,3,none⟩ = some v:=⟨_,HY7.out.cell 3⟩
   have l0:=HY7.out.free 3
   obtain ⟨v1,g1⟩ : ∃ v,w7.cell? ⟨y,4,none⟩ = some v:=⟨_,HY7.out.cell 4⟩
   have l1:=HY7.out.free 4
   obtain ⟨v2,g2⟩ : ∃ v,w7.cell? ⟨y,5,none⟩ = some v:=⟨_,HY7.out.cell 5⟩
   have l2:=HY7.out.free 5
   obtain ⟨v3,g3⟩ : ∃ v,w7.cell? ⟨y,6,none⟩ = some v:=⟨_,HY7.out.cell 6⟩
   have l3:=HY7.out.free 6
   obtain ⟨v4,g4⟩ : ∃ v,w7.cell? ⟨y,7,none⟩ = some v:=⟨_,HY7.out.cell 7⟩
   have l4:=HY7.out.free 7
   go_upto_region 9 with fail
   have hb : Below y w7 (((((w7.setCell ⟨y,3,none⟩ (.string o1)).setCell ⟨y,4,none⟩ (.int .i64 m1)).setCell ⟨y,5,none⟩ (.string t1)).setCell ⟨y,6,none⟩ (.int .i64 a1)).setCell ⟨y,7,none⟩ (.slice A1 n1 d1)):=((((((Below.refl y w7).setCell (p:=⟨y,3,none⟩) (Nat.le_refl _) _).setCell (p:=⟨y,4,none⟩) (Nat.le_refl _) _).setCell (p:=⟨y,5,none⟩) (Nat.le_refl _) _).setCell (p:=⟨y,6,none⟩) (Nat.le_refl _) _).setCell (p:=⟨y,7,none⟩) (Nat.le_refl _) _)
   have hf : ∀ g,g ≠ y → (((((w7.setCell ⟨y,3,none⟩ (.string o1)).setCell ⟨y,4,none⟩ (.int .i64 m1)).setCell ⟨y,5,none⟩ (.string t1)).setCell ⟨y,6,none⟩ (.int .i64 a1)).setCell ⟨y,7,none⟩ (.slice A1 n1 d1)).heap[g]? = w7.heap[g]?:=fun g hg=>(Below.heap_setCell _ ⟨y,7,none⟩ _ g hg).trans ((Below.heap_setCell _ ⟨y,6,none⟩ _ g hg).trans ((Below.heap_setCell _ ⟨y,5,none⟩ _ g hg).trans ((Below.heap_setCell _ ⟨y,4,none⟩ _ g hg).trans (Below.heap_setCell _ ⟨y,3,none⟩ _ g hg))))
   have HP8:=hid (HP7.out.below (show p < y by omega) hb)
   have HY8:=hid (HY7.out.putV (Q5.mk o1 m1 t1 a1 A1 n1 d1))
   have HE8:=hid (HE7.out.far (hf z (by omega)))
   have HK8:=hid (HK7.out.trans (Kx.of hb (by omega)))
   have hs8:=Nat.le_trans hs7 hb.size
   have HV8:=hid ((HV7.out.keep (fun g hg=>hf g hg.2.2)).mono (fun g hg=>hg.more hb.size))
   clear HV7
   clear hb hf g0 l0 g1 l1 g2 l2 g3 l3 g4 l4 HP7 HY7 HE7 HK7
   generalize (((((w7.setCell ⟨y,3,none⟩ (.string o1)).setCell ⟨y,4,none⟩ (.int .i64 m1)).setCell ⟨y,5,none⟩ (.string t1)).setCell ⟨y,6,none⟩ (.int .i64 a1)).setCell ⟨y,7,none⟩ (.slice A1 n1 d1)) = w8 at *
   go_wp2_with fail
   refine (show Calls Tryd.prog 32 #[.pointer (some ⟨p,0,none⟩),.string ⟨#[59]⟩] w8 _ from take_any p q b 0 s1 kSemi w8 HP8.out).mono ?_
   rintro e w9 ⟨rfl,hp9,hk9⟩
   have HP9:=hid hp9
   clear hp9 HP8
   have HY9:=hid (HY8.out.far (hk9.block y (by omega) (by omega) (by omega)))
   have HE9:=hid (HE8.out.far (hk9.block z (by omega) hzq hzp))
   have HK9:=hid (HK8.out.trans (hk9.least (by omega)))
   have hs9 : y + 1 ≤ w9.heap.size:=Nat.le_trans hs8 hk9.size
   have HV9:=hid ((HV8.out.keep (fun g hg=>hk9.block g hg.2.1 (by have:=hg.1;omega) (by have:=hg.1;omega))).mono (fun g hg=>hg.more hk9.size))
   clear hk9 HY8 HE8 HK8 HV8
   obtain ⟨X,hX⟩ : ∃ X : List Value,DC.cells (DC.mk ⟨#[108,101,116]⟩ (Q2.mk (sb r4.1) a4) (Q5.mk o1 m1 t1 a1 A1 n1 d1) QS.zero) = X:=⟨_,rfl⟩
   have HX:=hid hX
   have hXs : X.toArray.size = 9:=by rw [← hX];rfl
   have hrx : w9.rangeAt y 0 X:=by rw [← hX];exact blk_range HY9.out
   have hi1:=hid (show (Tryd.prog.info? 58).map (·.size) = some X.length by rw [← hX];exact infoDc (DC.mk ⟨#[108,101,116]⟩ (Q2.mk (sb r4.1) a4) (Q5.mk o1 m1 t1 a1 A1 n1 d1) QS.zero))
   have hi2:=hid (show (Tryd.prog.info? 58).map (·.size) = some X.toArray.size by rw [← hX];exact infoDc (DC.mk ⟨#[108,101,116]⟩ (Q2.mk (sb r4.1) a4) (Q5.mk o1 m1 t1 a1 A1 n1 d1) QS.zero))
   have hx1:=hid (show ∀ v ∈ X.toArray.toList,v.oneCell' = true by rw [← hX];exact DC.oneA (DC.mk ⟨#[108,101,116]⟩ (Q2.mk (sb r4.1) a4) (Q5.mk o1 m1 t1 a1 A1 n1 d1) QS.zero))
   clear hX
   go_wp2_with (first | (refine wl_load_mid (by rfl) 58 (.tmp 3) rfl y 0 rfl X _ hrx Tryd.underlying58 rfl hi1.out ?_) | (refine wl_store_all (by rfl) 58 (.tmp 2) (.tmp 40) rfl z X.toArray rfl rfl DC.zero.cells.toArray _ HE9.out hXs hi2.out hx1.out ?_))
   have hres : DeclPost p q b s w (.returned (.agg X.toArray)) (w9.setRow z X.toArray):=by
     rw [← HX.out]
     exact DeclPost.of (y:=y) (DeclR.dlet HT.out (by rw [HR4.out];exact HR.out)) HZ.out (DcV.cons (k:=⟨#[108,101,116]⟩) (q:=Q2.mk (sb r4.1) a4) (v:=Q5.mk o1 m1 t1 a1 A1 n1 d1) (s:=QS.zero) (by rw [HT.out];rfl) (by rw [HR4.out]) HV9.out .nil RP.none_ (Nat.le_refl _) .nil) HP9.out hp HK9.out
   refine bodyPost_ret (v:=.agg X.toArray) (results_c1 rfl _ _ _ ⟨z,0,none⟩ _ rfl (by have:=DC.loadRow (DC.mk ⟨#[108,101,116]⟩ (Q2.mk (sb r4.1) a4) (Q5.mk o1 m1 t1 a1 A1 n1 d1) QS.zero) HE9.out;rw [HX.out] at this;exact this)) rfl ?_
   exact hres
 · have HT:=hid ht
   obtain ⟨tx,htx⟩ : ∃ tx,sb (pk s.1).text = tx:=⟨_,rfl⟩
   rw [htx] at HNX
   have hn0 : decide (tx = sb kLet) = false:=by rw [← htx];exact decide_eq_false (fun h=>ht (sb_inj h))
   have hne : (tx.toList == [108,101,116]) = false:=by rw [show ([108,101,116] : Bs) = (sb kLet).toList from (toList_sb kLet).symm,bytes_eqT];exact hn0
   clear hn0
   have HTX:=hid htx
   clear ht htx
   have hfd:=fun W a=>tok_text (.int .i64 k1) (.string tx) (.int .i64 m1) (.int .i64 a) W
   have c0:=HP1.out.c0
   go_wp2_with fail
   refine HNX.out.mono ?_
   rintro e w2 ⟨⟨a3,rfl⟩,hs2,hq2⟩
   have HP2:=hid (show Ps w2 p q (nx s) b 0 from HP1.out.moved hs2 hq2 HP1.out.size)
   have hk2 : Kx q p w1.heap.size w1 w2:=hq2.wide (.inl rfl) (.inl rfl)
   have HE2:=hid (HE1.out.far (hk2.block z (by omega) hzq hzp))
   have HK2:=hid (HK1.out.trans (hk2.least (by omega)))
   have hz2 : z + 1 ≤ w2.heap.size:=Nat.le_trans hz1 hk2.size
   have hfd2:=fun W=>hfd W a3
   clear hs2 hq2 hk2 HNX c0 HP1 HE1 HK1 hfd
   go_upto_region 2 with fail
   have ha3 : Below w2.heap.size w2 (w2.alloc (.cells #[.string tx,.string ⟨#[]⟩,.int .i64 0,.string ⟨#[]⟩,.int .i64 0,.string ⟨#[]⟩,.int .i64 0,.slice none 0 0,.slice none 0 0] 58)):=(Below.refl _ w2).alloc (Nat.le_refl _) _
   have hl3 : (w2.alloc (.cells #[.string tx,.string ⟨#[]⟩,.int .i64 0,.string ⟨#[]⟩,.int .i64 0,.string ⟨#[]⟩,.int .i64 0,.slice none 0 0,.slice none 0 0] 58)).heap.size = w2.heap.size + 1:=Array.size_push _
   have HY3:=hid (show DB (w2.alloc (.cells #[.string tx,.string ⟨#[]⟩,.int .i64 0,.string ⟨#[]⟩,.int .i64 0,.string ⟨#[]⟩,.int .i64 0,.slice none 0 0,.slice none 0 0] 58)) w2.heap.size ⟨tx,.zero,.zero,.zero⟩ from heap_alloc_new w2 _)
   have HP3:=hid (HP2.out.below HP2.out.size ha3)
   have HE3:=hid (HE2.out.far (ha3.block z (by omega)))
   have HK3:=hid (HK2.out.trans (Kx.of ha3 (by omega)))
   clear ha3 HP2 HE2 HK2 hfd2
   obtain ⟨y,hy⟩ : ∃ y,w2.heap.size = y:=⟨_,rfl⟩
   rw [hy] at HY3 hl3 hz2 ⊢
   generalize (w2.alloc (.cells #[.string tx,.string ⟨#[]⟩,.int .i64 0,.string ⟨#[]⟩,.int .i64 0,.string ⟨#[]⟩,.int .i64 0,.slice none 0 0,.slice none 0 0] 58)) = w3 at *
   clear hy
   have hs3 : y + 1 ≤ w3.heap.size:=Nat.le_of_eq hl3.symm
   clear hl3
   go_wp2_with fail
   refine (ref_any p q b 0 (nx s) w3 HP3.out).mono ?_
   rintro e w4 ⟨⟨a4,rfl⟩,hp4,hk4⟩
   have HP4:=hid hp4
   clear hp4 HP3
   have HY4:=hid (HY3.out.far (hk4.block y (by omega) (by omega) (by omega)))
   have HE4:=hid (HE3.out.far (hk4.block z (by omega) hzq hzp))
   have HK4:=hid (HK3.out.trans (hk4.least (by omega)))
   have hs4 : y + 1 ≤ w4.heap.size:=Nat.le_trans hs3 hk4.size
   clear hk4 HY3 HE3 HK3
   obtain ⟨r4,hr4⟩ : ∃ r4,refS (nx s) = r4:=⟨_,rfl⟩
   rw [hr4] at HP4 ⊢
   have HR4:=hid hr4
   clear hr4
   obtain ⟨v0,g0⟩ : ∃ v,w4.cell? ⟨y,1,none⟩ = some v:=⟨_,HY4.out.cell 1⟩
   have l0:=HY4.out.free 1
   obtain ⟨v1,g1⟩ : ∃ v,w4.cell? ⟨y,2,none⟩ = some v:=⟨_,HY4.out.cell 2⟩
   have l1:=HY4.out.free 2
   go_upto_region 3 with fail
   have hb : Below y w4 ((w4.setCell ⟨y,1,none⟩ (.string (sb r4.1))).setCell ⟨y,2,none⟩ (.int .i64 a4)):=(((Below.refl y w4).setCell (p:=⟨y,1,none⟩) (Nat.le_refl _) _).setCell (p:=⟨y,2,none⟩) (Nat.le_refl _) _)
   have hf : ∀ g,g ≠ y → ((w4.setCell ⟨y,1,none⟩ (.string (sb r4.1))).setCell ⟨y,2,none⟩ (.int .i64 a4)).heap[g]? = w4.heap[g]?:=fun g hg=>(Below.heap_setCell _ ⟨y,2,none⟩ _ g hg).trans (Below.heap_setCell _ ⟨y,1,none⟩ _ g hg)
   have HP5:=hid (HP4.out.below (show p < y by omega) hb)
   have HY5:=hid (HY4.out.putN (Q2.mk (sb r4.1) a4))
   have HE5:=hid (HE4.out.far (hf z (by omega)))
   have HK5:=hid (HK4.out.trans (Kx.of hb (by omega)))
   have hs5:=Nat.le_trans hs4 hb.size
   clear hb hf g0 l0 g1 l1 HP4 HY4 HE4 HK4
   generalize ((w4.setCell ⟨y,1,none⟩ (.string (sb r4.1))).setCell ⟨y,2,none⟩ (.int .i64 a4)) = w5 at *
   go_wp2_with fail
   refine (show Calls Tryd.prog 32 #[.pointer (some ⟨p,0,none⟩),.string ⟨#[61]⟩] w5 _ from take_any p q b 0 r4.2 kEq w5 HP5.out).mono ?_
   rintro e w6 ⟨rfl,hp6,hk6⟩
   have HP6:=hid hp6
   clear hp6 HP5
   have HY6:=hid (HY5.out.far (hk6.block y (by omega) (by omega) (by omega)))
   have HE6:=hid (HE5.out.far (hk6.block z (by omega) hzq hzp))
   have HK6:=hid (HK5.out.trans (hk6.least (by omega)))
   have hs6 : y + 1 ≤ w6.heap.size:=Nat.le_trans hs5 hk6.size
   clear hk6 HY5 HE5 HK5
   have k0 : w6.cell? ⟨y,0,none⟩ = some (.string tx):=HY6.out.cell 0
   obtain ⟨A0,n0,c0',hY6,hTL6,hn0⟩ : ∃ A0 n0 c0',DB w6 y ⟨tx,(Q2.mk (sb r4.1) a4),Q5.zero,⟨A0,n0,c0'⟩⟩ ∧ TL plR 88 (y + 1) w6 (.slice A0 n0 c0') n0 [] ∧ n0 = 0:=⟨none,0,0,HY6.out,TL.nil,rfl⟩
   have HN0:=hid hn0
   have HY:=hid hY6
   have HTL:=hid hTL6
   have HL:=hid hs6
   have HE:=HE6
   have HK:=HK6
   have HP:=HP6
   have hbd6:=HP6.out.stm.bound
   clear hY6 hTL6 hn0 HY6 HE6 HK6 HP6
   go_upto_region 6 with fail
   clear k0
   have HPd:=hid (show Ps w6.drew p q (takeS r4.2 kEq) b 0 from HP.out.drew)
   have HYd:=hid (show DB w6.drew y ⟨tx,(Q2.mk (sb r4.1) a4),Q5.zero,⟨A0,n0,c0'⟩⟩ from HY.out)
   have HEd:=hid (show DB w6.drew z .zero from HE.out)
   have HTLd:=hid (show TL plR 88 (y + 1) w6.drew (.slice A0 n0 c0') n0 [] from HTL.out.keep (Nat.le_refl _) fun _ _ _=>rfl)
   have HKd:=hid (show Kx q p z w w6.drew from HK.out.drew)
   have hlw : (y + 1) ≤ w6.drew.heap.size:=HL.out
   refine wp_region_noPanic ?_
   refine wp_region_until (S:=fun X=>X.cell? ⟨y,8,none⟩ = some (.slice A0 n0 c0')) 7 (by kernel_rfl) ?_ (fun hHeld=>?_)
   · (try dsimp only)
     exact HYd.out.cP
   clear HK HL HTL HP HY HE
   generalize w6.drew = wd at *
   apply tkY 0
   apply tkW 1
   apply tkY 2
   refine wpAnyU_one (i:=3) rfl (by decide) (by kernel_rfl) (by rfl) (fun K' hK'=>?_)
   have HKP:=hid hK'
   clear hK'
   go_simp
   refine (place_any p q b (takeS r4.2 kEq) wd HPd.out).mono ?_
   rintro e w8 ⟨x2,s2,cs2,hr2,rfl,htr2,hp8,hk8⟩
   have HP8:=hid hp8
   have HR2:=hid hr2
   have hs8:=hk8.size
   have hcl : cs2.length = 12:=plR.size htr2 cs2 (List.mem_singleton.2 rfl)
   have HY8:=hid (HYd.out.far (hk8.block y (by omega) (by omega) (by omega)))
   have HE8:=hid (HEd.out.far (hk8.block z (by omega) (by omega) (by omega)))
   have HK8:=hid (HKd.out.trans (hk8.least (by omega)))
   obtain ⟨A3,c3,w9,hrun,htl9,hbl9,hs9⟩:=TL.push (K:=plR) (p:=p) (q:=q) 56 TTp (by decide) HTLd.out hk8 (show q < (y + 1) by omega) (show p < (y + 1) by omega) hlw (by have:=HN0.out;omega) htr2
   have HRUN:=hid (show (Builtin.append_ #[56,56] 56 #[.slice A0 n0 c0',.slice (some ⟨w8.heap.size,0,none⟩) 1 1]).run Tryd.prog (w8.alloc (.cells cs2.toArray 88)) = .ok (.slice A3 (n0 + 1) c3) w9 from hrun)
   have HTL9:=hid htl9
   have HP9:=hid (HP8.out.below (show p < (y + 1) by omega) hbl9)
   have HK9:=hid (HK8.out.trans (Kx.of hbl9 (by omega)))
   have HY9:=hid (HY8.out.far (hbl9.block y (by omega)))
   have HE9:=hid (HE8.out.far (hbl9.block z (by omega)))
   have HYa:=hid (HY8.out.far (((Below.refl _ w8).alloc (Nat.le_refl _) (.cells cs2.toArray 88)).block y (by omega)))
   clear hr2 htr2 hp8 hk8 hrun htl9 hbl9 HPd HTLd HKd HYd HEd
   (try dsimp only)
   refine HKP.out _ _ HY8.out.cP ?_
   clear HKP K'
   (try simp only [List.getElem_toArray,List.getElem_cons_zero,List.getElem_cons_succ,Act.put,List.setIfInBounds_toArray,List.set_cons_zero,List.set_cons_succ])
   refine wpAnyU_one (i:=4) rfl (by decide) (by kernel_rfl) (by rfl) (fun K' hK'=>?_)
   have HKP:=hid hK'
   clear hK'
   refine wp_bs1 TTp (.tmp 25) rfl cs2.toArray rfl (by rw [List.size_toArray,hcl]) (by decide) ?_
   refine HKP.out _ _ HYa.out.cP ?_
   clear HKP K'
   (try simp only [List.getElem_toArray,List.getElem_cons_zero,List.getElem_cons_succ,Act.put,List.setIfInBounds_toArray,List.set_cons_zero,List.set_cons_succ])
   refine wpAnyU_one (i:=5) rfl (by decide) (by kernel_rfl) (by rfl) (fun K' hK'=>?_)
   have HKP:=hid hK'
   clear hK'
   refine Lib.wp_append_run _ (.tmp 23) (.tmp 26) 56 56 rfl _ _ rfl rfl _ _ HRUN.out ?_
   refine HKP.out _ _ HY9.out.cP ?_
   clear HKP K'
   (try simp only [List.getElem_toArray,List.getElem_cons_zero,List.getElem_cons_succ,Act.put,List.setIfInBounds_toArray,List.set_cons_zero,List.set_cons_succ])
   clear hHeld HRUN HYa
   have hHeld:=HY9.out.cP
   apply tkY 6
   refine wpAnyU_at (c:=7) rfl (by kernel_rfl) (by rfl) (fun K hK=>?_)
   have HK:=hid hK
   clear hK
   have k4:=HY9.out.cP
   have l4:=HY9.out.free 8
   go_simp
   refine HK.out _ _ ?_
   clear HK K
   (try simp only [List.getElem_toArray,List.getElem_cons_zero,List.getElem_cons_succ,Act.put,List.setIfInBounds_toArray,List.set_cons_zero,List.set_cons_succ])
   refine wpAny_done (by kernel_rfl) ?_ _
   refine NoPanic.normal ?_
   have hbn : Below y w9 (w9.setCell ⟨y,8,none⟩ (.slice A3 (n0 + 1) c3)):=(Below.refl y w9).setCell (p:=⟨y,8,none⟩) (Nat.le_refl _) _
   have hfn : ∀ g,g ≠ y → (w9.setCell ⟨y,8,none⟩ (.slice A3 (n0 + 1) c3)).heap[g]? = w9.heap[g]?:=fun g hg=>Below.heap_setCell w9 ⟨y,8,none⟩ _ g hg
   have HPn:=hid (HP9.out.below (show p < y by omega) hbn)
   have HYn:=hid (HY9.out.putP ⟨A3,n0 + 1,c3⟩)
   have HEn:=hid (HE9.out.far (hfn z (by omega)))
   have HKn:=hid (HK9.out.trans (Kx.of hbn (by omega)))
   have HTLn:=hid (HTL9.out.keep hbn.size fun g hg _=>hfn g (by omega))
   have HLn:=hid (Nat.le_trans (show (y + 1) ≤ w9.heap.size by omega) hbn.size)
   clear hbn hfn HP8 HK8 HP9 HK9 HTL9 hs8 hs9 hHeld hlw hcl k4 l4 HY8 HY9 HE8 HE9
   generalize (w9.setCell ⟨y,8,none⟩ (.slice A3 (n0 + 1) c3)) = wn at *
   have HBD:=hid (show n0 + 1 + s2.1.length ≤ 8002 by have:=HN0.out;have:=HPn.out.stm.bound;omega)
   clear hbd6
   go_wp2_with fail
   go_loopw [30] (fun _ wr=>∃ (l : List Pl) (s' : PS) (A : Option Addr) (n' c' : Nat),n' + s'.1.length ≤ 8002 ∧ (∀ l2 s3,PlacesR l s' l2 s3 → PlacesR [x2] s2 l2 s3) ∧ TL plR 88 (y + 1) wr (.slice A n' c') n' l ∧ DB wr y ⟨tx,(Q2.mk (sb r4.1) a4),Q5.zero,⟨A,n',c'⟩⟩ ∧ DB wr z .zero ∧ Ps wr p q s' b 0 ∧ Kx q p z w wr ∧ y + 1 ≤ wr.heap.size) (fun _ wr=>mW q wr)
   case atStart=>
     exact ⟨[x2],s2,A3,n0 + 1,c3,HBD.out,fun l2 s3 h=>h,HTLn.out,HYn.out,HEn.out,HPn.out,HKn.out,HLn.out⟩
   case round=>
     obtain ⟨l,s1,A1,n1,c1,hbd1,hc1,htl1,hy1,he1,hp1,hkx1,hl1⟩:=hrel
     have HR0:=HR2
     clear HTLn HYn HEn HPn HKn HLn HBD HN0 HR2
     have HBD:=hid hbd1
     have HC:=hid hc1
     have HTL:=hid htl1
     have HY:=hid hy1
     have HE:=hid he1
     have HP:=hid hp1
     have HK:=hid hkx1
     have HMW:=hid (mW_of hp1.stm)
     clear hbd1 hc1 htl1 hy1 he1 hp1 hkx1
     have HAL:=hid (show Calls Tryd.prog 35 #[.pointer (some ⟨p,0,none⟩),.string ⟨#[62]⟩] wr _ from also_any p q b 0 s1 kGt wr HP.out)
     have HAS:=hid (show alsoS s1 kGt = if sees s1 [kGt] then nx s1 else s1 from rfl)
     go_wp2_with fail
     refine HAL.out.mono ?_
     rintro e w14 ⟨rfl,hp4,hk4⟩
     have HP4:=hid hp4
     have HY4:=hid (HY.out.far (hk4.block y (by omega) (by omega) (by omega)))
     have HE4:=hid (HE.out.far (hk4.block z (by omega) hzq hzp))
     have HTL4:=hid (HTL.out.kx hk4 (Nat.le_refl _) (show q < y + 1 by omega) (show p < y + 1 by omega))
     have HK4:=hid (HK.out.trans (hk4.least (by omega)))
     have HL4:=hid (Nat.le_trans hl1 hk4.size)
     clear hp4 hk4 HTL HY HE HP HK HAL hl1
     have hl4:=HL4.out
     cases hsc : sees s1 [kGt] with
     | false=>
       have HSS:=hid (show alsoS s1 kGt = s1 by rw [HAS.out,hsc];rfl)
       rw [HSS.out] at HP4
       go_wp2_with fail
       refine (show Calls Tryd.prog 32 #[.pointer (some ⟨p,0,none⟩),.string ⟨#[59]⟩] w14 _ from take_any p q b 0 s1 kSemi w14 HP4.out).mono ?_
       rintro e w15 ⟨rfl,hp5,hk5⟩
       have HP15:=hid hp5
       have HY15:=hid (HY4.out.far (hk5.block y (by omega) (by omega) (by omega)))
       have HE15:=hid (HE4.out.far (hk5.block z (by omega) hzq hzp))
       have HTL15:=hid (HTL4.out.kx hk5 (Nat.le_refl _) (show q < y + 1 by omega) (show p < y + 1 by omega))
       have HK15:=hid (HK4.out.trans (hk5.least (by omega)))
       clear hp5 hk5 HTL4 HY4 HE4 HP4 HK4 HL4
       obtain ⟨css,hrp,htv,hnc⟩:=HTL15.out.fin (z:=z) (y:=y) (by omega) (by omega)
       have HRP:=hid hrp
       have HTV:=hid htv
       have HNC:=hid hnc
       clear hrp htv hnc HTL15
       obtain ⟨X,hX⟩ : ∃ X : List Value,DC.cells (DC.mk tx (Q2.mk (sb r4.1) a4) Q5.zero (QS.mk A1 n1 c1)) = X:=⟨_,rfl⟩
       have HX:=hid hX
       have hXs : X.toArray.size = 9:=by rw [← hX];rfl
       have hrx : w15.rangeAt y 0 X:=by rw [← hX];exact blk_range HY15.out
       have hi1:=hid (show (Tryd.prog.info? 58).map (·.size) = some X.length by rw [← hX];exact infoDc (DC.mk tx (Q2.mk (sb r4.1) a4) Q5.zero (QS.mk A1 n1 c1)))
       have hi2:=hid (show (Tryd.prog.info? 58).map (·.size) = some X.toArray.size by rw [← hX];exact infoDc (DC.mk tx (Q2.mk (sb r4.1) a4) Q5.zero (QS.mk A1 n1 c1)))
       have hx1:=hid (show ∀ v ∈ X.toArray.toList,v.oneCell' = true by rw [← hX];exact DC.oneA (DC.mk tx (Q2.mk (sb r4.1) a4) Q5.zero (QS.mk A1 n1 c1)))
       clear hX
       go_wp2_with (first | (refine wl_load_mid (by rfl) 58 (.tmp 3) rfl y 0 rfl X _ hrx Tryd.underlying58 rfl hi1.out ?_) | (refine wl_store_all (by rfl) 58 (.tmp 2) (.tmp 40) rfl z X.toArray rfl rfl DC.zero.cells.toArray _ HE15.out hXs hi2.out hx1.out ?_))
       have hres : DeclPost p q b s w (.returned (.agg X.toArray)) (w15.setRow z X.toArray):=by
         rw [← HX.out]
         exact DeclPost.of (y:=y) (DeclR.droute HT.out (by rw [HR4.out];exact HR0.out) (HC.out _ _ (PlacesR.stop hsc))) HZ.out (DcV.cons (k:=tx) (q:=(Q2.mk (sb r4.1) a4)) (v:=Q5.zero) (s:=QS.mk A1 n1 c1) (by rw [HTX.out]) (by rw [HR4.out]) (TrV.leaf .none rfl 0) HTV.out HRP.out HNC.out .nil) HP15.out hp HK15.out
       refine bodyPost_ret (v:=.agg X.toArray) (results_c1 rfl _ _ _ ⟨z,0,none⟩ _ rfl (by have:=DC.loadRow (DC.mk tx (Q2.mk (sb r4.1) a4) Q5.zero (QS.mk A1 n1 c1)) HE15.out;rw [HX.out] at this;exact this)) rfl ?_
       exact hres
     | true=>
       have HSS:=hid (show alsoS s1 kGt = nx s1 by rw [HAS.out,hsc];rfl)
       rw [HSS.out] at HP4
       go_upto_region 8 with fail
       have HP:=HP4
       have HY:=HY4
       have HE:=HE4
       have HK:=HK4
       have HL:=HL4
       have HTL:=HTL4
       clear HP4 HY4 HE4 HK4 HL4 HTL4 hl4
       have HPd:=hid (show Ps w14.drew p q (nx s1) b 0 from HP.out.drew)
       have HYd:=hid (show DB w14.drew y ⟨tx,(Q2.mk (sb r4.1) a4),Q5.zero,⟨A1,n1,c1⟩⟩ from HY.out)
       have HEd:=hid (show DB w14.drew z .zero from HE.out)
       have HTLd:=hid (show TL plR 88 (y + 1) w14.drew (.slice A1 n1 c1) n1 l from HTL.out.keep (Nat.le_refl _) fun _ _ _=>rfl)
       have HKd:=hid (show Kx q p z w w14.drew from HK.out.drew)
       have hlw : (y + 1) ≤ w14.drew.heap.size:=HL.out
       refine wp_region_noPanic ?_
       refine wp_region_until (S:=fun X=>X.cell? ⟨y,8,none⟩ = some (.slice A1 n1 c1)) 7 (by kernel_rfl) ?_ (fun hHeld=>?_)
       · (try dsimp only)
         exact HYd.out.cP
       clear HK HL HTL HP HY HE
       generalize w14.drew = wd at *
       apply tkY 0
       apply tkW 1
       apply tkY 2
       refine wpAnyU_one (i:=3) rfl (by decide) (by kernel_rfl) (by rfl) (fun K' hK'=>?_)
       have HKP:=hid hK'
       clear hK'
       go_simp
       refine (place_any p q b (nx s1) wd HPd.out).mono ?_
       rintro e w8 ⟨x2,s2,cs2,hr2,rfl,htr2,hp8,hk8⟩
       have HP8:=hid hp8
       have HR2:=hid hr2
       have hs8:=hk8.size
       have hcl : cs2.length = 12:=plR.size htr2 cs2 (List.mem_singleton.2 rfl)
       have HY8:=hid (HYd.out.far (hk8.block y (by omega) (by omega) (by omega)))
       have HE8:=hid (HEd.out.far (hk8.block z (by omega) (by omega) (by omega)))
       have HK8:=hid (HKd.out.trans (hk8.least (by omega)))
       obtain ⟨A3,c3,w9,hrun,htl9,hbl9,hs9⟩:=TL.push (K:=plR) (p:=p) (q:=q) 56 TTp (by decide) HTLd.out hk8 (show q < (y + 1) by omega) (show p < (y + 1) by omega) hlw (by have:=HBD.out;omega) htr2
       have HRUN:=hid (show (Builtin.append_ #[56,56] 56 #[.slice A1 n1 c1,.slice (some ⟨w8.heap.size,0,none⟩) 1 1]).run Tryd.prog (w8.alloc (.cells cs2.toArray 88)) = .ok (.slice A3 (n1 + 1) c3) w9 from hrun)
       have HTL9:=hid htl9
       have HP9:=hid (HP8.out.below (show p < (y + 1) by omega) hbl9)
       have HK9:=hid (HK8.out.trans (Kx.of hbl9 (by omega)))
       have HY9:=hid (HY8.out.far (hbl9.block y (by omega)))
       have HE9:=hid (HE8.out.far (hbl9.block z (by omega)))
       have HYa:=hid (HY8.out.far (((Below.refl _ w8).alloc (Nat.le_refl _) (.cells cs2.toArray 88)).block y (by omega)))
       clear hr2 htr2 hp8 hk8 hrun htl9 hbl9 HPd HTLd HKd HYd HEd
       (try dsimp only)
       refine HKP.out _ _ HY8.out.cP ?_
       clear HKP K'
       (try simp only [List.getElem_toArray,List.getElem_cons_zero,List.getElem_cons_succ,Act.put,List.setIfInBounds_toArray,List.set_cons_zero,List.set_cons_succ])
       refine wpAnyU_one (i:=4) rfl (by decide) (by kernel_rfl) (by rfl) (fun K' hK'=>?_)
       have HKP:=hid hK'
       clear hK'
       refine wp_bs1 TTp (.tmp 34) rfl cs2.toArray rfl (by rw [List.size_toArray,hcl]) (by decide) ?_
       refine HKP.out _ _ HYa.out.cP ?_
       clear HKP K'
       (try simp only [List.getElem_toArray,List.getElem_cons_zero,List.getElem_cons_succ,Act.put,List.setIfInBounds_toArray,List.set_cons_zero,List.set_cons_succ])
       refine wpAnyU_one (i:=5) rfl (by decide) (by kernel_rfl) (by rfl) (fun K' hK'=>?_)
       have HKP:=hid hK'
       clear hK'
       refine Lib.wp_append_run _ (.tmp 32) (.tmp 35) 56 56 rfl _ _ rfl rfl _ _ HRUN.out ?_
       refine HKP.out _ _ HY9.out.cP ?_
       clear HKP K'
       (try simp only [List.getElem_toArray,List.getElem_cons_zero,List.getElem_cons_succ,Act.put,List.setIfInBounds_toArray,List.set_cons_zero,List.set_cons_succ])
       clear hHeld HRUN HYa
       have hHeld:=HY9.out.cP
       apply tkY 6
       refine wpAnyU_at (c:=7) rfl (by kernel_rfl) (by rfl) (fun K hK=>?_)
       have HK:=hid hK
       clear hK
       have k4:=HY9.out.cP
       have l4:=HY9.out.free 8
       go_simp
       refine HK.out _ _ ?_
       clear HK K
       (try simp only [List.getElem_toArray,List.getElem_cons_zero,List.getElem_cons_succ,Act.put,List.setIfInBounds_toArray,List.set_cons_zero,List.set_cons_succ])
       refine wpAny_done (by kernel_rfl) ?_ _
       refine NoPanic.normal ?_
       have hbn : Below y w9 (w9.setCell ⟨y,8,none⟩ (.slice A3 (n1 + 1) c3)):=(Below.refl y w9).setCell (p:=⟨y,8,none⟩) (Nat.le_refl _) _
       have hfn : ∀ g,g ≠ y → (w9.setCell ⟨y,8,none⟩ (.slice A3 (n1 + 1) c3)).heap[g]? = w9.heap[g]?:=fun g hg=>Below.heap_setCell w9 ⟨y,8,none⟩ _ g hg
       have HPn:=hid (HP9.out.below (show p < y by omega) hbn)
       have HYn:=hid (HY9.out.putP ⟨A3,n1 + 1,c3⟩)
       have HEn:=hid (HE9.out.far (hfn z (by omega)))
       have HKn:=hid (HK9.out.trans (Kx.of hbn (by omega)))
       have HTLn:=hid (HTL9.out.keep hbn.size fun g hg _=>hfn g (by omega))
       have HLn:=hid (Nat.le_trans (show (y + 1) ≤ w9.heap.size by omega) hbn.size)
       clear hbn hfn HP8 HK8 HP9 HK9 HTL9 hs8 hs9 hHeld hlw hcl k4 l4 HY8 HY9 HE8 HE9
       generalize (w9.setCell ⟨y,8,none⟩ (.slice A3 (n1 + 1) c3)) = wn at *
       go_wp2_with fail
       have hlt:=suf_lt HR2.out.suf (seen_some hsc)
       refine ⟨⟨l ++ [x2],s2,A3,n1 + 1,c3,by have:=HBD.out;omega,fun l2 s3 h=>HC.out _ _ (PlacesR.go hsc HR2.out h),HTLn.out,HYn.out,HEn.out,HPn.out,HKn.out,HLn.out⟩,?_⟩
       rw [mW_of HPn.out.stm,HMW.out]
       omega
end
end Go.Proofs.YtgmjpnnblhkbpaaDoor
namespace Go.Proofs.YtgmjpnnblhkbpaaDoor
open Go Go.RowKit Go.Sh Tx
theorem stmt_ok (p q n : Nat) (hbd : BodyOK p q n) : StmtOK p q n:=by
 intro b s w hmu hb12 h
 cases hse : sees s kinds with
 | false=>exact stmt_bad p q b n hbd s w hmu hb12 h hse
 | true=>
   have hm:=seen_mem hse
   simp only [kinds,List.mem_cons,List.not_mem_nil,or_false] at hm
   rcases hm with ht | ht | ht | ht | ht | ht | ht | ht | ht | ht
   · exact stmt_send p q b n hbd s w hmu hb12 h hse ht
   · exact stmt_split p q b n hbd s w hmu hb12 h hse ht
   · exact stmt_cover p q b n hbd s w hmu hb12 h hse ht
   · exact stmt_wait p q b n hbd s w hmu hb12 h hse ht
   · exact stmt_block p q b n hbd s w hmu hb12 h hse ht
   · exact stmt_after p q b n hbd s w hmu hb12 h hse ht
   · exact stmt_repeat p q b n hbd s w hmu hb12 h hse ht
   · exact stmt_retry p q b n hbd s w hmu hb12 h hse ht
   · exact stmt_every p q b n hbd s w hmu hb12 h hse ht
   · exact stmt_if p q b n hbd s w hmu hb12 h hse ht
theorem body_all (p q : Nat) (n : Nat) : BodyOK p q n:=by
 induction n using Nat.strongRecOn with
 | ind n ih=>exact body_ok p q n fun m hm=>stmt_ok p q m (ih m hm)
theorem stmt_any (p q b : Nat) (s : PS) (w : World) (hb : s.2 = 0 → b ≤ 12) (h : Ps w p q s b 0) : Calls Tryd.prog 17 #[.pointer (some ⟨p,0,none⟩)] w (StmtPost p q b s w):=stmt_ok p q (mu s) (body_all p q _) b s w (Nat.le_refl _) hb h
end Go.Proofs.YtgmjpnnblhkbpaaDoor
