/-
  The parser's term, given factor. No conditions.
-/
import Derived.Test.YtgmjpnnblhkbpaaDoorTwOM
import Derived.Test.YtgmjpnnblhkbpaaDoorSqM
namespace Go.Proofs.YtgmjpnnblhkbpaaDoor
open Go Go.RowKit Go.Sh Tx
open Go.Lib (hid)
def EB (w : World) (z : Nat) (v0 v1 v2 v3 v4 : Value) : Prop:=w.heap[z]? = some (.cells #[v0,v1,v2,v3,v4] 55 (0,0))
section
variable {w w' : World} {z : Nat} {v0 v1 v2 v3 v4 : Value}
set_option maxRecDepth 100000 in
theorem EB.load (h : EB w z v0 v1 v2 v3 v4) : (loadVar 55 ⟨z,0,none⟩).run Tryd.prog w = .ok (.agg #[v0,v1,v2,v3,v4]) w:=by
 have h2:=run_loadVar_mid (P:=Tryd.prog) w z 0 55 [v0,v1,v2,v3,v4] _ (blk_range h) Tryd.underlying55 rfl (by kernel_rfl)
 exact h2
theorem EB.free (h : EB w z v0 v1 v2 v3 v4) (i : Nat) : w.frozen? ⟨z,i,none⟩ = false:=frozen_of_row _ _ i _ _ h
theorem EB.c0 (h : EB w z v0 v1 v2 v3 v4) : w.cell? ⟨z,0,none⟩ = some v0:=blk_cell h
theorem EB.c1 (h : EB w z v0 v1 v2 v3 v4) : w.cell? ⟨z,1,none⟩ = some v1:=blk_cell h
theorem EB.c2 (h : EB w z v0 v1 v2 v3 v4) : w.cell? ⟨z,2,none⟩ = some v2:=blk_cell h
theorem EB.c3 (h : EB w z v0 v1 v2 v3 v4) : w.cell? ⟨z,3,none⟩ = some v3:=blk_cell h
theorem EB.c4 (h : EB w z v0 v1 v2 v3 v4) : w.cell? ⟨z,4,none⟩ = some v4:=blk_cell h
theorem EB.put (h : EB w z v0 v1 v2 v3 v4) (a0 a1 a2 a3 a4 : Value) : EB (((((w.setCell ⟨z,0,none⟩ a0).setCell ⟨z,1,none⟩ a1).setCell ⟨z,2,none⟩ a2).setCell ⟨z,3,none⟩ a3).setCell ⟨z,4,none⟩ a4) z a0 a1 a2 a3 a4:=blk_set (blk_set (blk_set (blk_set (blk_set h _) _) _) _) _
theorem EB.far (h : EB w z v0 v1 v2 v3 v4) (hz : w'.heap[z]? = w.heap[z]?) : EB w' z v0 v1 v2 v3 v4:=hz.trans h
end
theorem far5 {w : World} {z b : Nat} (h : b ≠ z) (a0 a1 a2 a3 a4 : Value) : (((((w.setCell ⟨z,0,none⟩ a0).setCell ⟨z,1,none⟩ a1).setCell ⟨z,2,none⟩ a2).setCell ⟨z,3,none⟩ a3).setCell ⟨z,4,none⟩ a4).heap[b]? = w.heap[b]?:=
 (Below.heap_setCell _ ⟨z,4,none⟩ _ b h).trans ((Below.heap_setCell _ ⟨z,3,none⟩ _ b h).trans ((Below.heap_setCell _ ⟨z,2,none⟩ _ b h).trans ((Below.heap_setCell _ ⟨z,1,none⟩ _ b h).trans (Below.heap_setCell _ ⟨z,0,none⟩ _ b h))))
theorem below5 {W V : World} {z : Nat} (h : Below z W V) (a0 a1 a2 a3 a4 : Value) : Below z W (((((V.setCell ⟨z,0,none⟩ a0).setCell ⟨z,1,none⟩ a1).setCell ⟨z,2,none⟩ a2).setCell ⟨z,3,none⟩ a3).setCell ⟨z,4,none⟩ a4):=
 ((((h.setCell (p:=⟨z,0,none⟩) (Nat.le_refl _) _).setCell (p:=⟨z,1,none⟩) (Nat.le_refl _) _).setCell (p:=⟨z,2,none⟩) (Nat.le_refl _) _).setCell (p:=⟨z,3,none⟩) (Nat.le_refl _) _).setCell (p:=⟨z,4,none⟩) (Nat.le_refl _) _
theorem TrV.kx {w0 w1 w2 : World} {p q : Nat} {l : List Ex} {css : List (List Value)} (h : TrV (Fr w0 w1) w1 l css) (hk : Kx q p w1.heap.size w1 w2) (hp : p < w0.heap.size) (hq : q < w0.heap.size) : TrV (Fr w0 w1) w2 l css:=
 h.keep fun b hb=>hk.block b hb.2 (by have:=hb.1;omega) (by have:=hb.1;omega)
theorem TrV.wide {w w0 w1 w2 : World} {l : List Ex} {css : List (List Value)} (h : TrV (Fr w0 w1) w2 l css) (h0 : w.heap.size ≤ w0.heap.size) (h1 : w1.heap.size ≤ w2.heap.size) : TrV (Fr w w2) w2 l css:=
 h.mono fun _ hb=>⟨Nat.le_trans h0 hb.1,Nat.lt_of_lt_of_le hb.2 h1⟩
theorem ExPost.leaf {p q b k z : Nat} {c : CallE} {w w4 : World} {s' : PS} {x : Ex} (hr : RunE k c x s') (hx : exKids x = []) (a : Int) (hz : w.heap.size = z) (hP : Ps w4 p q s' b k) (hp : p < z) (hK : Kx q p z w w4) :
   ExPost p q b k c w (.returned (.agg #[.string (sb (exOp x)),.int .i64 (exNm x),.string (sb (exTx x)),.int .i64 a,.slice none 0 0])) (((((w4.setCell ⟨z,0,none⟩ (.string (sb (exOp x)))).setCell ⟨z,1,none⟩ (.int .i64 (exNm x))).setCell ⟨z,2,none⟩ (.string (sb (exTx x)))).setCell ⟨z,3,none⟩ (.int .i64 a)).setCell ⟨z,4,none⟩ (.slice none 0 0)):=by
 have hb:=below5 (Below.refl z w4) (.string (sb (exOp x))) (.int .i64 (exNm x)) (.string (sb (exTx x))) (.int .i64 a) (.slice none 0 0)
 refine ⟨x,s',_,_,_,a,none,0,0,hr,rfl,TrV.leaf x hx a,hP.below hp hb,?_⟩
 rw [hz]
 exact hK.trans (Kx.of hb (Nat.le_refl _))
theorem ExPost.tree {p q b k z : Nat} {c : CallE} {w w0 w1 w4 : World} {s' : PS} {x : Ex} {o t : ByteArray} {m a : Int} {A : Option Addr} {n d : Nat} (hr : RunE k c x s') (hT : TrV (Fr w0 w1) w4 [x] [[.string o,.int .i64 m,.string t,.int .i64 a,.slice A n d]]) (hz : w.heap.size = z) (h0 : z < w0.heap.size) (h1 : w1.heap.size ≤ w4.heap.size) (hP : Ps w4 p q s' b k) (hp : p < z) (hK : Kx q p z w w4) :
   ExPost p q b k c w (.returned (.agg #[.string o,.int .i64 m,.string t,.int .i64 a,.slice A n d])) (((((w4.setCell ⟨z,0,none⟩ (.string o)).setCell ⟨z,1,none⟩ (.int .i64 m)).setCell ⟨z,2,none⟩ (.string t)).setCell ⟨z,3,none⟩ (.int .i64 a)).setCell ⟨z,4,none⟩ (.slice A n d)):=by
 have hb:=below5 (Below.refl z w4) (.string o) (.int .i64 m) (.string t) (.int .i64 a) (.slice A n d)
 refine ⟨x,s',_,_,_,_,_,_,_,hr,rfl,(hT.keep fun b hb=>far5 (by have:=hb.1;omega) _ _ _ _ _).wide (by omega) (Nat.le_trans h1 hb.size),hP.below hp hb,?_⟩
 rw [hz]
 exact hK.trans (Kx.of hb (Nat.le_refl _))
section
set_option maxHeartbeats 16000000
set_option maxRecDepth 100000
set_option maxRecDepth 100000 in
theorem atom_ok (p q n : Nat) (hx : ∀ m,m < n → ExOK p q 33 .expr m) : ExOK p q 56 .atom n:=by
 intro b k s w hmu hk12 h
 have hp:=h.size
 have hqp:=h.lt
 have HKI:=hid (fun (x : Int) W (hs : Ps W p q s b k)=>kind_any p q b k s x W hs)
 have HB1:=hid (show Below w.heap.size w (w.alloc (.cells #[.string ⟨#[]⟩,.int .i64 0,.string ⟨#[]⟩,.int .i64 0,.slice none 0 0] 55)) from (Below.refl _ w).alloc (Nat.le_refl _) _)
 have HP1:=hid (h.below hp HB1.out)
 have HE1:=hid (show EB (w.alloc (.cells #[.string ⟨#[]⟩,.int .i64 0,.string ⟨#[]⟩,.int .i64 0,.slice none 0 0] 55)) w.heap.size (.string ⟨#[]⟩) (.int .i64 0) (.string ⟨#[]⟩) (.int .i64 0) (.slice none 0 0) from heap_alloc_new w _)
 have hs1 : (w.alloc (.cells #[.string ⟨#[]⟩,.int .i64 0,.string ⟨#[]⟩,.int .i64 0,.slice none 0 0] 55)).heap.size = w.heap.size + 1:=Array.size_push _
 clear h
 go_enter Tryd.func56,Tryd.ntmps56
 go_wp2_with fail
 obtain ⟨z,hz⟩ : ∃ z,w.heap.size = z:=⟨_,rfl⟩
 have HZ:=hid hz
 rw [hz] at HB1 HE1 hs1 hp
 have HK1:=hid (show Kx q p z w _ from Kx.of HB1.out (Nat.le_refl _))
 rw [hz]
 have hz1 : z + 1 ≤ (w.alloc (.cells #[.string ⟨#[]⟩,.int .i64 0,.string ⟨#[]⟩,.int .i64 0,.slice none 0 0] 55)).heap.size:=Nat.le_of_eq hs1.symm
 have hzq : z ≠ q:=by omega
 have hzp : z ≠ p:=by omega
 clear hz hs1 HB1
 generalize w.alloc (.cells #[.string ⟨#[]⟩,.int .i64 0,.string ⟨#[]⟩,.int .i64 0,.slice none 0 0] 55) = w1 at *
 refine (HKI.out 3 w1 HP1.out).mono ?_
 rintro e w2 ⟨rfl,hb2⟩
 have hk2 : Kx q p w1.heap.size w1 w2:=Kx.of hb2 (Nat.le_refl _)
 have HP2:=hid (HP1.out.below HP1.out.size hb2)
 clear hb2
 have HE2:=hid (HE1.out.far (hk2.block z (by omega) hzq hzp))
 have HK2:=hid (HK1.out.trans (hk2.least (by omega)))
 have hz2 : z + 1 ≤ w2.heap.size:=Nat.le_trans hz1 hk2.size
 clear hk2 HE1 HK1
 cases hk3 : knd s 3 with
 | true=>
   have c0:=HP2.out.c0
   have HNX:=hid (fun W (hs : Stm W q s.1)=>Next_any q s.1 W hs)
   generalize (pk s.1).kind = k1 at *
   obtain ⟨m1,hm1⟩ : ∃ m1,(pk s.1).num = m1:=⟨_,rfl⟩
   obtain ⟨tt,htt⟩ : ∃ tt,(pk s.1).text = tt:=⟨_,rfl⟩
   have HR:=hid (show RunE k (.atom s) (.num m1) (nx s) by rw [← hm1];exact RunE.anum hk3)
   rw [hm1,htt] at HNX
   clear hm1 htt
   go_wp2_with fail
   refine (HNX.out w2 HP2.out.stm).mono ?_
   rintro e w3 ⟨⟨a,rfl⟩,hs3,hq3⟩
   have HP3:=hid (show Ps w3 p q (nx s) b k from HP2.out.moved hs3 hq3 HP2.out.size)
   have hk3 : Kx q p w2.heap.size w2 w3:=hq3.wide (.inl rfl) (.inl rfl)
   clear hs3 hq3
   have HE3:=hid (HE2.out.far (hk3.block z (by omega) hzq hzp))
   have HK3:=hid (HK2.out.trans (hk3.least (by omega)))
   have hz3 : z + 1 ≤ w3.heap.size:=Nat.le_trans hz2 hk3.size
   clear hk3 HE2 HK2
   go_upto_region 3 with fail
   have hla4 : Below w3.heap.size w3 (w3.alloc (.cells #[.int .i64 k1,.string (sb tt),.int .i64 m1,.int .i64 a] 73)):=(Below.refl _ w3).alloc (Nat.le_refl _) _
   have hy4 : (w3.alloc (.cells #[.int .i64 k1,.string (sb tt),.int .i64 m1,.int .i64 a] 73)).heap[w3.heap.size]? = some (.cells #[.int .i64 k1,.string (sb tt),.int .i64 m1,.int .i64 a] 73 (0,0)):=heap_alloc_new w3 _
   have hk4 : Kx q p w3.heap.size w3 (w3.alloc (.cells #[.int .i64 k1,.string (sb tt),.int .i64 m1,.int .i64 a] 73)):=Kx.of hla4 (Nat.le_refl _)
   have HP4:=hid (HP3.out.below HP3.out.size hla4)
   have HY4:=hid hy4
   clear hla4 hy4
   generalize w3.alloc (.cells #[.int .i64 k1,.string (sb tt),.int .i64 m1,.int .i64 a] 73) = w4 at *
   have HE4:=hid (HE3.out.far (hk4.block z (by omega) hzq hzp))
   have HK4:=hid (HK3.out.trans (hk4.least (by omega)))
   have hz4 : z + 1 ≤ w4.heap.size:=Nat.le_trans hz3 hk4.size
   clear hk4 HE3 HK3
   obtain ⟨y,hy⟩ : ∃ y,w3.heap.size = y:=⟨_,rfl⟩
   rw [hy] at HY4 ⊢
   have y1 : w4.cell? ⟨y,1,none⟩ = some (.string (sb tt)):=blk_cell HY4.out
   have y2 : w4.cell? ⟨y,2,none⟩ = some (.int .i64 m1):=blk_cell HY4.out
   have y3 : w4.cell? ⟨y,3,none⟩ = some (.int .i64 a):=blk_cell HY4.out
   clear HY4 hy
   have g0:=HE4.out.c0
   have f0:=HE4.out.free 0
   have g1:=HE4.out.c1
   have f1:=HE4.out.free 1
   have g2:=HE4.out.c2
   have f2:=HE4.out.free 2
   have g3:=HE4.out.c3
   have f3:=HE4.out.free 3
   have g4:=HE4.out.c4
   have f4:=HE4.out.free 4
   go_wp2_with fail
   refine bodyPost_ret (v:=.agg #[.string ⟨#[110,117,109,98,101,114]⟩,.int .i64 m1,.string ⟨#[]⟩,.int .i64 a,.slice none 0 0]) (results_c1 rfl _ _ _ ⟨z,0,none⟩ _ rfl (HE4.out.put _ _ _ _ _).load) rfl ?_
   exact ExPost.leaf (x:=(.num m1)) HR.out rfl a HZ.out HP4.out hp HK4.out
 | false=>
   go_wp2_with fail
   refine (HKI.out 1 w2 HP2.out).mono ?_
   rintro e w3 ⟨rfl,hb3⟩
   have hk3 : Kx q p w2.heap.size w2 w3:=Kx.of hb3 (Nat.le_refl _)
   have HP3:=hid (HP2.out.below HP2.out.size hb3)
   clear hb3
   have HE3:=hid (HE2.out.far (hk3.block z (by omega) hzq hzp))
   have HK3:=hid (HK2.out.trans (hk3.least (by omega)))
   have hz3 : z + 1 ≤ w3.heap.size:=Nat.le_trans hz2 hk3.size
   clear hk3 HE2 HK2
   cases hk1 : knd s 1 with
   | true=>
     have c0:=HP3.out.c0
     have HNX:=hid (fun W (hs : Stm W q s.1)=>Next_any q s.1 W hs)
     generalize (pk s.1).kind = k1 at *
     obtain ⟨m1,hm1⟩ : ∃ m1,(pk s.1).num = m1:=⟨_,rfl⟩
     obtain ⟨tt,htt⟩ : ∃ tt,(pk s.1).text = tt:=⟨_,rfl⟩
     have HR:=hid (show RunE k (.atom s) (.name tt) (nx s) by rw [← htt];exact RunE.aname hk3 hk1)
     rw [hm1,htt] at HNX
     clear hm1 htt
     go_wp2_with fail
     refine (HNX.out w3 HP3.out.stm).mono ?_
     rintro e w4 ⟨⟨a,rfl⟩,hs4,hq4⟩
     have HP4:=hid (show Ps w4 p q (nx s) b k from HP3.out.moved hs4 hq4 HP3.out.size)
     have hk4 : Kx q p w3.heap.size w3 w4:=hq4.wide (.inl rfl) (.inl rfl)
     clear hs4 hq4
     have HE4:=hid (HE3.out.far (hk4.block z (by omega) hzq hzp))
     have HK4:=hid (HK3.out.trans (hk4.least (by omega)))
     have hz4 : z + 1 ≤ w4.heap.size:=Nat.le_trans hz3 hk4.size
     clear hk4 HE3 HK3
     go_upto_region 6 with fail
     have hla5 : Below w4.heap.size w4 (w4.alloc (.cells #[.int .i64 k1,.string (sb tt),.int .i64 m1,.int .i64 a] 73)):=(Below.refl _ w4).alloc (Nat.le_refl _) _
     have hy5 : (w4.alloc (.cells #[.int .i64 k1,.string (sb tt),.int .i64 m1,.int .i64 a] 73)).heap[w4.heap.size]? = some (.cells #[.int .i64 k1,.string (sb tt),.int .i64 m1,.int .i64 a] 73 (0,0)):=heap_alloc_new w4 _
     have hk5 : Kx q p w4.heap.size w4 (w4.alloc (.cells #[.int .i64 k1,.string (sb tt),.int .i64 m1,.int .i64 a] 73)):=Kx.of hla5 (Nat.le_refl _)
     have HP5:=hid (HP4.out.below HP4.out.size hla5)
     have HY5:=hid hy5
     clear hla5 hy5
     generalize w4.alloc (.cells #[.int .i64 k1,.string (sb tt),.int .i64 m1,.int .i64 a] 73) = w5 at *
     have HE5:=hid (HE4.out.far (hk5.block z (by omega) hzq hzp))
     have HK5:=hid (HK4.out.trans (hk5.least (by omega)))
     have hz5 : z + 1 ≤ w5.heap.size:=Nat.le_trans hz4 hk5.size
     clear hk5 HE4 HK4
     obtain ⟨y,hy⟩ : ∃ y,w4.heap.size = y:=⟨_,rfl⟩
     rw [hy] at HY5 ⊢
     have y1 : w5.cell? ⟨y,1,none⟩ = some (.string (sb tt)):=blk_cell HY5.out
     have y2 : w5.cell? ⟨y,2,none⟩ = some (.int .i64 m1):=blk_cell HY5.out
     have y3 : w5.cell? ⟨y,3,none⟩ = some (.int .i64 a):=blk_cell HY5.out
     clear HY5 hy
     have g0:=HE5.out.c0
     have f0:=HE5.out.free 0
     have g1:=HE5.out.c1
     have f1:=HE5.out.free 1
     have g2:=HE5.out.c2
     have f2:=HE5.out.free 2
     have g3:=HE5.out.c3
     have f3:=HE5.out.free 3
     have g4:=HE5.out.c4
     have f4:=HE5.out.free 4
     go_wp2_with fail
     refine bodyPost_ret (v:=.agg #[.string ⟨#[110,97,109,101]⟩,.int .i64 0,.string (sb tt),.int .i64 a,.slice none 0 0]) (results_c1 rfl _ _ _ ⟨z,0,none⟩ _ rfl (HE5.out.put _ _ _ _ _).load) rfl ?_
     exact ExPost.leaf (x:=(.name tt)) HR.out rfl a HZ.out HP5.out hp HK5.out
   | false=>
     go_wp2_with fail
     have hla4 : Below w3.heap.size w3 (w3.alloc (.cells #[.string ⟨#[40]⟩] 9)):=(Below.refl _ w3).alloc (Nat.le_refl _) _
     have hy4 : (w3.alloc (.cells #[.string ⟨#[40]⟩] 9)).heap[w3.heap.size]? = some (.cells #[.string ⟨#[40]⟩] 9 (0,0)):=heap_alloc_new w3 _
     have hk4 : Kx q p w3.heap.size w3 (w3.alloc (.cells #[.string ⟨#[40]⟩] 9)):=Kx.of hla4 (Nat.le_refl _)
     have HP4:=hid (HP3.out.below HP3.out.size hla4)
     have HRS:=hid (show RS (w3.alloc (.cells #[.string ⟨#[40]⟩] 9)) (some ⟨w3.heap.size,0,none⟩) [kLp] from RS.new w3 [kLp])
     have HY4:=hid hy4
     clear hla4 hy4
     generalize w3.alloc (.cells #[.string ⟨#[40]⟩] 9) = w4 at *
     have HE4:=hid (HE3.out.far (hk4.block z (by omega) hzq hzp))
     have HK4:=hid (HK3.out.trans (hk4.least (by omega)))
     have hz4 : z + 1 ≤ w4.heap.size:=Nat.le_trans hz3 hk4.size
     clear hk4 HE3 HK3
     have HSE:=hid (sees_any p q b k s (some ⟨w3.heap.size,0,none⟩) 1 [kLp] w4 HP4.out HRS.out (Nat.le_add_left 1 99))
     clear HRS HY4
     refine HSE.out.mono ?_
     rintro e w5 ⟨rfl,hb5⟩
     have hk5 : Kx q p w4.heap.size w4 w5:=Kx.of hb5 (Nat.le_refl _)
     have HP5:=hid (HP4.out.below HP4.out.size hb5)
     clear hb5
     have HE5:=hid (HE4.out.far (hk5.block z (by omega) hzq hzp))
     have HK5:=hid (HK4.out.trans (hk5.least (by omega)))
     have hz5 : z + 1 ≤ w5.heap.size:=Nat.le_trans hz4 hk5.size
     clear hk5 HE4 HK4
     clear HSE
     cases hs3 : sees s [kLp] with
     | false=>
       go_wp2_with fail
       refine (fail_any p q b k s 9 w5 HP5.out).mono ?_
       rintro e w6 ⟨rfl,hp6,hk6⟩
       have HP6:=hid hp6
       clear hp6
       have HE6:=hid (HE5.out.far (hk6.block z (by omega) hzq hzp))
       have HK6:=hid (HK5.out.trans (hk6.least (by omega)))
       have hz6 : z + 1 ≤ w6.heap.size:=Nat.le_trans hz5 hk6.size
       clear hk6 HE5 HK5
       have g0:=HE6.out.c0
       have f0:=HE6.out.free 0
       have g1:=HE6.out.c1
       have f1:=HE6.out.free 1
       have g2:=HE6.out.c2
       have f2:=HE6.out.free 2
       have g3:=HE6.out.c3
       have f3:=HE6.out.free 3
       have g4:=HE6.out.c4
       have f4:=HE6.out.free 4
       go_wp2_with fail
       refine bodyPost_ret (v:=.agg #[.string ⟨#[]⟩,.int .i64 0,.string ⟨#[]⟩,.int .i64 0,.slice none 0 0]) (results_c1 rfl _ _ _ ⟨z,0,none⟩ _ rfl (HE6.out.put _ _ _ _ _).load) rfl ?_
       exact ExPost.leaf (x:=.none) (RunE.abad hk3 hk1 hs3) rfl 0 HZ.out HP6.out hp HK6.out
     | true=>
       have hk12' : k ≤ 12:=hk12 (seen_ok hs3)
       go_wp2_with fail
       refine (open_any p q b k s w5 HP5.out hk12').mono ?_
       rintro e w6 ⟨rfl,hp6,hk6⟩
       have HP6:=hid hp6
       clear hp6
       have HE6:=hid (HE5.out.far (hk6.block z (by omega) hzq hzp))
       have HK6:=hid (HK5.out.trans (hk6.least (by omega)))
       have hz6 : z + 1 ≤ w6.heap.size:=Nat.le_trans hz5 hk6.size
       clear hk6 HE5 HK5
       have HXP:=hid (hx (mu (openS k s)) (Nat.lt_of_lt_of_le (mu_open_lt hk12' hs3) hmu) b (k + 1) (openS k s) w6 (Nat.le_refl _) (fun h=>(open_ok hk12' h).1) HP6.out)
       go_wp2_with fail
       refine HXP.out.mono ?_
       rintro e w7 ⟨x,s',o,t,m,a,A,n',d,hr,rfl,htr,hp7,hk7⟩
       have HP7:=hid hp7
       have HTR:=hid htr
       have HRU:=hid hr
       have h67:=hk7.size
       clear hp7 hr htr HXP
       have HE7:=hid (HE6.out.far (hk7.block z (by omega) hzq hzp))
       have HK7:=hid (HK6.out.trans (hk7.least (by omega)))
       have hz7 : z + 1 ≤ w7.heap.size:=Nat.le_trans hz6 hk7.size
       clear hk7 HE6 HK6
       go_upto_region 10 with fail
       have hla8 : Below w7.heap.size w7 (w7.alloc (.cells #[.string o,.int .i64 m,.string t,.int .i64 a,.slice A n' d] 55)):=(Below.refl _ w7).alloc (Nat.le_refl _) _
       have hy8 : (w7.alloc (.cells #[.string o,.int .i64 m,.string t,.int .i64 a,.slice A n' d] 55)).heap[w7.heap.size]? = some (.cells #[.string o,.int .i64 m,.string t,.int .i64 a,.slice A n' d] 55 (0,0)):=heap_alloc_new w7 _
       have hk8 : Kx q p w7.heap.size w7 (w7.alloc (.cells #[.string o,.int .i64 m,.string t,.int .i64 a,.slice A n' d] 55)):=Kx.of hla8 (Nat.le_refl _)
       have HP8:=hid (HP7.out.below HP7.out.size hla8)
       have HT8:=hid (HTR.out.kx hk8 HP6.out.size HP6.out.stm.lt)
       have HY8:=hid hy8
       clear hla8 hy8
       generalize w7.alloc (.cells #[.string o,.int .i64 m,.string t,.int .i64 a,.slice A n' d] 55) = w8 at *
       have HE8:=hid (HE7.out.far (hk8.block z (by omega) hzq hzp))
       have HK8:=hid (HK7.out.trans (hk8.least (by omega)))
       have hz8 : z + 1 ≤ w8.heap.size:=Nat.le_trans hz7 hk8.size
       clear hk8 HE7 HK7
       have HY8:=hid (show EB w8 w7.heap.size (.string o) (.int .i64 m) (.string t) (.int .i64 a) (.slice A n' d) from HY8.out)
       have h78 : w7.heap.size < w8.heap.size:=(Array.getElem?_eq_some_iff.1 HY8.out).1
       go_wp2_with fail
       refine (shut_any p q b k s' w8 HP8.out).mono ?_
       rintro e w9 ⟨rfl,hp9,hk9⟩
       have HP9:=hid hp9
       clear hp9
       have HY9:=hid (HY8.out.far (hk9.block w7.heap.size h78 (by omega) (by omega)))
       have HT9:=hid (HT8.out.keep fun b hb=>hk9.block b (Nat.lt_trans hb.2 h78) (by have:=hb.1;omega) (by have:=hb.1;omega))
       have h89:=hk9.size
       have HE9:=hid (HE8.out.far (hk9.block z (by omega) hzq hzp))
       have HK9:=hid (HK8.out.trans (hk9.least (by omega)))
       have hz9 : z + 1 ≤ w9.heap.size:=Nat.le_trans hz8 hk9.size
       clear hk9 HE8 HK8
       have g0:=HE9.out.c0
       have f0:=HE9.out.free 0
       have g1:=HE9.out.c1
       have f1:=HE9.out.free 1
       have g2:=HE9.out.c2
       have f2:=HE9.out.free 2
       have g3:=HE9.out.c3
       have f3:=HE9.out.free 3
       have g4:=HE9.out.c4
       have f4:=HE9.out.free 4
       obtain ⟨y,hy⟩ : ∃ y,w7.heap.size = y:=⟨_,rfl⟩
       rw [hy] at HY9 ⊢
       have y0:=HY9.out.c0
       have y1:=HY9.out.c1
       have y2:=HY9.out.c2
       have y3:=HY9.out.c3
       have y4:=HY9.out.c4
       go_wp2_with fail
       refine bodyPost_ret (v:=.agg #[.string o,.int .i64 m,.string t,.int .i64 a,.slice A n' d]) (results_c1 rfl _ _ _ ⟨z,0,none⟩ _ rfl (HE9.out.put _ _ _ _ _).load) rfl ?_
       exact ExPost.tree (RunE.aparen hk3 hk1 hs3 HRU.out) HT9.out HZ.out (by omega) (by omega) HP9.out hp HK9.out
end
end Go.Proofs.YtgmjpnnblhkbpaaDoor
namespace Go.Proofs.YtgmjpnnblhkbpaaDoor
open Go Go.RowKit Go.Sh Tx
theorem own_mid {w0 w1 : World} {lo e size n : Nat} {v : Value} {xs : List Value} (h : w0.ownsRow lo e size v n xs) (hq : ∀ b,lo ≤ b → b < w0.heap.size → w1.heap[b]? = w0.heap[b]?) : w1.ownsRow lo e size v n xs:=by
 refine ⟨h.1,?_⟩
 rcases h.2 with hn | ⟨g,cap,cur,rfl,hb,hg,rest⟩
 · exact .inl hn
 · exact .inr ⟨g,cap,cur,rfl,hb,(hq g hb (Array.getElem?_eq_some_iff.1 hg).1).trans hg,rest⟩
structure Rw (α : Type) where
 R : (Nat → Prop) → World → List α → List (List Value) → Prop
 sz : Nat
 nil : ∀ {X : Nat → Prop} {w : World},R X w [] []
 keep : ∀ {X : Nat → Prop} {w w' : World} {l : List α} {css : List (List Value)},R X w l css → (∀ b,X b → w'.heap[b]? = w.heap[b]?) → R X w' l css
 mono : ∀ {X Y : Nat → Prop} {w : World} {l : List α} {css : List (List Value)},R X w l css → (∀ b,X b → Y b) → R Y w l css
 app : ∀ {X : Nat → Prop} {w : World} {l m : List α} {css dss : List (List Value)},R X w l css → R X w m dss → R X w (l ++ m) (css ++ dss)
 size : ∀ {X : Nat → Prop} {w : World} {l : List α} {css : List (List Value)},R X w l css → ∀ cs ∈ css,cs.length = sz
 cell : ∀ {X : Nat → Prop} {w : World} {l : List α} {css : List (List Value)},R X w l css → ∀ cs ∈ css,∀ v ∈ cs,v.oneCell' = true
 len : ∀ {X : Nat → Prop} {w : World} {l : List α} {css : List (List Value)},R X w l css → css.length = l.length
def exR : Rw Ex:=⟨TrV,5,.nil,TrV.keep,TrV.mono,TrV.app,TrV.size,TrV.cell,TrV.len⟩
set_option maxRecDepth 100000 in
theorem TTx : STy Tryd.prog 53 55 (.agg #[.string .empty,.int .i64 0,.string .empty,.int .i64 0,.slice none 0 0]) 5 72:=⟨Tryd.underlying53,by kernel_rfl,rfl,by decide⟩
def TL {α : Type} (K : Rw α) (e : TypeId) (lo : Nat) (w : World) (v : Value) (n : Nat) (l : List α) : Prop:=
 ∃ css,w.ownsRow lo e K.sz v n css.flatten ∧ K.R (fun g=>lo ≤ g ∧ g < w.heap.size ∧ v.ownBlock ≠ some g) w l css ∧ css.length = n
section
variable {α : Type} {K : Rw α} {e : TypeId} {lo p q n : Nat} {w w0 w1 : World} {v : Value} {l : List α}
theorem TL.nil : TL K e lo w (.slice none 0 0) 0 []:=⟨[],⟨(Nat.zero_mul _).symm,.inl ⟨rfl,rfl⟩⟩,K.nil,rfl⟩
theorem TL.keep (h : TL K e lo w v n l) (hs : w.heap.size ≤ w1.heap.size) (hb : ∀ b,lo ≤ b → b < w.heap.size → w1.heap[b]? = w.heap[b]?) : TL K e lo w1 v n l:=by
 obtain ⟨css,h1,h2,h3⟩:=h
 exact ⟨css,own_mid h1 hb,K.mono (K.keep h2 fun b hx=>hb b hx.1 hx.2.1) fun b hx=>⟨hx.1,Nat.lt_of_lt_of_le hx.2.1 hs,hx.2.2⟩,h3⟩
theorem TL.kx {B : Nat} (h : TL K e lo w v n l) (hk : Kx q p B w w1) (hB : w.heap.size ≤ B) (hq : q < lo) (hp : p < lo) : TL K e lo w1 v n l:=
 h.keep hk.size fun b h1 h2=>hk.block b (by omega) (by omega) (by omega)
set_option maxRecDepth 100000 in
theorem TL.push {t : TypeId} {z : Value} {bytes : Nat} {x : α} {cs : List Value} (ty : TypeId) (T : STy Tryd.prog t e z K.sz bytes) (hby : bytes ≤ 1000) (h : TL K e lo w0 v n l) (hk : Kx q p w0.heap.size w0 w1) (hq : q < lo) (hp : p < lo) (hlo : lo ≤ w0.heap.size) (hn : n ≤ 100000) (hx : K.R (Fr w0 w1) w1 [x] [cs]) :
   ∃ A' c' w3,(Builtin.append_ #[t,t] ty #[v,.slice (some ⟨w1.heap.size,0,none⟩) 1 1]).run Tryd.prog (w1.alloc (.cells cs.toArray e)) = .ok (.slice A' (n + 1) c') w3 ∧ TL K e lo w3 (.slice A' (n + 1) c') (n + 1) (l ++ [x]) ∧ Below lo w1 w3 ∧ w1.heap.size ≤ w3.heap.size:=by
 obtain ⟨css,h1,h2,h3⟩:=h
 have hvl : ∀ g,v.ownBlock = some g → lo ≤ g ∧ g < w0.heap.size:=fun g hg=>h1.lt g hg
 have o1 : w1.ownsRow lo e K.sz v n css.flatten:=own_mid h1 fun b hb hb2=>hk.block b hb2 (by omega) (by omega)
 have r1:=K.keep h2 (w':=w1) fun b hb=>hk.block b hb.2.1 (by have:=hb.1;omega) (by have:=hb.1;omega)
 have hcl : cs.length = K.sz:=K.size hx cs (List.mem_singleton.2 rfl)
 have hlit:=Reads.lit w1 e cs 1 K.sz (by omega) w1.heap.size rfl
 have hs2 : (w1.alloc (.cells cs.toArray e)).heap.size = w1.heap.size + 1:=Array.size_push _
 have ha2 : Below w1.heap.size w1 (w1.alloc (.cells cs.toArray e)):=(Below.refl _ w1).alloc (Nat.le_refl _) _
 have hs01:=hk.size
 have hm : (n + 1) * bytes ≤ (n + 1) * 1000:=Nat.mul_le_mul_left _ hby
 obtain ⟨A',c',w3,hrun,own3,hg,hob⟩:=run_app T (w1.alloc (.cells cs.toArray e)) ty lo v n css.flatten (o1.alloc _) (w1.heap.size + 1) _ 1 1 cs hlit (fun u hu=>K.cell hx cs (List.mem_singleton.2 rfl) u hu) (by omega) (by omega) (by omega)
 have hs3:=hg.size
 have keep3 : ∀ b,b < w1.heap.size → v.ownBlock ≠ some b → w3.heap[b]? = w1.heap[b]?:=fun b hb hv=>(hg.block b (by omega) (fun h=>hv h.symm)).trans (ha2.block b hb)
 refine ⟨A',c',w3,hrun,⟨css ++ [cs],by rw [List.flatten_append];simpa using own3,?_,by rw [List.length_append,h3];rfl⟩,?_,by omega⟩
 · have hnew : ∀ b,lo ≤ b → b < w1.heap.size → v.ownBlock ≠ some b → lo ≤ b ∧ b < w3.heap.size ∧ (Value.slice A' (n + 1) c').ownBlock ≠ some b:=fun b hb1 hb2 hb3=>⟨hb1,by omega,by
     rcases hob with h | h
     · rw [h];exact hb3
     · rw [h];intro h;have:=Option.some.inj h;omega⟩
   refine K.app (K.mono (K.keep r1 fun b hb=>keep3 b (by have:=hb.2.1;omega) hb.2.2) fun b hb=>hnew b hb.1 (by have:=hb.2.1;omega) hb.2.2) ?_
   have hne : ∀ b,Fr w0 w1 b → v.ownBlock ≠ some b:=fun b hb h=>by have:=(hvl b h).2;have:=hb.1;omega
   exact K.mono (K.keep hx fun b hb=>keep3 b hb.2 (hne b hb)) fun b hb=>hnew b (Nat.le_trans hlo hb.1) hb.2 (hne b hb)
 · have hgb:=hg.block
   exact ⟨hg.os.trans ha2.os,hg.tape.trans ha2.tape,hg.output.trans ha2.output,by omega,fun b hb=>keep3 b (by omega) (fun h=>by have:=(hvl b h).1;omega)⟩
theorem TL.done {A : Option Addr} {c : Nat} (h : TL K e lo w (.slice A n c) n l) (hlo : w0.heap.size ≤ lo) : ∃ css,RP (Fr w0 w) w K.sz A n css ∧ K.R (Fr w0 w) w l css ∧ n ≤ c:=by
 obtain ⟨css,h1,h2,h3⟩:=h
 refine ⟨css,RP.of_own h1 h3 (K.size h2) (fun b _ hb hb2=>⟨by omega,hb2⟩),K.mono h2 fun b hb=>⟨by have:=hb.1;omega,hb.2.1⟩,?_⟩
 rcases h1.2 with ⟨h,h0⟩ | ⟨g,cap,cur,hv,_,_,hcap,_⟩
 · injection h with h1 h2 h3;omega
 · injection hv with _ _ h3;omega
end
end Go.Proofs.YtgmjpnnblhkbpaaDoor
namespace Go.Proofs.YtgmjpnnblhkbpaaDoor
open Go Go.RowKit Go.Sh Tx
open Go.Lib (hid)
def mW (q : Nat) (w : World) : Nat:=
 match w.cell? ⟨q,0,none⟩ with
 | some (.slice _ n _)=>n - (intOf ((w.cell? ⟨q,1,none⟩).getD undef)).toNat
 | _=>0
theorem mW_of {w : World} {q : Nat} {r : List Tk} (h : Stm w q r) : mW q w = r.length + 1:=by
 obtain ⟨A,n,c,i,tks,h1,h2,h3,h4,h5,h6,h7⟩:=h
 have c0 : w.cell? ⟨q,0,none⟩ = some (.slice A n c):=blk_cell h1
 have c1 : w.cell? ⟨q,1,none⟩ = some (.int .i64 (i : Int)):=blk_cell h1
 have h8 : ((tks.map Prod.fst).drop i).length = r.length + 1:=by rw [h6];simp
 have h9 : (tks.map tkc).length = n:=h2.1
 rw [List.length_map] at h9
 rw [List.length_drop,List.length_map] at h8
 simp [mW,c0,c1,intOf]
 omega
def Fx (z y : Nat) (w : World) (g : Nat) : Prop:=z < g ∧ g < w.heap.size ∧ g ≠ y
theorem Fr.fx {w0 w1 w2 : World} {z y g : Nat} (h : Fr w0 w1 g) (hz : z < w0.heap.size) (hy : y < w0.heap.size ∨ w1.heap.size ≤ y) (h2 : w1.heap.size ≤ w2.heap.size) : Fx z y w2 g:=by
 obtain ⟨h3,h4⟩:=h
 exact ⟨by omega,by omega,by omega⟩
theorem Fx.more {w0 w1 : World} {z y g : Nat} (h : Fx z y w0 g) (hs : w0.heap.size ≤ w1.heap.size) : Fx z y w1 g:=⟨h.1,Nat.lt_of_lt_of_le h.2.1 hs,h.2.2⟩
theorem ExPost.gen {p q b k z y : Nat} {c : CallE} {w w4 : World} {s' : PS} {x : Ex} {o t : ByteArray} {m a : Int} {A : Option Addr} {n d : Nat} (hr : RunE k c x s') (hT : TrV (Fx z y w4) w4 [x] [[.string o,.int .i64 m,.string t,.int .i64 a,.slice A n d]]) (hz : w.heap.size = z) (hP : Ps w4 p q s' b k) (hp : p < z) (hK : Kx q p z w w4) :
   ExPost p q b k c w (.returned (.agg #[.string o,.int .i64 m,.string t,.int .i64 a,.slice A n d])) (((((w4.setCell ⟨z,0,none⟩ (.string o)).setCell ⟨z,1,none⟩ (.int .i64 m)).setCell ⟨z,2,none⟩ (.string t)).setCell ⟨z,3,none⟩ (.int .i64 a)).setCell ⟨z,4,none⟩ (.slice A n d)):=by
 have hb:=below5 (Below.refl z w4) (.string o) (.int .i64 m) (.string t) (.int .i64 a) (.slice A n d)
 refine ⟨x,s',_,_,_,_,_,_,_,hr,rfl,(hT.keep fun b hb=>far5 (by have:=hb.1;omega) _ _ _ _ _).mono fun b hx=>⟨by have:=hx.1;omega,Nat.lt_of_lt_of_le hx.2.1 hb.size⟩,hP.below hp hb,?_⟩
 rw [hz]
 exact hK.trans (Kx.of hb (Nat.le_refl _))
set_option maxRecDepth 100000 in
theorem TrV.bin {X : Nat → Prop} {w : World} {x y : Ex} {cx cy : List Value} {g : Nat} (o : Bs) (a : Int) (hx : TrV X w [x] [cx]) (hy : TrV X w [y] [cy]) (hg : w.heap[g]? = some (.cells (cx ++ cy).toArray 55 (0,0))) (hX : X g) :
   TrV X w [.bin o x y] [exc o 0 [] a (.slice (some ⟨g,0,none⟩) 2 2)]:=by
 have h2:=hx.app hy
 refine TrV.cons (e:=.bin o x y) h2 (RP.lit (by simpa using hg) rfl h2.size hX) (Nat.le_refl _) .nil
theorem suf_lt {s1 s2 : PS} (h : Suf s2.1 (nx s1).1) (h1 : ∃ t r,s1.1 = t :: r) : s2.1.length < s1.1.length:=by
 obtain ⟨x,hx⟩:=h
 obtain ⟨t,r,h1⟩:=h1
 rw [nx,h1] at hx
 have h2 : r = x ++ s2.1:=hx
 rw [h1,List.length_cons,h2,List.length_append]
 omega
section
set_option maxHeartbeats 16000000
set_option maxRecDepth 100000
set_option maxRecDepth 100000 in
theorem term_ok (p q n : Nat) (hf : ExOK p q 73 .factor n) : ExOK p q 55 .term n:=by
 intro b k s w hmu hk12 h
 have hp:=h.size
 have hqp:=h.lt
 have HFA:=hid hf
 have HB1:=hid (show Below w.heap.size w (w.alloc (.cells #[.string ⟨#[]⟩,.int .i64 0,.string ⟨#[]⟩,.int .i64 0,.slice none 0 0] 55)) from (Below.refl _ w).alloc (Nat.le_refl _) _)
 have HP1:=hid (h.below hp HB1.out)
 have HE1:=hid (show EB (w.alloc (.cells #[.string ⟨#[]⟩,.int .i64 0,.string ⟨#[]⟩,.int .i64 0,.slice none 0 0] 55)) w.heap.size (.string ⟨#[]⟩) (.int .i64 0) (.string ⟨#[]⟩) (.int .i64 0) (.slice none 0 0) from heap_alloc_new w _)
 have hs1 : (w.alloc (.cells #[.string ⟨#[]⟩,.int .i64 0,.string ⟨#[]⟩,.int .i64 0,.slice none 0 0] 55)).heap.size = w.heap.size + 1:=Array.size_push _
 clear h hf
 go_enter Tryd.func55,Tryd.ntmps55
 go_wp2_with fail
 obtain ⟨z,hz⟩ : ∃ z,w.heap.size = z:=⟨_,rfl⟩
 have HZ:=hid hz
 rw [hz] at HB1 HE1 hs1 hp
 have HK1:=hid (show Kx q p z w _ from Kx.of HB1.out (Nat.le_refl _))
 rw [hz]
 have hz1 : z + 1 ≤ (w.alloc (.cells #[.string ⟨#[]⟩,.int .i64 0,.string ⟨#[]⟩,.int .i64 0,.slice none 0 0] 55)).heap.size:=Nat.le_of_eq hs1.symm
 have hzq : z ≠ q:=by omega
 have hzp : z ≠ p:=by omega
 clear hz hs1 HB1
 generalize w.alloc (.cells #[.string ⟨#[]⟩,.int .i64 0,.string ⟨#[]⟩,.int .i64 0,.slice none 0 0] 55) = w1 at *
 refine (HFA.out b k s w1 hmu hk12 HP1.out).mono ?_
 rintro e w2 ⟨x,s',o,t,m,a,A,n',d,hr,rfl,htr,hp2,hk2⟩
 have HP2:=hid hp2
 have HTR:=hid htr
 have HRU:=hid hr
 have hsz2:=hk2.size
 clear hp2 hr htr
 have HE2:=hid (HE1.out.far (hk2.block z (by omega) hzq hzp))
 have HK2:=hid (HK1.out.trans (hk2.least (by omega)))
 have hz2 : z + 1 ≤ w2.heap.size:=Nat.le_trans hz1 hk2.size
 clear hk2 HE1 HK1
 go_upto_region 2 with fail
 have hla3 : Below w2.heap.size w2 (w2.alloc (.cells #[.string o,.int .i64 m,.string t,.int .i64 a,.slice A n' d] 55)):=(Below.refl _ w2).alloc (Nat.le_refl _) _
 have hy3 : (w2.alloc (.cells #[.string o,.int .i64 m,.string t,.int .i64 a,.slice A n' d] 55)).heap[w2.heap.size]? = some (.cells #[.string o,.int .i64 m,.string t,.int .i64 a,.slice A n' d] 55 (0,0)):=heap_alloc_new w2 _
 have hk3 : Kx q p w2.heap.size w2 (w2.alloc (.cells #[.string o,.int .i64 m,.string t,.int .i64 a,.slice A n' d] 55)):=Kx.of hla3 (Nat.le_refl _)
 have HP3:=hid (HP2.out.below HP2.out.size hla3)
 have HT3:=hid (HTR.out.kx hk3 HP1.out.size HP1.out.stm.lt)
 have HY3:=hid hy3
 clear hla3 hy3
 generalize w2.alloc (.cells #[.string o,.int .i64 m,.string t,.int .i64 a,.slice A n' d] 55) = w3 at *
 have HE3:=hid (HE2.out.far (hk3.block z (by omega) hzq hzp))
 have HK3:=hid (HK2.out.trans (hk3.least (by omega)))
 have hz3 : z + 1 ≤ w3.heap.size:=Nat.le_trans hz2 hk3.size
 clear hk3 HE2 HK2
 obtain ⟨y,hy⟩ : ∃ y,w2.heap.size = y:=⟨_,rfl⟩
 rw [hy] at HY3 ⊢
 have hzy : z < y:=by omega
 have hy3 : y < w3.heap.size:=(Array.getElem?_eq_some_iff.1 HY3.out).1
 have HT4:=hid (HT3.out.mono (fun g hg=>Fr.fx (z:=z) (y:=y) (w2:=w3) hg (by omega) (by omega) (by omega)))
 clear HT3 HTR hy HP1 HP2
 go_loopw [7] (fun _ wr=>∃ (x : Ex) (s' : PS) (o t : ByteArray) (m a : Int) (A : Option Addr) (n' d : Nat),mu s' ≤ n ∧ (s'.2 = 0 → k ≤ 12) ∧ (∀ e2 s2,RunE k (.prod x s') e2 s2 → RunE k (.term s) e2 s2) ∧ TrV (Fx z y wr) wr [x] [[.string o,.int .i64 m,.string t,.int .i64 a,.slice A n' d]] ∧ EB wr y (.string o) (.int .i64 m) (.string t) (.int .i64 a) (.slice A n' d) ∧ EB wr z (.string ⟨#[]⟩) (.int .i64 0) (.string ⟨#[]⟩) (.int .i64 0) (.slice none 0 0) ∧ Ps wr p q s' b k ∧ Kx q p z w wr ∧ y < wr.heap.size) (fun _ wr=>mW q wr)
 case atStart=>
   exact ⟨x,s',o,t,m,a,A,n',d,Nat.le_trans (mu_run HRU.out) hmu,fun h=>hk12 (HRU.out.ok h),fun e2 s2 h=>RunE.term HRU.out h,HT4.out,HY3.out,HE3.out,HP3.out,HK3.out,hy3⟩
 case round=>
   obtain ⟨x1,s1,o1,t1,m1,a1,A1,n1,d1,hmu1,hk1,hc1,ht1,hy1,he1,hp1,hkx1,hyl⟩:=hrel
   have HMU:=hid hmu1
   have HKK:=hid hk1
   have HC:=hid hc1
   have HT:=hid ht1
   have HY:=hid hy1
   have HE:=hid he1
   have HP:=hid hp1
   have HK:=hid hkx1
   have HYL:=hid hyl
   have hzr : z + 1 ≤ wr.heap.size:=by omega
   have HMW:=hid (mW_of hp1.stm)
   clear hmu1 hk1 hc1 ht1 hy1 he1 hp1 hkx1 HT4 HY3 HE3 HP3 HK3 HRU hz3 hsz2 hz2 hy3
   have HAL:=hid (show Calls Tryd.prog 35 #[.pointer (some ⟨p,0,none⟩),.string ⟨#[42]⟩] wr _ from also_any p q b k s1 kStar wr HP.out)
   have HAS:=hid (show alsoS s1 kStar = if sees s1 [kStar] then nx s1 else s1 from rfl)
   go_wp2_with fail
   refine HAL.out.mono ?_
   rintro e w4 ⟨rfl,hp4,hk4⟩
   have HP4:=hid hp4
   have HY4:=hid (HY.out.far (hk4.block y HYL.out (by omega) (by omega)))
   have HE4:=hid (HE.out.far (hk4.block z (by omega) hzq hzp))
   have HT4:=hid ((HT.out.keep (fun g hg=>hk4.block g hg.2.1 (by have:=hg.1;omega) (by have:=hg.1;omega))).mono (fun g hg=>hg.more hk4.size))
   have HK4:=hid (HK.out.trans (hk4.least (by omega)))
   have hyl4 : y < w4.heap.size:=Nat.lt_of_lt_of_le HYL.out hk4.size
   clear hp4 hk4 HAL
   cases hse : sees s1 [kStar] with
   | false=>
     have HSS:=hid (show alsoS s1 kStar = s1 by rw [HAS.out,hse];rfl)
     rw [HSS.out] at HP4
     have g0:=HE4.out.c0
     have f0:=HE4.out.free 0
     have y0:=HY4.out.c0
     have g1:=HE4.out.c1
     have f1:=HE4.out.free 1
     have y1:=HY4.out.c1
     have g2:=HE4.out.c2
     have f2:=HE4.out.free 2
     have y2:=HY4.out.c2
     have g3:=HE4.out.c3
     have f3:=HE4.out.free 3
     have y3:=HY4.out.c3
     have g4:=HE4.out.c4
     have f4:=HE4.out.free 4
     have y4:=HY4.out.c4
     go_wp2_with fail
     refine bodyPost_ret (v:=.agg #[.string o1,.int .i64 m1,.string t1,.int .i64 a1,.slice A1 n1 d1]) (results_c1 rfl _ _ _ ⟨z,0,none⟩ _ rfl (HE4.out.put _ _ _ _ _).load) rfl ?_
     exact ExPost.gen (HC.out _ _ (RunE.prodStop hse)) HT4.out HZ.out HP4.out hp HK4.out
   | true=>
     have HSS:=hid (show alsoS s1 kStar = nx s1 by rw [HAS.out,hse];rfl)
     rw [HSS.out] at HP4
     go_upto_region 3 with fail
     have HP5:=hid (show Ps w4.drew p q (nx s1) b k from HP4.out.drew)
     have HY5:=hid (show EB w4.drew y (.string o1) (.int .i64 m1) (.string t1) (.int .i64 a1) (.slice A1 n1 d1) from HY4.out)
     refine wp_region_noPanic ?_
     refine wp_region_until (S:=fun W=>W.cell? ⟨y,0,none⟩ = some (.string o1) ∧ W.cell? ⟨y,1,none⟩ = some (.int .i64 m1) ∧ W.cell? ⟨y,2,none⟩ = some (.string t1) ∧ W.cell? ⟨y,3,none⟩ = some (.int .i64 a1) ∧ W.cell? ⟨y,4,none⟩ = some (.slice A1 n1 d1)) 7 (by kernel_rfl) ?_ (fun hHeld=>?_)
     · (try dsimp only)
       exact ⟨HY5.out.c0,HY5.out.c1,HY5.out.c2,HY5.out.c3,HY5.out.c4⟩
     apply tkY 0
     apply tkW 1
     apply tkW 2
     apply tkY 3
     refine wpAnyU_one (i:=4) rfl (by decide) (by kernel_rfl) (by rfl) (fun K' hK'=>?_)
     have HKP:=hid hK'
     clear hK'
     go_simp
     refine (HFA.out b k (nx s1) w4.drew (Nat.le_of_lt (Nat.lt_of_lt_of_le (mu_nx (seen_some hse) (seen_ok hse)) HMU.out)) (fun _=>HKK.out (seen_ok hse)) HP5.out).mono ?_
     rintro e w6 ⟨x2,s2,o2,t2,m2,a2,A2,n2,d2,hr2,rfl,htr2,hp6,hk6⟩
     have HP6:=hid hp6
     have hs46 : w4.heap.size ≤ w6.heap.size:=hk6.size
     have HY6:=hid (HY4.out.far (hk6.block y hyl4 (by omega) (by omega)))
     have HE6:=hid (HE4.out.far (hk6.block z (show z < w4.heap.size by omega) hzq hzp))
     have HT6:=hid ((HT4.out.keep (fun g hg=>hk6.block g hg.2.1 (by have:=hg.1;omega) (by have:=hg.1;omega))).mono (fun g hg=>hg.more hs46))
     have HK6:=hid (HK4.out.drew.trans (hk6.least (show z ≤ w4.heap.size by omega)))
     have HN6:=hid (htr2.mono (fun g hg=>Fr.fx (z:=z) (y:=y) (w2:=w6) hg (show z < w4.heap.size by omega) (.inl hyl4) (Nat.le_refl _)))
     have HR2:=hid hr2
     clear hr2 htr2 hp6 hk6 HP5 HY5 HE4 HT4 HK4
     (try dsimp only)
     refine HKP.out _ _ ⟨HY6.out.c0,HY6.out.c1,HY6.out.c2,HY6.out.c3,HY6.out.c4⟩ ?_
     clear HKP K'
     (try simp only [List.getElem_toArray,List.getElem_cons_zero,List.getElem_cons_succ,Act.put,List.setIfInBounds_toArray,List.set_cons_zero,List.set_cons_succ])
     have ha7 : Below w6.heap.size w6 (w6.alloc (.cells #[.string o1,.int .i64 m1,.string t1,.int .i64 a1,.slice A1 n1 d1,.string o2,.int .i64 m2,.string t2,.int .i64 a2,.slice A2 n2 d2] 55)):=(Below.refl _ w6).alloc (Nat.le_refl _) _
     have hl7 : (w6.alloc (.cells #[.string o1,.int .i64 m1,.string t1,.int .i64 a1,.slice A1 n1 d1,.string o2,.int .i64 m2,.string t2,.int .i64 a2,.slice A2 n2 d2] 55)).heap.size = w6.heap.size + 1:=Array.size_push _
     have hyl6 : y < w6.heap.size:=by omega
     have HY7:=hid (HY6.out.far (ha7.block y hyl6))
     have HE7:=hid (HE6.out.far (ha7.block z (by omega)))
     have HP7:=hid (HP6.out.below HP6.out.size ha7)
     have HK7:=hid (HK6.out.trans (Kx.of ha7 (by omega)))
     have HT7:=hid (TrV.bin kStar a1 ((HT6.out.keep fun g hg=>ha7.block g hg.2.1).mono fun g hg=>hg.more (by omega)) ((HN6.out.keep fun g hg=>ha7.block g hg.2.1).mono fun g hg=>hg.more (by omega)) (heap_alloc_new w6 _) (show Fx z y (w6.alloc (.cells #[.string o1,.int .i64 m1,.string t1,.int .i64 a1,.slice A1 n1 d1,.string o2,.int .i64 m2,.string t2,.int .i64 a2,.slice A2 n2 d2] 55)) w6.heap.size from ⟨by omega,by omega,by omega⟩))
     clear HT6 HN6 HE6 HP6 HK6 ha7
     refine wpAnyU_one (i:=5) rfl (by decide) (by kernel_rfl) (by rfl) (fun K' hK'=>?_)
     have HKP:=hid hK'
     clear hK'
     go_simp
     refine HKP.out _ _ ⟨HY7.out.c0,HY7.out.c1,HY7.out.c2,HY7.out.c3,HY7.out.c4⟩ ?_
     clear HKP K'
     (try simp only [List.getElem_toArray,List.getElem_cons_zero,List.getElem_cons_succ,Act.put,List.setIfInBounds_toArray,List.set_cons_zero,List.set_cons_succ])
     generalize (w6.alloc (.cells #[.string o1,.int .i64 m1,.string t1,.int .i64 a1,.slice A1 n1 d1,.string o2,.int .i64 m2,.string t2,.int .i64 a2,.slice A2 n2 d2] 55)) = w7 at *
     have hHeld2:=hHeld
     clear hHeld
     have hHeld : _ ∧ _ ∧ _ ∧ _ ∧ _:=⟨HY7.out.c0,HY7.out.c1,HY7.out.c2,HY7.out.c3,HY7.out.c4⟩
     apply tkY 6
     refine wpAnyU_at (c:=7) rfl (by kernel_rfl) (by rfl) (fun K hK=>?_)
     have HK:=hid hK
     clear hK
     have k0:=HY7.out.c0
     have l0:=HY7.out.free 0
     have k1:=HY7.out.c1
     have l1:=HY7.out.free 1
     have k2:=HY7.out.c2
     have l2:=HY7.out.free 2
     have k3:=HY7.out.c3
     have l3:=HY7.out.free 3
     have k4:=HY7.out.c4
     have l4:=HY7.out.free 4
     go_simp
     refine HK.out _ _ ?_
     clear HK K
     (try simp only [List.getElem_toArray,List.getElem_cons_zero,List.getElem_cons_succ,Act.put,List.setIfInBounds_toArray,List.set_cons_zero,List.set_cons_succ])
     refine wpAny_done (by kernel_rfl) ?_ _
     refine NoPanic.normal ?_
     go_wp2_with fail
     have hb8:=below5 (Below.refl y w7) (.string ⟨#[42]⟩) (.int .i64 0) (.string ⟨#[]⟩) (.int .i64 a1) (.slice (some ⟨w6.heap.size,0,none⟩) 2 2)
     have HP8:=HP7.out.below (show p < y by omega) hb8
     refine ⟨⟨.bin kStar x1 x2,s2,_,_,_,_,_,_,_,Nat.le_trans (mu_run HR2.out) (Nat.le_of_lt (Nat.lt_of_lt_of_le (mu_nx (seen_some hse) (seen_ok hse)) HMU.out)),fun _=>HKK.out (seen_ok hse),fun e2 s3 h=>HC.out _ _ (RunE.prodGo hse HR2.out h),(HT7.out.keep fun g hg=>far5 hg.2.2 _ _ _ _ _).mono fun g hg=>hg.more hb8.size,HY7.out.put _ _ _ _ _,HE7.out.far (far5 (by omega) _ _ _ _ _),HP8,HK7.out.trans (Kx.of hb8 (by omega)),Nat.lt_of_lt_of_le (show y < w7.heap.size by omega) hb8.size⟩,?_⟩
     rw [mW_of HP8.stm,HMW.out]
     have:=suf_lt HR2.out.suf (seen_some hse)
     omega
end
end Go.Proofs.YtgmjpnnblhkbpaaDoor
