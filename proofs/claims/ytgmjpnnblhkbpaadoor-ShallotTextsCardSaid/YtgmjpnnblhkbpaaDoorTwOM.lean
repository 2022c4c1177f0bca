/-
  Expressions in memory: what a row of them reads as; what the parser's functions of expressions leave.
-/
import Derived.Test.YtgmjpnnblhkbpaaDoorTwIM
namespace Go.Proofs.YtgmjpnnblhkbpaaDoor
open Go Go.RowKit Go.Sh Tx
open Go.Lib (hid)
theorem cell_heap {w w' : World} {b i : Nat} (h : w'.heap[b]? = w.heap[b]?) : w'.cell? ⟨b,i,none⟩ = w.cell? ⟨b,i,none⟩:=by
 unfold World.cell?
 simp only [h]
def Stm (w : World) (q : Nat) (r : List Tk) : Prop:=
 ∃ (A : Option Addr) (n c i : Nat) (tks : List (Tk × Int)),w.heap[q]? = some (.cells #[.slice A n c,.int .i64 (i : Int)] 91 (0,0)) ∧ RR w q 4 A n (tks.map tkc) ∧ n ≤ 8001 ∧ n ≤ c ∧ i < n ∧ (tks.map Prod.fst).drop i = r ++ [endT] ∧ (∀ t ∈ r,Gd t)
section
variable {w w' : World} {q : Nat} {r : List Tk}
theorem Stm.keep (h : Stm w q r) (hb : ∀ b,b ≤ q → w'.heap[b]? = w.heap[b]?) : Stm w' q r:=by
 obtain ⟨A,n,c,i,tks,h1,h2,h3⟩:=h
 refine ⟨A,n,c,i,tks,by rw [hb q (Nat.le_refl _)];exact h1,?_,h3⟩
 obtain ⟨a1,a2,a3⟩:=h2
 refine ⟨a1,a2,a3.imp id ?_⟩
 rintro ⟨b,off,e,hbB,hr⟩
 exact ⟨b,off,e,hbB,fun i cs hc j v hv=>by rw [← hr i cs hc j v hv];exact cell_heap (hb b (Nat.le_of_lt hbB))⟩
theorem Stm.below {B : Nat} (h : Stm w q r) (hq : q < B) (hb : Below B w w') : Stm w' q r:=h.keep fun b h=>hb.block b (by omega)
theorem Stm.lt (h : Stm w q r) : q < w.heap.size:=by obtain ⟨A,n,c,i,tks,h,_⟩:=h;exact (Array.getElem?_eq_some_iff.1 h).1
theorem Stm.free (h : Stm w q r) (i : Nat) : w.frozen? ⟨q,i,none⟩ = false:=by obtain ⟨A,n,c,j,tks,h,_⟩:=h;exact frozen_of_row _ _ i _ _ h
theorem Stm.peek (h : Stm w q r) : ∃ (b off n c i : Nat) (at_ : Int),w.cell? ⟨q,0,none⟩ = some (.slice (some ⟨b,off,none⟩) n c) ∧ w.cell? ⟨q,1,none⟩ = some (.int .i64 (i : Int)) ∧ i < n ∧ n ≤ 8001 ∧ b < q ∧ w.rangeAt b (off + i * 4) (tkc (pk r,at_)):=by
 obtain ⟨A,n,c,i,tks,h1,h2,h3,h4,h5,h6,h7⟩:=h
 obtain ⟨b,off,cs,rfl,hb,hc,hl,hr⟩:=h2.at_ h5
 rw [List.getElem?_map] at hc
 obtain ⟨t,ht,rfl⟩:=Option.map_eq_some_iff.1 hc
 have e : t.1 = pk r:=by
   have : ((tks.map Prod.fst).drop i)[0]? = some t.1:=by rw [List.getElem?_drop,Nat.add_zero,List.getElem?_map,ht];rfl
   rw [h6] at this
   cases r with
   | nil=>exact (Option.some.inj this).symm
   | cons a r=>exact (Option.some.inj this).symm
 refine ⟨b,off,n,c,i,t.2,blk_cell h1,blk_cell h1,h5,h3,hb,?_⟩
 rw [← e]
 exact hr
end
theorem Stm.next {w : World} {q : Nat} {t : Tk} {r : List Tk} (h : Stm w q (t :: r)) : ∃ i : Nat,w.cell? ⟨q,1,none⟩ = some (.int .i64 (i : Int)) ∧ i ≤ 8001 ∧ Stm (w.setCell ⟨q,1,none⟩ (.int .i64 ((i : Int) + 1))) q r:=by
 obtain ⟨A,n,c,i,tks,h1,h2,h3,h4,h5,h6,h7⟩:=h
 refine ⟨i,blk_cell h1,by omega,A,n,c,i + 1,tks,blk_set h1 _,h2.below ((Below.refl q w).setCell (p:=⟨q,1,none⟩) (Nat.le_refl _) _),h3,h4,?_,?_,fun t ht=>h7 t (List.mem_cons_of_mem _ ht)⟩
 · have h8 : ((tks.map Prod.fst).drop i).length = r.length + 2:=by rw [h6];simp
   have h9 : (tks.map tkc).length = n:=h2.1
   rw [List.length_map] at h9
   rw [List.length_drop,List.length_map] at h8
   omega
 · rw [← List.tail_drop,h6];rfl
structure Kx (a b B : Nat) (w w' : World) : Prop where
 os : w'.os = w.os
 tape : w'.tape = w.tape
 output : w'.output = w.output
 size : w.heap.size ≤ w'.heap.size
 block : ∀ i,i < B → i ≠ a → i ≠ b → w'.heap[i]? = w.heap[i]?
section
variable {a b B B' : Nat} {w w' w'' : World}
theorem Kx.of (h : Below B' w w') (hB : B ≤ B') : Kx a b B w w':=⟨h.os,h.tape,h.output,h.size,fun i hi _ _=>h.block i (by omega)⟩
theorem Kx.refl : Kx a b B w w:=⟨rfl,rfl,rfl,Nat.le_refl _,fun _ _ _ _=>rfl⟩
theorem Kx.trans (h : Kx a b B w w') (h' : Kx a b B w' w'') : Kx a b B w w'':=⟨h'.os.trans h.os,h'.tape.trans h.tape,h'.output.trans h.output,Nat.le_trans h.size h'.size,fun i h1 h2 h3=>(h'.block i h1 h2 h3).trans (h.block i h1 h2 h3)⟩
theorem Kx.least (h : Kx a b B w w') (hB : B' ≤ B) : Kx a b B' w w':=⟨h.os,h.tape,h.output,h.size,fun i h1 h2 h3=>h.block i (by omega) h2 h3⟩
theorem Kx.wide {c d : Nat} (h : Kx a b B w w') (h1 : a = c ∨ a = d) (h2 : b = c ∨ b = d) : Kx c d B w w':=⟨h.os,h.tape,h.output,h.size,fun i hi hc hd=>h.block i hi (by omega) (by omega)⟩
theorem Kx.drew (h : Kx a b B w w') : Kx a b B w w'.drew:=⟨h.os,h.tape,h.output,h.size,h.block⟩
theorem Kx.set (h : Kx a b B w w') {p i : Nat} (hp : p = a ∨ p = b ∨ B ≤ p) (v : Value) : Kx a b B w (w'.setCell ⟨p,i,none⟩ v):=by
 have hb:=(Below.refl p w').setCell (p:=⟨p,i,none⟩) (Nat.le_refl _) v
 refine h.trans ⟨hb.os,hb.tape,hb.output,hb.size,fun j h1 h2 h3=>?_⟩
 exact Below.heap_setCell w' ⟨p,i,none⟩ v j (by show j ≠ p;omega)
end
set_option maxRecDepth 100000 in
theorem results_c1 {fn : Func} {t : Tmp} {ty : TypeId} (h : fn.results = #[.cell t ty]) (ts : Array Value) (P : Program) (w : World) (ad : Addr) (v : Value) (h2 : ts.getD t undef = .pointer (some ad)) (h3 : (loadVar ty ad).run P w = .ok v w) :
   (results fn ts).run P w = .ok v w:=by
 have h2' : ts[t]?.getD undef = .pointer (some ad):=by simpa using h2
 simp [results,h,h2',asAddr,h3]
set_option maxRecDepth 100000 in
theorem tok_load (W : World) (z : Nat) (a0 a1 a2 a3 : Value) (h : W.heap[z]? = some (.cells #[a0,a1,a2,a3] 73 (0,0))) : (loadVar 73 ⟨z,0,none⟩).run Tryd.prog W = .ok (.agg #[a0,a1,a2,a3]) W:=by
 have h2:=run_loadVar_mid (P:=Tryd.prog) W z 0 73 [a0,a1,a2,a3] _ (blk_range h) Tryd.underlying73 rfl (by kernel_rfl)
 exact h2
theorem set4 {W : World} {z : Nat} {z0 z1 z2 z3 : Value} {ty : TypeId} (h : W.heap[z]? = some (.cells #[z0,z1,z2,z3] ty (0,0))) (a0 a1 a2 a3 : Value) : ((((W.setCell ⟨z,0,none⟩ a0).setCell ⟨z,1,none⟩ a1).setCell ⟨z,2,none⟩ a2).setCell ⟨z,3,none⟩ a3).heap[z]? = some (.cells #[a0,a1,a2,a3] ty (0,0)):=
 blk_set (blk_set (blk_set (blk_set h _) _) _) _
theorem below4 {W V : World} {z : Nat} (h : Below z W V) (a0 a1 a2 a3 : Value) : Below z W ((((V.setCell ⟨z,0,none⟩ a0).setCell ⟨z,1,none⟩ a1).setCell ⟨z,2,none⟩ a2).setCell ⟨z,3,none⟩ a3):=
 (((h.setCell (p:=⟨z,0,none⟩) (Nat.le_refl _) _).setCell (p:=⟨z,1,none⟩) (Nat.le_refl _) _).setCell (p:=⟨z,2,none⟩) (Nat.le_refl _) _).setCell (p:=⟨z,3,none⟩) (Nat.le_refl _) _
section
set_option maxHeartbeats 8000000
set_option maxRecDepth 100000
set_option maxRecDepth 100000 in
theorem Peek_any (q : Nat) (r : List Tk) (w : World) (h : Stm w q r) :
   Calls Tryd.prog 36 #[.pointer (some ⟨q,0,none⟩)] w fun e w'=>(∃ a,e = .returned (.agg #[.int .i64 (pk r).kind,.string (sb (pk r).text),.int .i64 (pk r).num,.int .i64 a])) ∧ Below w.heap.size w w':=by
 obtain ⟨b,off,n,c,i,a,c0,c1,hi,hn,hb,hr⟩:=h.peek
 have hq:=h.lt
 have r0:=hr 0 _ rfl
 have r1:=hr 1 _ rfl
 have r2:=hr 2 _ rfl
 have r3:=hr 3 _ rfl
 have hin : (i : Int) < (n : Int):=by omega
 obtain ⟨t,ht⟩ : ∃ t,pk r = t:=⟨_,rfl⟩
 rw [ht] at r0 r1 r2 r3 ⊢
 clear hr h ht
 go_enter Tryd.func36,Tryd.ntmps36
 go_wp2_with fail
 have HBZ:=hid (show Below w.heap.size w (w.alloc (.cells #[.int .i64 0,.string ⟨#[]⟩,.int .i64 0,.int .i64 0] 73)) from (Below.refl _ w).alloc (Nat.le_refl _) _)
 have HZB:=hid (show (w.alloc (.cells #[.int .i64 0,.string ⟨#[]⟩,.int .i64 0,.int .i64 0] 73)).heap[w.heap.size]? = some (.cells #[.int .i64 0,.string ⟨#[]⟩,.int .i64 0,.int .i64 0] 73 (0,0)) from heap_alloc_new w _)
 have d0:=(HBZ.out.cell (p:=⟨q,0,none⟩) hq).trans c0
 have d1:=(HBZ.out.cell (p:=⟨q,1,none⟩) hq).trans c1
 have hb2 : b < w.heap.size:=by omega
 have s0:=(HBZ.out.cell (p:=⟨b,off + i * 4 + 0,none⟩) hb2).trans r0
 have s1:=(HBZ.out.cell (p:=⟨b,off + i * 4 + 1,none⟩) hb2).trans r1
 have s2:=(HBZ.out.cell (p:=⟨b,off + i * 4 + 2,none⟩) hb2).trans r2
 have s3:=(HBZ.out.cell (p:=⟨b,off + i * 4 + 3,none⟩) hb2).trans r3
 rw [Nat.add_zero] at s0
 clear c0 c1 r0 r1 r2 r3 hb hb2
 obtain ⟨z,hz⟩ : ∃ z,w.heap.size = z:=⟨_,rfl⟩
 have HZ:=hid hz
 rw [hz] at HBZ HZB ⊢
 clear hz hq
 generalize w.alloc (.cells #[.int .i64 0,.string ⟨#[]⟩,.int .i64 0,.int .i64 0] 73) = w1 at *
 go_quiet (fail)
 have HBQ:=hid (show Below z w (w1.drewN nq) from HBZ.out.trans (bl_q nq))
 have HZQ:=hid (show (w1.drewN nq).heap[z]? = some (.cells #[.int .i64 0,.string ⟨#[]⟩,.int .i64 0,.int .i64 0] 73 (0,0)) from HZB.out)
 have e0 : (w1.drewN nq).cell? ⟨q,0,none⟩ = some (.slice (some ⟨b,off,none⟩) n c):=d0
 have e1 : (w1.drewN nq).cell? ⟨q,1,none⟩ = some (.int .i64 (i : Int)):=d1
 have t0 : (w1.drewN nq).cell? ⟨b,off + i * 4,none⟩ = some (.int .i64 t.kind):=s0
 have t1 : (w1.drewN nq).cell? ⟨b,off + i * 4 + 1,none⟩ = some (.string (sb t.text)):=s1
 have t2 : (w1.drewN nq).cell? ⟨b,off + i * 4 + 2,none⟩ = some (.int .i64 t.num):=s2
 have t3 : (w1.drewN nq).cell? ⟨b,off + i * 4 + 3,none⟩ = some (.int .i64 a):=s3
 clear d0 d1 s0 s1 s2 s3 HBZ HZB
 generalize w1.drewN nq = wq at *
 go_upto_region 2 with fail
 go_still_tail 10,(by kernel_rfl)
 change wpList _ _ _ _ _ (World.drew _)
 have HBD:=hid (show Below z w wq.drew from HBQ.out.drew)
 have HZD:=hid (show wq.drew.heap[z]? = some (.cells #[.int .i64 0,.string ⟨#[]⟩,.int .i64 0,.int .i64 0] 73 (0,0)) from HZQ.out)
 have y0 : wq.drew.cell? ⟨z,0,none⟩ = some (.int .i64 0):=blk_cell HZD.out
 have y1 : wq.drew.cell? ⟨z,1,none⟩ = some (.string ⟨#[]⟩):=blk_cell HZD.out
 have y2 : wq.drew.cell? ⟨z,2,none⟩ = some (.int .i64 0):=blk_cell HZD.out
 have y3 : wq.drew.cell? ⟨z,3,none⟩ = some (.int .i64 0):=blk_cell HZD.out
 have f0 : wq.drew.frozen? ⟨z,0,none⟩ = false:=frozen_of_row _ _ _ _ _ HZD.out
 have f1 : wq.drew.frozen? ⟨z,1,none⟩ = false:=frozen_of_row _ _ _ _ _ HZD.out
 have f2 : wq.drew.frozen? ⟨z,2,none⟩ = false:=frozen_of_row _ _ _ _ _ HZD.out
 have f3 : wq.drew.frozen? ⟨z,3,none⟩ = false:=frozen_of_row _ _ _ _ _ HZD.out
 clear e0 e1 t0 t1 t2 t3 HBQ HZQ
 generalize wq.drew = wd at *
 go_wp2_with fail
 refine bodyPost_ret (v:=.agg #[.int .i64 t.kind,.string (sb t.text),.int .i64 t.num,.int .i64 a]) (results_c1 rfl _ _ _ ⟨z,0,none⟩ _ rfl (tok_load _ _ _ _ _ _ (set4 HZD.out _ _ _ _))) rfl ?_
 exact ⟨⟨a,rfl⟩,by rw [HZ.out];exact below4 HBD.out _ _ _ _⟩
set_option maxRecDepth 100000 in
theorem Next_any (q : Nat) (r : List Tk) (w : World) (h : Stm w q r) :
   Calls Tryd.prog 30 #[.pointer (some ⟨q,0,none⟩)] w fun e w'=>(∃ a,e = .returned (.agg #[.int .i64 (pk r).kind,.string (sb (pk r).text),.int .i64 (pk r).num,.int .i64 a])) ∧ Stm w' q r.tail ∧ Kx q q w.heap.size w w':=by
 have hq:=h.lt
 have HST:=hid h
 clear h
 obtain ⟨k,hk⟩ : ∃ k,(pk r).kind = k:=⟨_,rfl⟩
 obtain ⟨x,hx⟩ : ∃ x,sb (pk r).text = x:=⟨_,rfl⟩
 obtain ⟨m,hm⟩ : ∃ m,(pk r).num = m:=⟨_,rfl⟩
 have HPK:=hid (fun W (hs : Stm W q r)=>Peek_any q r W hs)
 rw [hk,hx,hm] at HPK ⊢
 have HKR:=hid hk
 clear hk hx hm
 go_enter Tryd.func30,Tryd.ntmps30
 go_wp2_with fail
 have HB1:=hid (show Below w.heap.size w (w.alloc (.cells #[.int .i64 0,.string ⟨#[]⟩,.int .i64 0,.int .i64 0] 73)) from (Below.refl _ w).alloc (Nat.le_refl _) _)
 have HZ1:=hid (show (w.alloc (.cells #[.int .i64 0,.string ⟨#[]⟩,.int .i64 0,.int .i64 0] 73)).heap[w.heap.size]? = some (.cells #[.int .i64 0,.string ⟨#[]⟩,.int .i64 0,.int .i64 0] 73 (0,0)) from heap_alloc_new w _)
 obtain ⟨z,hz⟩ : ∃ z,w.heap.size = z:=⟨_,rfl⟩
 have HZ:=hid hz
 have hs1 : (w.alloc (.cells #[.int .i64 0,.string ⟨#[]⟩,.int .i64 0,.int .i64 0] 73)).heap.size = z + 1:=by rw [← hz];exact Array.size_push _
 rw [hz] at HB1 HZ1 hq ⊢
 clear hz
 generalize w.alloc (.cells #[.int .i64 0,.string ⟨#[]⟩,.int .i64 0,.int .i64 0] 73) = w1 at *
 have HS1:=hid (HST.out.below hq HB1.out)
 refine (HPK.out w1 HS1.out).mono ?_
 rintro e w2 ⟨⟨a,rfl⟩,hb2⟩
 have HS2:=hid (HS1.out.below (by omega) hb2)
 have HZ2:=hid ((hb2.block z (by omega)).trans HZ1.out)
 have hz2 : z + 1 ≤ w2.heap.size:=by rw [← hs1];exact hb2.size
 have HB2:=hid (HB1.out.trans (bl_least hb2 (by omega)))
 clear hb2 HST HS1 HZ1 HB1 hs1
 go_upto_region 2 with fail
 obtain ⟨y,hy⟩ : ∃ y,w2.heap.size = y:=⟨_,rfl⟩
 have HB3:=hid (show Below z w (w2.alloc (.cells #[.int .i64 k,.string x,.int .i64 m,.int .i64 a] 73)) from HB2.out.alloc (by omega) _)
 have HS3:=hid (HS2.out.below (B:=y) (by omega) (show Below y w2 (w2.alloc (.cells #[.int .i64 k,.string x,.int .i64 m,.int .i64 a] 73)) from (Below.refl _ w2).alloc (Nat.le_of_eq hy.symm) _))
 have HZ3:=hid (((show Below y w2 (w2.alloc (.cells #[.int .i64 k,.string x,.int .i64 m,.int .i64 a] 73)) from (Below.refl _ w2).alloc (Nat.le_of_eq hy.symm) _).block z (by omega)).trans HZ2.out)
 have HY3:=hid (show (w2.alloc (.cells #[.int .i64 k,.string x,.int .i64 m,.int .i64 a] 73)).heap[y]? = some (.cells #[.int .i64 k,.string x,.int .i64 m,.int .i64 a] 73 (0,0)) from by rw [← hy];exact heap_alloc_new w2 _)
 rw [hy] at hz2 ⊢
 clear hy HB2 HS2 HZ2
 generalize w2.alloc (.cells #[.int .i64 k,.string x,.int .i64 m,.int .i64 a] 73) = w3 at *
 have y0 : w3.cell? ⟨y,0,none⟩ = some (.int .i64 k):=blk_cell HY3.out
 have y1 : w3.cell? ⟨y,1,none⟩ = some (.string x):=blk_cell HY3.out
 have y2 : w3.cell? ⟨y,2,none⟩ = some (.int .i64 m):=blk_cell HY3.out
 have y3 : w3.cell? ⟨y,3,none⟩ = some (.int .i64 a):=blk_cell HY3.out
 have z0 : w3.cell? ⟨z,0,none⟩ = some (.int .i64 0):=blk_cell HZ3.out
 have z1 : w3.cell? ⟨z,1,none⟩ = some (.string ⟨#[]⟩):=blk_cell HZ3.out
 have z2 : w3.cell? ⟨z,2,none⟩ = some (.int .i64 0):=blk_cell HZ3.out
 have z3 : w3.cell? ⟨z,3,none⟩ = some (.int .i64 0):=blk_cell HZ3.out
 have f0 : w3.frozen? ⟨z,0,none⟩ = false:=frozen_of_row _ _ _ _ _ HZ3.out
 have f1 : w3.frozen? ⟨z,1,none⟩ = false:=frozen_of_row _ _ _ _ _ HZ3.out
 have f2 : w3.frozen? ⟨z,2,none⟩ = false:=frozen_of_row _ _ _ _ _ HZ3.out
 have f3 : w3.frozen? ⟨z,3,none⟩ = false:=frozen_of_row _ _ _ _ _ HZ3.out
 cases r with
 | nil=>
   have hk6 : (k != 6) = false:=by rw [← HKR.out];rfl
   go_wp2_with fail
   refine bodyPost_ret (v:=.agg #[.int .i64 k,.string x,.int .i64 m,.int .i64 a]) (results_c1 rfl _ _ _ ⟨z,0,none⟩ _ rfl (tok_load _ _ _ _ _ _ (set4 HZ3.out _ _ _ _))) rfl ?_
   exact ⟨⟨a,rfl⟩,HS3.out.below hq (below4 (Below.refl _ _) _ _ _ _),by rw [HZ.out];exact Kx.of (below4 HB3.out _ _ _ _) (Nat.le_refl _)⟩
 | cons t r=>
   have hk6 : (k != 6) = true:=by
     rw [← HKR.out]
     obtain ⟨A,n,c,i,tks,-,-,-,-,-,-,h7⟩:=HS3.out
     have:=h7 t (List.mem_cons_self ..)
     show (t.kind != 6) = true
     unfold Gd at this
     simp only [bne_iff_ne,ne_eq]
     omega
   obtain ⟨i,c1,hi,hst⟩:=HS3.out.next
   have HS4:=hid hst
   have fq : w3.frozen? ⟨q,1,none⟩ = false:=HS3.out.free 1
   have hw : IntKind.i64.wrap ((i : Int) + 1) = (i : Int) + 1:=by rw [IntKind.wrap_i64];omega
   have hqy : q ≠ y:=by omega
   have hqz : q ≠ z:=by omega
   clear hst HS3
   go_wp2_with fail
   have HZ5:=hid (show (w3.setCell ⟨q,1,none⟩ (.int .i64 ((i : Int) + 1))).heap[z]? = some (.cells #[.int .i64 0,.string ⟨#[]⟩,.int .i64 0,.int .i64 0] 73 (0,0)) from (Below.heap_setCell w3 ⟨q,1,none⟩ _ z hqz.symm).trans HZ3.out)
   have HK5:=hid (show Kx q q z w (w3.setCell ⟨q,1,none⟩ (.int .i64 ((i : Int) + 1))) from (Kx.of HB3.out (Nat.le_refl _)).set (.inl rfl) _)
   refine bodyPost_ret (v:=.agg #[.int .i64 k,.string x,.int .i64 m,.int .i64 a]) (results_c1 rfl _ _ _ ⟨z,0,none⟩ _ rfl (tok_load _ _ _ _ _ _ (set4 HZ5.out _ _ _ _))) rfl ?_
   exact ⟨⟨a,rfl⟩,HS4.out.below hq (below4 (Below.refl _ _) _ _ _ _),by rw [HZ.out];exact HK5.out.trans (Kx.of (below4 (Below.refl _ _) _ _ _ _) (Nat.le_refl _))⟩
set_option maxRecDepth 100000 in
theorem containsS_sb (xs : List Bs) (x : Bs) : Lib.containsS (xs.map sb) (sb x) = xs.contains x:=by
 have hinj : ∀ a b : Bs,sb a = sb b → a = b:=fun a b h=>by
   have:=congrArg (fun s : ByteArray=>s.data.toList) h
   simpa [sb] using this
 rw [Bool.eq_iff_iff,Lib.containsS_iff,List.mem_map,List.contains_iff_mem]
 constructor
 · rintro ⟨y,hy,e⟩
   rwa [← hinj _ _ e]
 · intro h
   exact ⟨x,h,rfl⟩
def RS (w : World) (A : Option Addr) (xs : List Bs) : Prop:=∃ b off,A = some ⟨b,off,none⟩ ∧ b < w.heap.size ∧ ∀ (j : Nat) (x : Bs),xs[j]? = some x → w.cell? ⟨b,off + j,none⟩ = some (.string (sb x))
theorem RS.below {w w' : World} {A : Option Addr} {xs : List Bs} {B : Nat} (h : RS w A xs) (hB : w.heap.size ≤ B) (hb : Below B w w') : RS w' A xs:=by
 obtain ⟨b,off,e,h1,h2⟩:=h
 exact ⟨b,off,e,Nat.lt_of_lt_of_le h1 hb.size,fun j x hj=>(hb.cell (p:=⟨b,off + j,none⟩) (Nat.lt_of_lt_of_le h1 hB)).trans (h2 j x hj)⟩
theorem RS.contains {w : World} {A : Option Addr} {xs : List Bs} (h : RS w A xs) (c : Nat) (hn : xs.length ≤ 100) (x : Bs) : Calls Tryd.prog 53 #[.slice A xs.length c,.string (sb x)] w fun e w'=>e = .returned (.bool (xs.contains x)) ∧ w' = w:=by
 obtain ⟨b,off,rfl,h1,h2⟩:=h
 have h3:=Contains_any b off xs.length c (xs.map sb) (sb x) w (by rw [List.length_map];omega) (by omega) (fun j hj=>by
   rw [List.length_map] at hj
   rw [h2 j xs[j] (List.getElem?_eq_getElem hj),List.getD_eq_getElem?_getD,List.getElem?_map,List.getElem?_eq_getElem hj]
   rfl)
 rw [List.take_of_length_le (by rw [List.length_map];omega),containsS_sb] at h3
 exact h3
set_option maxRecDepth 100000 in
theorem Is_any (q : Nat) (r : List Tk) (A : Option Addr) (c : Nat) (xs : List Bs) (w : World) (h : Stm w q r) (hx : RS w A xs) (hn : xs.length ≤ 100) :
   Calls Tryd.prog 29 #[.pointer (some ⟨q,0,none⟩),.slice A xs.length c] w fun e w'=>e = .returned (.bool (isT r xs)) ∧ Below w.heap.size w w':=by
 have hq:=h.lt
 have HST:=hid h
 have HRS:=hid hx
 clear h hx
 obtain ⟨k,hk⟩ : ∃ k,(pk r).kind = k:=⟨_,rfl⟩
 obtain ⟨t,ht⟩ : ∃ t,(pk r).text = t:=⟨_,rfl⟩
 obtain ⟨x,hx⟩ : ∃ x,sb t = x:=⟨_,rfl⟩
 obtain ⟨m,hm⟩ : ∃ m,(pk r).num = m:=⟨_,rfl⟩
 obtain ⟨n,hn'⟩ : ∃ n,xs.length = n:=⟨_,rfl⟩
 have HPK:=hid (Peek_any q r w HST.out)
 have HCO:=hid (fun W (hs : RS W A xs)=>hs.contains c hn t)
 have HIS:=hid (show isT r xs = ((k == 2 || k == 5) && xs.contains t) by rw [isT,hk,ht];rfl)
 rw [hk,ht,hx,hm] at HPK
 rw [hn',hx] at HCO
 rw [hn']
 generalize isT r xs = R at *
 clear hk ht hx hm hn' hn
 generalize xs.contains t = bb at *
 go_enter Tryd.func29,Tryd.ntmps29
 go_wp2_with fail
 refine HPK.out.mono ?_
 rintro e w2 ⟨⟨a,rfl⟩,hb2⟩
 have HR2:=hid (HRS.out.below (Nat.le_refl _) hb2)
 have HB2:=hid hb2
 clear hb2 HRS HST HPK
 go_upto_region 2 with fail
 have HB3:=hid (show Below w.heap.size w (w2.alloc (.cells #[.int .i64 k,.string x,.int .i64 m,.int .i64 a] 73)) from HB2.out.alloc HB2.out.size _)
 have HR3:=hid (HR2.out.below (Nat.le_refl _) (show Below w2.heap.size w2 (w2.alloc (.cells #[.int .i64 k,.string x,.int .i64 m,.int .i64 a] 73)) from (Below.refl _ w2).alloc (Nat.le_refl _) _))
 have HY3:=hid (show (w2.alloc (.cells #[.int .i64 k,.string x,.int .i64 m,.int .i64 a] 73)).heap[w2.heap.size]? = some (.cells #[.int .i64 k,.string x,.int .i64 m,.int .i64 a] 73 (0,0)) from heap_alloc_new w2 _)
 obtain ⟨y,hy⟩ : ∃ y,w2.heap.size = y:=⟨_,rfl⟩
 rw [hy] at HY3 ⊢
 clear hy HB2 HR2
 generalize w2.alloc (.cells #[.int .i64 k,.string x,.int .i64 m,.int .i64 a] 73) = w3 at *
 have y0 : w3.cell? ⟨y,0,none⟩ = some (.int .i64 k):=blk_cell HY3.out
 have y1 : w3.cell? ⟨y,1,none⟩ = some (.string x):=blk_cell HY3.out
 clear HY3
 have HC3:=hid (HCO.out w3 HR3.out)
 clear HCO HR3
 cases h2 : (k == 2) with
 | true=>
   have HI2:=hid (show R = bb by rw [HIS.out,h2,Bool.true_or,Bool.true_and])
   go_wp2_with (go_at_call 53;refine HC3.out.mono ?_;rintro e w4 ⟨rfl,rfl⟩)
   go_ret
   exact ⟨by rw [HI2.out];rfl,HB3.out⟩
 | false=>
   cases h5 : (k == 5) with
   | true=>
     have HI2:=hid (show R = bb by rw [HIS.out,h2,h5,Bool.false_or,Bool.true_and])
     go_wp2_with (go_at_call 53;refine HC3.out.mono ?_;rintro e w4 ⟨rfl,rfl⟩)
     go_ret
     exact ⟨by rw [HI2.out];rfl,HB3.out⟩
   | false=>
     have HI2:=hid (show R = false by rw [HIS.out,h2,h5,Bool.false_or,Bool.false_and])
     go_wp2_with fail
     go_ret
     exact ⟨by rw [HI2.out];rfl,HB3.out⟩
set_option maxRecDepth 100000 in
theorem tok_at (a0 a1 a2 a3 : Value) (W : World) : (Instr.field 73 (.agg #[a0,a1,a2,a3]) 3).run Tryd.prog W = .ok a3 W:=by kernel_rfl
set_option maxRecDepth 100000 in
theorem tok_kind (a0 a1 a2 a3 : Value) (W : World) : (Instr.field 73 (.agg #[a0,a1,a2,a3]) 0).run Tryd.prog W = .ok a0 W:=by kernel_rfl
set_option maxRecDepth 100000 in
theorem tok_text (a0 a1 a2 a3 : Value) (W : World) : (Instr.field 73 (.agg #[a0,a1,a2,a3]) 1).run Tryd.prog W = .ok a1 W:=by kernel_rfl
def tkS (r : List Tk) (x : Bs) : PS:=if isT r [x] then (r.tail,0) else (r,9)
set_option maxRecDepth 100000 in
theorem Take_any (q : Nat) (r : List Tk) (x : Bs) (w : World) (h : Stm w q r) :
   Calls Tryd.prog 54 #[.pointer (some ⟨q,0,none⟩),.string (sb x)] w fun e w'=>(∃ a,e = .returned (.agg #[.int .i64 (tkS r x).2,.int .i64 a])) ∧ Stm w' q (tkS r x).1 ∧ Kx q q w.heap.size w w':=by
 have hq:=h.lt
 have HST:=hid h
 have HIS:=hid (fun (A : Option Addr) (c : Nat) W (hs : Stm W q r) (hx : RS W A [x])=>Is_any q r A c [x] W hs hx (Nat.le_add_left 1 99))
 have HTK:=hid (show tkS r x = if isT r [x] then (r.tail,0) else (r,9) from rfl)
 have HNX:=hid (fun W (hs : Stm W q r)=>Next_any q r W hs)
 have HPK:=hid (fun W (hs : Stm W q r)=>Peek_any q r W hs)
 clear h
 obtain ⟨X,hX⟩ : ∃ X,sb x = X:=⟨_,rfl⟩
 have HX:=hid hX
 rw [hX]
 clear hX
 go_enter Tryd.func54,Tryd.ntmps54
 go_wp2_with fail
 have HB1:=hid (show Below w.heap.size w (w.alloc (.cells #[.int .i64 0,.int .i64 0] 28)) from (Below.refl _ w).alloc (Nat.le_refl _) _)
 have HF1:=hid (show Flt (w.alloc (.cells #[.int .i64 0,.int .i64 0] 28)) w.heap.size 0 0 from heap_alloc_new w _)
 have hs1 : (w.alloc (.cells #[.int .i64 0,.int .i64 0] 28)).heap.size = w.heap.size + 1:=Array.size_push _
 obtain ⟨z,hz⟩ : ∃ z,w.heap.size = z:=⟨_,rfl⟩
 have HZ:=hid hz
 rw [hz] at HB1 HF1 hq hs1 ⊢
 clear hz
 generalize w.alloc (.cells #[.int .i64 0,.int .i64 0] 28) = w1 at *
 have hl2 : Below (z + 1) w1 (w1.alloc (.cells #[.string X] 9)):=(Below.refl _ w1).alloc (Nat.le_of_eq hs1.symm) _
 have HB2:=hid (HB1.out.trans (bl_least hl2 (Nat.le_succ z)))
 have HF2:=hid (HF1.out.far (Nat.lt_succ_self z) hl2)
 have HR2:=hid (show RS (w1.alloc (.cells #[.string X] 9)) (some ⟨z + 1,0,none⟩) [x] from ⟨z + 1,0,rfl,by rw [← hs1];exact (by show _ < (w1.heap.push _).size;rw [Array.size_push];exact Nat.lt_succ_self _),fun j y hj=>by
   match j,hj with
   | 0, hj => obtain rfl : x = y:=by simpa using hj
              rw [HX.out,← hs1];exact blk_cell (heap_alloc_new w1 _)⟩)
 have hz2 : z + 1 ≤ (w1.alloc (.cells #[.string X] 9)).heap.size:=by rw [← hs1];exact hl2.size
 have HS2:=hid (HST.out.below hq HB2.out)
 clear hl2 hs1 HB1 HF1 HST
 generalize w1.alloc (.cells #[.string X] 9) = w2 at *
 refine (HIS.out (some ⟨z + 1,0,none⟩) 1 w2 HS2.out HR2.out).mono ?_
 rintro e w3 ⟨rfl,hb3⟩
 have hz3 : z + 1 ≤ w3.heap.size:=Nat.le_trans hz2 hb3.size
 have hb3':=bl_least hb3 hz2
 have HB3:=hid (HB2.out.trans (bl_least hb3' (Nat.le_succ z)))
 have HF3:=hid (HF2.out.far (Nat.lt_succ_self z) hb3')
 have HS3:=hid (HS2.out.below (by omega) hb3')
 clear hb3 hb3' HB2 HF2 HR2 HS2 HIS hz2
 cases hi : isT r [x] with
 | false=>
   go_wp2_with fail
   refine (HPK.out w3 HS3.out).mono ?_
   rintro e w4 ⟨⟨a,rfl⟩,hb4⟩
   have hfd:=tok_at (.int .i64 (pk r).kind) (.string (sb (pk r).text)) (.int .i64 (pk r).num) (.int .i64 a)
   have hb4':=bl_least hb4 hz3
   have HB4:=hid (HB3.out.trans (bl_least hb4' (Nat.le_succ z)))
   have HF4:=hid (HF3.out.far (Nat.lt_succ_self z) hb4')
   have HS4:=hid (HS3.out.below (by omega) hb4')
   have g0:=HF4.out.c0
   have g1:=HF4.out.c1
   have f0:=HF4.out.free 0
   have f1:=HF4.out.free 1
   clear hb4 hb4'
   go_wp2_with fail
   refine bodyPost_ret (v:=.agg #[.int .i64 9,.int .i64 a]) (results_c1 rfl _ _ _ ⟨z,0,none⟩ _ rfl (Flt.load (HF4.out.put 9 a))) rfl ?_
   have hbz:=((Below.refl z w4).setCell (p:=⟨z,0,none⟩) (Nat.le_refl _) (.int .i64 9)).setCell (p:=⟨z,1,none⟩) (Nat.le_refl _) (.int .i64 a)
   exact ⟨⟨a,by rw [HTK.out,hi];rfl⟩,by rw [HTK.out,hi];exact HS4.out.below hq hbz,by rw [HZ.out];exact Kx.of (HB4.out.trans hbz) (Nat.le_refl _)⟩
 | true=>
   go_wp2_with fail
   refine (HNX.out w3 HS3.out).mono ?_
   rintro e w4 ⟨⟨a,rfl⟩,hs4,hk4⟩
   have hqz : q ≠ z:=by omega
   have HF4:=hid (show Flt w4 z 0 0 from (hk4.block z (by omega) hqz.symm hqz.symm).trans HF3.out)
   have HK4:=hid (show Kx q q z w w4 from (Kx.of HB3.out (Nat.le_refl _)).trans (hk4.least (by omega)))
   have HS4:=hid hs4
   have g0:=HF4.out.c0
   have g1:=HF4.out.c1
   have f0:=HF4.out.free 0
   have f1:=HF4.out.free 1
   clear hk4 hs4
   go_wp2_with fail
   refine bodyPost_ret (v:=.agg #[.int .i64 0,.int .i64 0]) (results_c1 rfl _ _ _ ⟨z,0,none⟩ _ rfl (Flt.load (HF4.out.put 0 0))) rfl ?_
   have hbz:=((Below.refl z w4).setCell (p:=⟨z,0,none⟩) (Nat.le_refl _) (.int .i64 0)).setCell (p:=⟨z,1,none⟩) (Nat.le_refl _) (.int .i64 0)
   exact ⟨⟨0,by rw [HTK.out,hi];rfl⟩,by rw [HTK.out,hi];exact HS4.out.below hq hbz,by rw [HZ.out];exact HK4.out.trans (Kx.of hbz (Nat.le_refl _))⟩
end
end Go.Proofs.YtgmjpnnblhkbpaaDoor
namespace Go.Proofs.YtgmjpnnblhkbpaaDoor
open Go Go.RowKit Go.Sh Tx
open Go.Lib (hid)
def NewPost (l : Bs) (w : World) (e : Ending) (w' : World) : Prop:=
 Below w.heap.size w w' ∧
 ((8000 < l.length ∧ e = .returned (.tuple #[.pointer none,.agg #[.int .i64 2,.int .i64 0]])) ∨
  (l.length ≤ 8000 ∧ ∃ ts o,ScR l ts o ∧
     ((∃ f : Bs,o = some f ∧ e = .returned (.tuple #[.pointer none,.agg #[.int .i64 9,.int .i64 ((l.length - f.length : Nat) : Int)]])) ∨
      (o = none ∧ ∃ q,e = .returned (.tuple #[.pointer (some ⟨q,0,none⟩),.agg #[.int .i64 0,.int .i64 0]]) ∧ w.heap.size ≤ q ∧ Stm w' q ts))))
theorem RR_far {w w' : World} {size n base c : Nat} {t : TypeId} {A : Option Addr} {css : List (List Value)} (h : w.ownsRow base t size (.slice A n c) n css.flatten) (hl : css.length = n) (hs : ∀ cs ∈ css,cs.length = size) (hf : ∀ b,base ≤ b → b < w.heap.size → w'.heap[b]? = w.heap[b]?) : RR w' w.heap.size size A n css:=by
 refine ⟨hl,hs,?_⟩
 rcases h.2 with ⟨_,h0⟩ | ⟨g,cap,cur,hv,hbg,hh,_⟩
 · exact .inl (List.eq_nil_of_length_eq_zero (by omega))
 · injection hv with hv
   subst hv
   have hg : g < w.heap.size:=(Array.getElem?_eq_some_iff.1 hh).1
   refine .inr ⟨g,0,rfl,hg,fun i c hc j v hv=>?_⟩
   have:=h.cells (g:=g) rfl _ v (flat_at hs i c hc j v hv)
   rw [add_mk] at this
   rw [Nat.zero_add] at this ⊢
   rw [cell_heap (hf g hbg hg)]
   exact this
section
set_option maxHeartbeats 8000000
set_option maxRecDepth 100000
set_option maxRecDepth 100000 in
theorem NewStream_any (l : Bs) (w : World) : Calls Tryd.prog 12 #[.string (sb l)] w (NewPost l w):=by
 have HSC:=hid (fun W=>(Nat.lt_or_ge 8000 l.length).elim (fun h=>scan_big l W h) (fun h=>scan_any l W h))
 obtain ⟨S,hS⟩ : ∃ S,sb l = S:=⟨_,rfl⟩
 rw [hS] at HSC ⊢
 clear hS
 go_enter Tryd.func12,Tryd.ntmps12
 go_wp2_with fail
 have HB1:=hid (show Below w.heap.size w (w.alloc (.cells #[.int .i64 0,.int .i64 0] 28)) from (Below.refl _ w).alloc (Nat.le_refl _) _)
 have HF1:=hid (show Flt (w.alloc (.cells #[.int .i64 0,.int .i64 0] 28)) w.heap.size 0 0 from heap_alloc_new w _)
 have hs1 : (w.alloc (.cells #[.int .i64 0,.int .i64 0] 28)).heap.size = w.heap.size + 1:=Array.size_push _
 obtain ⟨z,hz⟩ : ∃ z,w.heap.size = z:=⟨_,rfl⟩
 have HZ:=hid hz
 rw [hz] at HB1 HF1 hs1 ⊢
 clear hz
 generalize w.alloc (.cells #[.int .i64 0,.int .i64 0] 28) = w1 at *
 refine (HSC.out w1).mono ?_
 rintro e w2 ⟨hb2,hp⟩
 rw [hs1] at hb2 hp
 have HB2:=hid (HB1.out.trans (bl_least hb2 (Nat.le_succ z)))
 have HF2:=hid (HF1.out.far (Nat.lt_succ_self z) hb2)
 have hz2 : z + 1 ≤ w2.heap.size:=by rw [← hs1];exact hb2.size
 clear hb2 hs1 HB1 HF1
 have HP:=hid hp
 have hcase : (∃ f k : Int,f ≠ 0 ∧ e = .returned (.tuple #[.slice none 0 0,.agg #[.int .i64 f,.int .i64 k]]) ∧ ∀ V,Below z w V → NewPost l w (.returned (.tuple #[.pointer none,.agg #[.int .i64 f,.int .i64 k]])) V) ∨
     (∃ ts A n c,l.length ≤ 8000 ∧ ScR l ts none ∧ ts.length ≤ 8000 ∧ e = .returned (.tuple #[.slice A n c,.agg #[.int .i64 0,.int .i64 0]]) ∧ ∃ tks : List (Tk × Int),tks.map Prod.fst = ts ++ [endT] ∧ n = tks.length ∧ w2.ownsRow (z + 1) 73 4 (.slice A n c) n (tkv tks)):=by
   rcases hp with ⟨h1,rfl⟩ | ⟨h1,ts,o,h2,⟨f,h3,rfl⟩ | ⟨rfl,h3,tks,A,n,c,h4,h5,rfl,h6⟩⟩
   · exact .inl ⟨2,0,by decide,rfl,fun V hV=>⟨by rw [HZ.out];exact hV,.inl ⟨h1,rfl⟩⟩⟩
   · exact .inl ⟨9,_,by decide,rfl,fun V hV=>⟨by rw [HZ.out];exact hV,.inr ⟨h1,ts,o,h2,.inl ⟨f,h3,rfl⟩⟩⟩⟩
   · exact .inr ⟨ts,A,n,c,h1,h2,h3,rfl,tks,h4,h5,h6⟩
 clear hp HP
 rcases hcase with ⟨f,k,hf,rfl,hpost⟩ | ⟨ts,A,n,c,hl,hsc,htl,rfl,tks,htk,hn,hown⟩
 · have hfb : (f != 0) = true:=bne_iff_ne.2 hf
   have HPO:=hid hpost
   clear hpost hf
   go_upto_region 2 with fail
   have hlb : Below w2.heap.size w2 (w2.alloc (.cells #[.int .i64 f,.int .i64 k] 28)):=(Below.refl _ w2).alloc (Nat.le_refl _) _
   have HB3:=hid (HB2.out.trans (bl_least hlb (by omega)))
   have HF3:=hid (HF2.out.far (show z < w2.heap.size by omega) hlb)
   have HG3:=hid (show Flt (w2.alloc (.cells #[.int .i64 f,.int .i64 k] 28)) w2.heap.size f k from heap_alloc_new w2 _)
   have hz3 : z + 2 ≤ (w2.alloc (.cells #[.int .i64 f,.int .i64 k] 28)).heap.size:=by
     have : (w2.alloc (.cells #[.int .i64 f,.int .i64 k] 28)).heap.size = w2.heap.size + 1:=Array.size_push _
     omega
   obtain ⟨y,hy⟩ : ∃ y,w2.heap.size = y:=⟨_,rfl⟩
   rw [hy] at HG3 ⊢
   clear hlb hy HB2 HF2
   generalize w2.alloc (.cells #[.int .i64 f,.int .i64 k] 28) = w3 at *
   have y0:=HG3.out.c0
   have y1:=HG3.out.c1
   go_upto_region 3 with fail
   go_still_tail 2,(by kernel_rfl)
   change wpList _ _ _ _ _ (World.drew _)
   have HBD:=hid (show Below z w w3.drew from HB3.out.drew)
   have HFD:=hid (show Flt w3.drew z 0 0 from HF3.out)
   clear HB3 HF3 HG3 y0 y1 hz3
   generalize w3.drew = wd at *
   have g0:=HFD.out.c0
   have g1:=HFD.out.c1
   have f0:=HFD.out.free 0
   have f1:=HFD.out.free 1
   go_wp2_with fail
   refine bodyPost_ret (v:=.tuple #[.pointer none,.agg #[.int .i64 f,.int .i64 k]]) (results_tmp_cell rfl _ _ _ ⟨z,0,none⟩ _ _ rfl rfl (Flt.load (HFD.out.put f k))) rfl ?_
   exact HPO.out _ ((HBD.out.setCell (p:=⟨z,0,none⟩) (Nat.le_refl _) _).setCell (p:=⟨z,1,none⟩) (Nat.le_refl _) _)
 · subst hn
   obtain ⟨n,hn⟩ : ∃ n,tks.length = n:=⟨_,rfl⟩
   rw [hn] at hown ⊢
   have HN:=hid hn
   have HOW:=hid hown
   clear hown hn
   go_upto_region 2 with fail
   have hlb : Below w2.heap.size w2 (w2.alloc (.cells #[.int .i64 0,.int .i64 0] 28)):=(Below.refl _ w2).alloc (Nat.le_refl _) _
   have HB3:=hid (HB2.out.trans (bl_least hlb (by omega)))
   have HF3:=hid (HF2.out.far (show z < w2.heap.size by omega) hlb)
   have HG3:=hid (show Flt (w2.alloc (.cells #[.int .i64 0,.int .i64 0] 28)) w2.heap.size 0 0 from heap_alloc_new w2 _)
   have hz3 : z + 2 ≤ (w2.alloc (.cells #[.int .i64 0,.int .i64 0] 28)).heap.size:=by
     have : (w2.alloc (.cells #[.int .i64 0,.int .i64 0] 28)).heap.size = w2.heap.size + 1:=Array.size_push _
     omega
   obtain ⟨y,hy⟩ : ∃ y,w2.heap.size = y:=⟨_,rfl⟩
   have HO3:=hid (show (w2.alloc (.cells #[.int .i64 0,.int .i64 0] 28)).ownsRow (z + 1) 73 4 (.slice A n c) n (tkv tks) from HOW.out.alloc _)
   rw [hy] at HG3 ⊢
   clear hlb hy HB2 HF2 HOW
   generalize w2.alloc (.cells #[.int .i64 0,.int .i64 0] 28) = w3 at *
   have y0:=HG3.out.c0
   have hlc : Below w3.heap.size w3 (w3.alloc (.cells #[.slice A n c,.int .i64 0] 91)):=(Below.refl _ w3).alloc (Nat.le_refl _) _
   have HB4:=hid (HB3.out.trans (bl_least hlc (by omega)))
   have HF4:=hid (HF3.out.far (show z < w3.heap.size by omega) hlc)
   have hq4 : (w3.alloc (.cells #[.slice A n c,.int .i64 0] 91)).heap[w3.heap.size]? = some (.cells #[.slice A n c,.int .i64 ((0 : Nat) : Int)] 91 (0,0)):=heap_alloc_new w3 _
   have hnn : n ≤ c:=by
     rcases HO3.out.2 with ⟨h,h0⟩ | ⟨g,cap,cur,hv,_,_,hcap,_⟩
     · injection h with h1 h2 h3;omega
     · injection hv with _ _ h3;omega
   have HN5:=hid (show tks.length = ts.length + 1 by have:=congrArg List.length htk;simpa using this)
   have HRR:=hid (fun (W : World) (hf : ∀ b,z + 1 ≤ b → b < w3.heap.size → W.heap[b]? = w3.heap[b]?)=>RR_far HO3.out (by rw [List.length_map];exact HN.out) (fun cs hcs=>by obtain ⟨t,_,rfl⟩:=List.mem_map.1 hcs;rfl) hf)
   have HC4:=hid hlc
   have HQ4:=hid hq4
   obtain ⟨q,hq⟩ : ∃ q,w3.heap.size = q:=⟨_,rfl⟩
   rw [hq] at HRR HC4 HQ4 hz3
   have g0:=HF4.out.c0
   have g1:=HF4.out.c1
   have f0:=HF4.out.free 0
   have f1:=HF4.out.free 1
   clear hlc hq4 HB3 HF3 HG3 HO3
   have HQ:=hid hq
   go_wp2_with fail
   generalize w3.alloc (.cells #[.slice A n c,.int .i64 0] 91) = w4 at *
   refine bodyPost_ret (v:=.tuple #[.pointer (some ⟨q,0,none⟩),.agg #[.int .i64 0,.int .i64 0]]) (results_tmp_cell rfl _ _ _ ⟨z,0,none⟩ _ _ rfl rfl (Flt.load (HF4.out.put 0 0))) rfl ?_
   have hfar : ∀ b,b ≠ z → ((w4.setCell ⟨z,0,none⟩ (.int .i64 0)).setCell ⟨z,1,none⟩ (.int .i64 0)).heap[b]? = w4.heap[b]?:=fun b hb=>(Below.heap_setCell _ ⟨z,1,none⟩ _ b hb).trans (Below.heap_setCell w4 ⟨z,0,none⟩ _ b hb)
   refine ⟨?_,Or.inr ⟨hl,ts,none,hsc,Or.inr ⟨rfl,q,rfl,by rw [HZ.out];omega,A,n,c,0,tks,(hfar q (by omega)).trans HQ4.out,HRR.out _ (fun b hb hb2=>?_),?_,hnn,?_,by rw [List.drop_zero];exact htk,hsc.gd⟩⟩⟩
   · rw [HZ.out]
     exact (HB4.out.setCell (p:=⟨z,0,none⟩) (Nat.le_refl _) _).setCell (p:=⟨z,1,none⟩) (Nat.le_refl _) _
   · exact (hfar b (by omega)).trans (HC4.out.block b (by have:=HQ.out;omega))
   · have:=HN.out;have:=HN5.out;omega
   · have:=HN.out;have:=HN5.out;omega
end
end Go.Proofs.YtgmjpnnblhkbpaaDoor
namespace Go.Proofs.YtgmjpnnblhkbpaaDoor
open Go Go.RowKit Go.Sh Tx
open Go.Lib (hid)
structure Ps (w : World) (p q : Nat) (s : PS) (b k : Nat) : Prop where
 blk : ∃ a : Int,w.heap[p]? = some (.cells #[.pointer (some ⟨q,0,none⟩),.int .i64 s.2,.int .i64 a,.int .i64 (b : Int),.int .i64 (k : Int)] 49 (0,0))
 stm : Stm w q s.1
 lt : q < p
 hb : b ≤ 13
 hk : k ≤ 13
section
variable {w w' : World} {p q b k B : Nat} {s : PS}
theorem Ps.size (h : Ps w p q s b k) : p < w.heap.size:=by obtain ⟨a,h⟩:=h.blk;exact (Array.getElem?_eq_some_iff.1 h).1
theorem Ps.below (h : Ps w p q s b k) (hp : p < B) (hb : Below B w w') : Ps w' p q s b k:=by
 obtain ⟨⟨a,h1⟩,h2,h3,h4,h5⟩:=h
 exact ⟨⟨a,(hb.block p hp).trans h1⟩,h2.below (by omega) hb,h3,h4,h5⟩
theorem Ps.drew (h : Ps w p q s b k) : Ps w.drew p q s b k:=⟨h.blk,h.stm,h.lt,h.hb,h.hk⟩
theorem Ps.c0 (h : Ps w p q s b k) : w.cell? ⟨p,0,none⟩ = some (.pointer (some ⟨q,0,none⟩)):=by obtain ⟨a,h⟩:=h.blk;exact blk_cell h
theorem Ps.c1 (h : Ps w p q s b k) : w.cell? ⟨p,1,none⟩ = some (.int .i64 s.2):=by obtain ⟨a,h⟩:=h.blk;exact blk_cell h
theorem Ps.c2 (h : Ps w p q s b k) : ∃ a : Int,w.cell? ⟨p,2,none⟩ = some (.int .i64 a):=by obtain ⟨a,h⟩:=h.blk;exact ⟨a,blk_cell h⟩
theorem Ps.c3 (h : Ps w p q s b k) : w.cell? ⟨p,3,none⟩ = some (.int .i64 (b : Int)):=by obtain ⟨a,h⟩:=h.blk;exact blk_cell h
theorem Ps.c4 (h : Ps w p q s b k) : w.cell? ⟨p,4,none⟩ = some (.int .i64 (k : Int)):=by obtain ⟨a,h⟩:=h.blk;exact blk_cell h
theorem Ps.free (h : Ps w p q s b k) (i : Nat) : w.frozen? ⟨p,i,none⟩ = false:=by obtain ⟨a,h⟩:=h.blk;exact frozen_of_row _ _ i _ _ h
theorem Ps.moved {r : List Tk} (h : Ps w p q s b k) (hs : Stm w' q r) (hk : Kx q q B w w') (hp : p < B) : Ps w' p q (r,s.2) b k:=by
 obtain ⟨a,h1⟩:=h.blk
 have:=h.lt
 exact ⟨⟨a,(hk.block p hp (by omega) (by omega)).trans h1⟩,hs,h.lt,h.hb,h.hk⟩
theorem Ps.fault (h : Ps w p q s b k) (e a : Int) : Ps ((w.setCell ⟨p,1,none⟩ (.int .i64 e)).setCell ⟨p,2,none⟩ (.int .i64 a)) p q (s.1,e) b k:=by
 obtain ⟨⟨a0,h1⟩,h2,h3,h4,h5⟩:=h
 refine ⟨⟨a,blk_set (blk_set h1 _) _⟩,h2.keep fun i hi=>?_,h3,h4,h5⟩
 exact (Below.heap_setCell _ ⟨p,2,none⟩ _ i (by show i ≠ p;omega)).trans (Below.heap_setCell w ⟨p,1,none⟩ _ i (by show i ≠ p;omega))
theorem Ps.parens (h : Ps w p q s b k) (k' : Nat) (hk : k' ≤ 13) : Ps (w.setCell ⟨p,4,none⟩ (.int .i64 (k' : Int))) p q s b k':=by
 obtain ⟨⟨a0,h1⟩,h2,h3,h4,h5⟩:=h
 refine ⟨⟨a0,blk_set h1 _⟩,h2.keep fun i hi=>?_,h3,h4,hk⟩
 exact Below.heap_setCell w ⟨p,4,none⟩ _ i (by show i ≠ p;omega)
theorem Ps.bodies (h : Ps w p q s b k) (b' : Nat) (hb : b' ≤ 13) : Ps (w.setCell ⟨p,3,none⟩ (.int .i64 (b' : Int))) p q s b' k:=by
 obtain ⟨⟨a0,h1⟩,h2,h3,h4,h5⟩:=h
 refine ⟨⟨a0,blk_set h1 _⟩,h2.keep fun i hi=>?_,h3,hb,h5⟩
 exact Below.heap_setCell w ⟨p,3,none⟩ _ i (by show i ≠ p;omega)
end
section
set_option maxHeartbeats 8000000
set_option maxRecDepth 100000
variable (p q b k : Nat)
set_option maxRecDepth 100000 in
theorem ok_any (s : PS) (w : World) (h : Ps w p q s b k) : Calls Tryd.prog 15 #[.pointer (some ⟨p,0,none⟩)] w fun e w'=>e = .returned (.bool (s.2 == 0)) ∧ w' = w:=by
 have c1:=h.c1
 clear h
 go_enter Tryd.func15,Tryd.ntmps15
 go_wp2_with fail
 go_ret
 exact ⟨rfl,rfl⟩
set_option maxRecDepth 100000 in
theorem fail_any (s : PS) (x : Int) (w : World) (h : Ps w p q s b k) : Calls Tryd.prog 37 #[.pointer (some ⟨p,0,none⟩),.int .i64 x] w fun e w'=>e = .returned (.tuple #[]) ∧ Ps w' p q (failS s x) b k ∧ Kx q p w.heap.size w w':=by
 have HPS:=hid h
 have HOK:=hid (ok_any p q b k s w h)
 have HPK:=hid (Peek_any q s.1 w h.stm)
 have hp:=h.size
 have c0:=h.c0
 have HFS:=hid (show failS s x = if s.2 = 0 then (s.1,x) else s from rfl)
 clear h
 cases hs : (s.2 == 0) with
 | false=>
   have hne : s.2 ≠ 0:=beq_eq_false_iff_ne.1 hs
   rw [hs] at HOK
   have HE:=hid (show failS s x = s by rw [HFS.out,if_neg hne])
   clear hs hne
   go_enter Tryd.func37,Tryd.ntmps37
   go_wp2_with (go_at_call 15;refine HOK.out.mono ?_;rintro e w2 ⟨rfl,rfl⟩)
   go_end0
   exact ⟨rfl,by rw [HE.out];exact HPS.out,Kx.refl⟩
 | true=>
   have hne : s.2 = 0:=beq_iff_eq.1 hs
   rw [hs] at HOK
   have HE:=hid (show failS s x = (s.1,x) by rw [HFS.out,if_pos hne])
   clear hs hne
   have hfd:=fun (W : World) (a : Int)=>tok_at (.int .i64 (pk s.1).kind) (.string (sb (pk s.1).text)) (.int .i64 (pk s.1).num) (.int .i64 a) W
   generalize (pk s.1).kind = k1 at *
   generalize sb (pk s.1).text = t1 at *
   generalize (pk s.1).num = m1 at *
   go_enter Tryd.func37,Tryd.ntmps37
   go_wp2_with (go_at_call 15;refine HOK.out.mono ?_;rintro e w2 ⟨rfl,rfl⟩)
   refine HPK.out.mono ?_
   rintro e w3 ⟨⟨a,rfl⟩,hb3⟩
   have hfd2:=fun W=>hfd W a
   have HP3:=hid (HPS.out.below hp hb3)
   have g1:=HP3.out.c1
   obtain ⟨a2,g2⟩:=HP3.out.c2
   have f1:=HP3.out.free 1
   have f2:=HP3.out.free 2
   have HB3:=hid hb3
   clear hb3 hfd
   go_wp2_with fail
   go_end0
   refine ⟨rfl,by rw [HE.out];exact HP3.out.fault x a,?_⟩
   exact ((Kx.of HB3.out (Nat.le_refl _)).set (.inr (.inl rfl)) _).set (.inr (.inl rfl)) _
set_option maxRecDepth 100000 in
theorem sees_any (s : PS) (A : Option Addr) (c : Nat) (xs : List Bs) (w : World) (h : Ps w p q s b k) (hx : RS w A xs) (hn : xs.length ≤ 100) : Calls Tryd.prog 13 #[.pointer (some ⟨p,0,none⟩),.slice A xs.length c] w fun e w'=>e = .returned (.bool (sees s xs)) ∧ Below w.heap.size w w':=by
 have HOK:=hid (ok_any p q b k s w h)
 have HIS:=hid (Is_any q s.1 A c xs w h.stm hx hn)
 have c0:=h.c0
 have HSE:=hid (show sees s xs = (decide (s.2 = 0) && isT s.1 xs) from rfl)
 generalize sees s xs = R at *
 generalize isT s.1 xs = I at *
 generalize xs.length = n at *
 clear h hx hn
 cases hs : (s.2 == 0) with
 | false=>
   have hne : s.2 ≠ 0:=beq_eq_false_iff_ne.1 hs
   rw [hs] at HOK
   have HE:=hid (show R = false by rw [HSE.out,decide_eq_false hne,Bool.false_and])
   clear hs hne HSE
   go_enter Tryd.func13,Tryd.ntmps13
   go_wp2_with (go_at_call 15;refine HOK.out.mono ?_;rintro e w2 ⟨rfl,rfl⟩)
   go_ret
   exact ⟨by rw [HE.out];rfl,Below.refl _ _⟩
 | true=>
   have hne : s.2 = 0:=beq_iff_eq.1 hs
   rw [hs] at HOK
   have HE:=hid (show R = I by rw [HSE.out,decide_eq_true hne,Bool.true_and])
   clear hs hne HSE
   go_enter Tryd.func13,Tryd.ntmps13
   go_wp2_with (go_at_call 15;refine HOK.out.mono ?_;rintro e w2 ⟨rfl,rfl⟩)
   refine HIS.out.mono ?_
   rintro e w3 ⟨rfl,hb3⟩
   have HB3:=hid hb3
   clear hb3
   go_wp2_with fail
   go_ret
   exact ⟨by rw [HE.out];rfl,HB3.out⟩
set_option maxRecDepth 100000 in
theorem kind_any (s : PS) (x : Int) (w : World) (h : Ps w p q s b k) : Calls Tryd.prog 16 #[.pointer (some ⟨p,0,none⟩),.int .i64 x] w fun e w'=>e = .returned (.bool (knd s x)) ∧ Below w.heap.size w w':=by
 have HOK:=hid (ok_any p q b k s w h)
 have HPK:=hid (Peek_any q s.1 w h.stm)
 have c0:=h.c0
 have HSE:=hid (show knd s x = (decide (s.2 = 0) && decide ((pk s.1).kind = x)) from rfl)
 have hfd:=fun (W : World) (a : Int)=>tok_kind (.int .i64 (pk s.1).kind) (.string (sb (pk s.1).text)) (.int .i64 (pk s.1).num) (.int .i64 a) W
 generalize knd s x = R at *
 generalize (pk s.1).kind = k1 at *
 generalize sb (pk s.1).text = t1 at *
 generalize (pk s.1).num = m1 at *
 clear h
 cases hs : (s.2 == 0) with
 | false=>
   have hne : s.2 ≠ 0:=beq_eq_false_iff_ne.1 hs
   rw [hs] at HOK
   have HE:=hid (show R = false by rw [HSE.out,decide_eq_false hne,Bool.false_and])
   clear hs hne HSE
   go_enter Tryd.func16,Tryd.ntmps16
   go_wp2_with (go_at_call 15;refine HOK.out.mono ?_;rintro e w2 ⟨rfl,rfl⟩)
   go_ret
   exact ⟨by rw [HE.out];rfl,Below.refl _ _⟩
 | true=>
   have hne : s.2 = 0:=beq_iff_eq.1 hs
   rw [hs] at HOK
   have HE:=hid (show R = (k1 == x) by rw [HSE.out,decide_eq_true hne,Bool.true_and];rfl)
   clear hs hne HSE
   go_enter Tryd.func16,Tryd.ntmps16
   go_wp2_with (go_at_call 15;refine HOK.out.mono ?_;rintro e w2 ⟨rfl,rfl⟩)
   refine HPK.out.mono ?_
   rintro e w3 ⟨⟨a,rfl⟩,hb3⟩
   have hfd2:=fun W=>hfd W a
   have HB3:=hid hb3
   clear hb3 hfd
   generalize hkx : (k1 == x) = kx at *
   go_wp2_with fail
   go_ret
   exact ⟨by rw [HE.out];rfl,HB3.out⟩
set_option maxRecDepth 100000 in
theorem take_any (s : PS) (x : Bs) (w : World) (h : Ps w p q s b k) : Calls Tryd.prog 32 #[.pointer (some ⟨p,0,none⟩),.string (sb x)] w fun e w'=>e = .returned (.tuple #[]) ∧ Ps w' p q (takeS s x) b k ∧ Kx q p w.heap.size w w':=by
 have HPS:=hid h
 have HOK:=hid (ok_any p q b k s w h)
 have HTK:=hid (Take_any q s.1 x w h.stm)
 have hp:=h.size
 have c0:=h.c0
 have HFS:=hid (show takeS s x = if s.2 = 0 then tkS s.1 x else s from rfl)
 clear h
 generalize sb x = X at *
 cases hs : (s.2 == 0) with
 | false=>
   have hne : s.2 ≠ 0:=beq_eq_false_iff_ne.1 hs
   rw [hs] at HOK
   have HE:=hid (show takeS s x = s by rw [HFS.out,if_neg hne])
   clear hs hne
   go_enter Tryd.func32,Tryd.ntmps32
   go_wp2_with (go_at_call 15;refine HOK.out.mono ?_;rintro e w2 ⟨rfl,rfl⟩)
   go_end0
   exact ⟨rfl,by rw [HE.out];exact HPS.out,Kx.refl⟩
 | true=>
   have hne : s.2 = 0:=beq_iff_eq.1 hs
   rw [hs] at HOK
   have HE:=hid (show takeS s x = ((tkS s.1 x).1,(tkS s.1 x).2) by rw [HFS.out,if_pos hne])
   clear hs hne
   go_enter Tryd.func32,Tryd.ntmps32
   go_wp2_with (go_at_call 15;refine HOK.out.mono ?_;rintro e w2 ⟨rfl,rfl⟩)
   refine HTK.out.mono ?_
   rintro e w3 ⟨⟨a,rfl⟩,hs3,hk3⟩
   have HP3:=hid (HPS.out.moved hs3 hk3 hp)
   have g1:=HP3.out.c1
   obtain ⟨a2,g2⟩:=HP3.out.c2
   have f1:=HP3.out.free 1
   have f2:=HP3.out.free 2
   have HK3:=hid hk3
   clear hs3 hk3
   go_wp2_with fail
   go_end0
   refine ⟨rfl,by rw [HE.out];exact HP3.out.fault _ a,?_⟩
   exact ((HK3.out.wide (.inl rfl) (.inl rfl)).set (.inr (.inl rfl)) _).set (.inr (.inl rfl)) _
end
end Go.Proofs.YtgmjpnnblhkbpaaDoor
namespace Go.Proofs.YtgmjpnnblhkbpaaDoor
open Go Go.RowKit Go.Sh Tx
open Go.Lib (hid)
theorem RS.new (w : World) (xs : List Bs) : RS (w.alloc (.cells (xs.map fun x=>Value.string (sb x)).toArray 9)) (some ⟨w.heap.size,0,none⟩) xs:=by
 refine ⟨w.heap.size,0,rfl,by show _ < (w.heap.push _).size;rw [Array.size_push];exact Nat.lt_succ_self _,fun j x hj=>?_⟩
 rw [Nat.zero_add,blk_cell (heap_alloc_new w _)]
 simp [hj]
def alsoS (s : PS) (x : Bs) : PS:=if sees s [x] then nx s else s
theorem take_seen {s : PS} {x : Bs} (h : sees s [x] = true) : takeS s x = nx s:=by
 unfold sees at h
 rw [Bool.and_eq_true,decide_eq_true_eq] at h
 rw [takeS,if_pos h.1,if_pos h.2,nx,h.1]
theorem seen_ok {s : PS} {xs : List Bs} (h : sees s xs = true) : s.2 = 0:=by
 unfold sees at h
 rw [Bool.and_eq_true,decide_eq_true_eq] at h
 exact h.1
def RfB (w : World) (z : Nat) (v : ByteArray) (k : Int) : Prop:=w.heap[z]? = some (.cells #[.string v,.int .i64 k] 52 (0,0))
section
variable {w w' : World} {z B : Nat} {v : ByteArray} {k : Int}
set_option maxRecDepth 100000 in
theorem RfB.load (h : RfB w z v k) : (loadVar 52 ⟨z,0,none⟩).run Tryd.prog w = .ok (.agg #[.string v,.int .i64 k]) w:=by
 have h2:=run_loadVar_mid (P:=Tryd.prog) w z 0 52 [.string v,.int .i64 k] _ (blk_range h) Tryd.underlying52 rfl (by kernel_rfl)
 exact h2
theorem RfB.free (h : RfB w z v k) (i : Nat) : w.frozen? ⟨z,i,none⟩ = false:=frozen_of_row _ _ i _ _ h
theorem RfB.c0 (h : RfB w z v k) : w.cell? ⟨z,0,none⟩ = some (.string v):=blk_cell h
theorem RfB.c1 (h : RfB w z v k) : w.cell? ⟨z,1,none⟩ = some (.int .i64 k):=blk_cell h
theorem RfB.put (h : RfB w z v k) (v' : ByteArray) (k' : Int) : RfB ((w.setCell ⟨z,0,none⟩ (.string v')).setCell ⟨z,1,none⟩ (.int .i64 k')) z v' k':=blk_set (blk_set h _) _
theorem RfB.far (h : RfB w z v k) (hz : w'.heap[z]? = w.heap[z]?) : RfB w' z v k:=hz.trans h
end
theorem below2 {W V : World} {z : Nat} (h : Below z W V) (a0 a1 : Value) : Below z W ((V.setCell ⟨z,0,none⟩ a0).setCell ⟨z,1,none⟩ a1):=
 (h.setCell (p:=⟨z,0,none⟩) (Nat.le_refl _) _).setCell (p:=⟨z,1,none⟩) (Nat.le_refl _) _
section
set_option maxHeartbeats 8000000
set_option maxRecDepth 100000
variable (p q b k : Nat)
set_option maxRecDepth 100000 in
theorem also_any (s : PS) (x : Bs) (w : World) (h : Ps w p q s b k) : Calls Tryd.prog 35 #[.pointer (some ⟨p,0,none⟩),.string (sb x)] w fun e w'=>e = .returned (.bool (sees s [x])) ∧ Ps w' p q (alsoS s x) b k ∧ Kx q p w.heap.size w w':=by
 have HPS:=hid h
 have hp:=h.size
 have hb1 : Below w.heap.size w (w.alloc (.cells #[.string (sb x)] 9)):=(Below.refl _ w).alloc (Nat.le_refl _) _
 have HSE:=hid (sees_any p q b k s (some ⟨w.heap.size,0,none⟩) 1 [x] _ (h.below hp hb1) (RS.new w [x]) (Nat.le_add_left 1 99))
 have HTK:=hid (fun W (hs : Ps W p q s b k)=>take_any p q b k s x W hs)
 have HOK:=hid (fun (s : PS) W (hs : Ps W p q s b k)=>ok_any p q b k s W hs)
 have HAL:=hid (show alsoS s x = if sees s [x] then nx s else s from rfl)
 have HTS:=hid (fun h=>take_seen (s:=s) (x:=x) h)
 have HSO:=hid (fun h=>seen_ok (s:=s) (xs:=[x]) h)
 have HB1:=hid hb1
 have HZ1:=hid (show (w.alloc (.cells #[.string (sb x)] 9)).heap.size = w.heap.size + 1 from Array.size_push _)
 have HSE:=hid (show Calls Tryd.prog 13 #[.pointer (some ⟨p,0,none⟩),.slice (some ⟨w.heap.size,0,none⟩) 1 1] (w.alloc (.cells #[.string (sb x)] 9)) (fun e w'=>e = .returned (.bool (sees s [x])) ∧ Below (w.alloc (.cells #[.string (sb x)] 9)).heap.size (w.alloc (.cells #[.string (sb x)] 9)) w') from HSE.out)
 generalize sb x = X at *
 clear h hb1
 generalize sees s [x] = R at *
 cases R with
 | false=>
   have HE:=hid (show alsoS s x = s by rw [HAL.out,if_neg (by decide)])
   go_enter Tryd.func35,Tryd.ntmps35
   go_wp2_with fail
   refine HSE.out.mono ?_
   rintro e w2 ⟨rfl,hb2⟩
   have HB2:=hid (HB1.out.trans (bl_least hb2 (by rw [HZ1.out];omega)))
   clear hb2
   go_wp2_with fail
   go_ret
   exact ⟨rfl,by rw [HE.out];exact HPS.out.below hp HB2.out,Kx.of HB2.out (Nat.le_refl _)⟩
 | true=>
   have HE:=hid (show alsoS s x = nx s by rw [HAL.out,if_pos rfl])
   have HT:=hid (HTS.out rfl)
   have HS:=hid (HSO.out rfl)
   go_enter Tryd.func35,Tryd.ntmps35
   go_wp2_with fail
   refine HSE.out.mono ?_
   rintro e w2 ⟨rfl,hb2⟩
   have HB2:=hid (HB1.out.trans (bl_least hb2 (by rw [HZ1.out];omega)))
   clear hb2
   go_wp2_with fail
   refine (HTK.out w2 (HPS.out.below hp HB2.out)).mono ?_
   rintro e w3 ⟨rfl,hp3,hk3⟩
   rw [HT.out] at hp3
   have HP3:=hid hp3
   have HK3:=hid hk3
   have HO3:=hid (HOK.out _ w3 hp3)
   have hn0 : ((nx s).2 == 0) = true:=by rw [nx];exact beq_iff_eq.2 HS.out
   rw [hn0] at HO3
   clear hp3 hk3
   go_wp2_with (go_at_call 15;refine HO3.out.mono ?_;rintro e w4 ⟨rfl,rfl⟩)
   go_ret
   exact ⟨rfl,by rw [HE.out];exact HP3.out,(Kx.of HB2.out (Nat.le_refl _)).trans (HK3.out.least HB2.out.size)⟩
set_option maxRecDepth 100000 in
theorem ref_any (s : PS) (w : World) (h : Ps w p q s b k) : Calls Tryd.prog 31 #[.pointer (some ⟨p,0,none⟩)] w fun e w'=>(∃ a,e = .returned (.agg #[.string (sb (refS s).1),.int .i64 a])) ∧ Ps w' p q (refS s).2 b k ∧ Kx q p w.heap.size w w':=by
 have hp:=h.size
 have HKI:=hid (fun W (hs : Ps W p q s b k)=>kind_any p q b k s 1 W hs)
 have HFA:=hid (fun W (hs : Ps W p q s b k)=>fail_any p q b k s 9 W hs)
 have HNX:=hid (fun W (hs : Stm W q s.1)=>Next_any q s.1 W hs)
 have HRS:=hid (show refS s = if knd s 1 then ((pk s.1).text,nx s) else ([],failS s 9) from rfl)
 have HB1:=hid (show Below w.heap.size w (w.alloc (.cells #[.string ⟨#[]⟩,.int .i64 0] 52)) from (Below.refl _ w).alloc (Nat.le_refl _) _)
 have HP1:=hid (h.below hp HB1.out)
 have HR1:=hid (show RfB (w.alloc (.cells #[.string ⟨#[]⟩,.int .i64 0] 52)) w.heap.size ⟨#[]⟩ 0 from heap_alloc_new w _)
 have hs1 : (w.alloc (.cells #[.string ⟨#[]⟩,.int .i64 0] 52)).heap.size = w.heap.size + 1:=Array.size_push _
 clear h
 go_enter Tryd.func31,Tryd.ntmps31
 go_wp2_with fail
 obtain ⟨z,hz⟩ : ∃ z,w.heap.size = z:=⟨_,rfl⟩
 have HZ:=hid hz
 rw [hz] at HB1 HR1 hs1 hp ⊢
 clear hz
 generalize w.alloc (.cells #[.string ⟨#[]⟩,.int .i64 0] 52) = w1 at *
 refine (HKI.out w1 HP1.out).mono ?_
 rintro e w2 ⟨rfl,hb2⟩
 rw [hs1] at hb2
 have HB2:=hid (HB1.out.trans (bl_least hb2 (Nat.le_succ z)))
 have HP2:=hid (HP1.out.below (by omega) hb2)
 have HR2:=hid (HR1.out.far (hb2.block z (Nat.lt_succ_self z)))
 have hz2 : z + 1 ≤ w2.heap.size:=by rw [← hs1];exact hb2.size
 clear hb2 hs1 HB1 HP1 HR1 HKI
 cases hk : knd s 1 with
 | false=>
   go_wp2_with fail
   refine (HFA.out w2 HP2.out).mono ?_
   rintro e w3 ⟨rfl,hp3,hk3⟩
   have hqz : z ≠ q ∧ z ≠ p:=by have:=HP2.out.lt;omega
   have HR3:=hid (HR2.out.far (hk3.block z hz2 hqz.1 hqz.2))
   have HP3:=hid hp3
   have HK3:=hid ((Kx.of HB2.out (Nat.le_refl _)).trans (hk3.least (by omega)))
   have g0:=HR3.out.c0
   have g1:=HR3.out.c1
   have f0:=HR3.out.free 0
   have f1:=HR3.out.free 1
   clear hp3 hk3
   go_wp2_with fail
   refine bodyPost_ret (v:=.agg #[.string ⟨#[]⟩,.int .i64 0]) (results_c1 rfl _ _ _ ⟨z,0,none⟩ _ rfl (HR3.out.put ⟨#[]⟩ 0).load) rfl ?_
   have hbz:=below2 (Below.refl z w3) (.string ⟨#[]⟩) (.int .i64 0)
   rw [HRS.out,if_neg (by rw [hk];decide)]
   exact ⟨⟨0,rfl⟩,HP3.out.below hp hbz,by rw [HZ.out];exact HK3.out.trans (Kx.of hbz (Nat.le_refl _))⟩
 | true=>
   have c0:=HP2.out.c0
   have HMV:=hid (fun (W : World) (hs : Stm W q s.1.tail) (hk : Kx q q w2.heap.size w2 W)=>HP2.out.moved hs hk (by omega))
   have HMN:=hid (fun W hs=>HNX.out W hs)
   obtain ⟨t1,ht1⟩ : ∃ t1,sb (pk s.1).text = t1:=⟨_,rfl⟩
   rw [ht1] at HMN
   have HT1:=hid ht1
   clear ht1 HNX
   generalize (pk s.1).kind = k1 at *
   generalize (pk s.1).num = m1 at *
   go_wp2_with fail
   refine (HMN.out w2 HP2.out.stm).mono ?_
   rintro e w3 ⟨⟨a,rfl⟩,hs3,hk3⟩
   have hqz : z ≠ q ∧ z ≠ p:=by have:=HP2.out.lt;omega
   have HP3:=hid (HMV.out w3 hs3 hk3)
   have HR3:=hid (HR2.out.far (hk3.block z hz2 hqz.1 hqz.1))
   have HK3:=hid ((Kx.of HB2.out (Nat.le_refl _)).trans ((hk3.wide (.inl rfl) (.inl rfl)).least (by omega)) : Kx q p z w w3)
   have hz3 : z + 1 ≤ w3.heap.size:=Nat.le_trans hz2 hk3.size
   clear hs3 hk3 HMV
   go_upto_region 5 with fail
   have hla : Below w3.heap.size w3 (w3.alloc (.cells #[.int .i64 k1,.string t1,.int .i64 m1,.int .i64 a] 73)):=(Below.refl _ w3).alloc (Nat.le_refl _) _
   have HR4:=hid (HR3.out.far (hla.block z hz3))
   have HP4:=hid (HP3.out.below (by omega) hla)
   have HK4:=hid (HK3.out.trans (Kx.of hla (by omega)))
   have hy4 : (w3.alloc (.cells #[.int .i64 k1,.string t1,.int .i64 m1,.int .i64 a] 73)).heap[w3.heap.size]? = some (.cells #[.int .i64 k1,.string t1,.int .i64 m1,.int .i64 a] 73 (0,0)):=heap_alloc_new w3 _
   have y1 : (w3.alloc (.cells #[.int .i64 k1,.string t1,.int .i64 m1,.int .i64 a] 73)).cell? ⟨w3.heap.size,1,none⟩ = some (.string t1):=blk_cell hy4
   have y3 : (w3.alloc (.cells #[.int .i64 k1,.string t1,.int .i64 m1,.int .i64 a] 73)).cell? ⟨w3.heap.size,3,none⟩ = some (.int .i64 a):=blk_cell hy4
   clear hla hy4 HR3 HP3 HK3
   generalize w3.alloc (.cells #[.int .i64 k1,.string t1,.int .i64 m1,.int .i64 a] 73) = w4 at *
   have g0:=HR4.out.c0
   have g1:=HR4.out.c1
   have f0:=HR4.out.free 0
   have f1:=HR4.out.free 1
   go_wp2_with fail
   refine bodyPost_ret (v:=.agg #[.string t1,.int .i64 a]) (results_c1 rfl _ _ _ ⟨z,0,none⟩ _ rfl (HR4.out.put t1 a).load) rfl ?_
   have hbz:=below2 (Below.refl z w4) (.string t1) (.int .i64 a)
   rw [HRS.out,if_pos hk]
   exact ⟨⟨a,by rw [HT1.out]⟩,HP4.out.below hp hbz,by rw [HZ.out];exact HK4.out.trans (Kx.of hbz (Nat.le_refl _))⟩
end
end Go.Proofs.YtgmjpnnblhkbpaaDoor
namespace Go.Proofs.YtgmjpnnblhkbpaaDoor
open Go Go.RowKit Go.Sh Tx
open Go.Lib (hid)
section
set_option maxHeartbeats 8000000
set_option maxRecDepth 100000
variable (p q b k : Nat)
set_option maxRecDepth 100000 in
theorem shut_any (s : PS) (w : World) (h : Ps w p q s b (k + 1)) : Calls Tryd.prog 75 #[.pointer (some ⟨p,0,none⟩)] w fun e w'=>e = .returned (.tuple #[]) ∧ Ps w' p q (takeS s kRp) b k ∧ Kx q p w.heap.size w w':=by
 have HTK:=hid (show Calls Tryd.prog 32 #[.pointer (some ⟨p,0,none⟩),.string ⟨#[41]⟩] w _ from take_any p q b (k + 1) s kRp w h)
 have hk13:=h.hk
 clear h
 go_enter Tryd.func75,Tryd.ntmps75
 go_wp2_with fail
 refine HTK.out.mono ?_
 rintro e w2 ⟨rfl,hp2,hk2⟩
 have HP2:=hid hp2
 have HK2:=hid hk2
 have c4:=hp2.c4
 have f4:=hp2.free 4
 have hw : IntKind.i64.wrap (((k + 1 : Nat) : Int) - 1) = (k : Int):=by rw [IntKind.wrap_i64];omega
 clear hp2 hk2
 go_wp2_with fail
 go_end0
 exact ⟨rfl,HP2.out.parens k (by omega),HK2.out.set (.inr (.inl rfl)) _⟩
set_option maxRecDepth 100000 in
theorem open_any (s : PS) (w : World) (h : Ps w p q s b k) (hk12 : k ≤ 12) : Calls Tryd.prog 74 #[.pointer (some ⟨p,0,none⟩)] w fun e w'=>e = .returned (.tuple #[]) ∧ Ps w' p q (openS k s) b (k + 1) ∧ Kx q p w.heap.size w w':=by
 have hp:=h.size
 have HPS:=hid h
 have hb1 : Below w.heap.size w (w.alloc (.cells #[.string ⟨#[40]⟩] 9)):=(Below.refl _ w).alloc (Nat.le_refl _) _
 have HSE:=hid (show Calls Tryd.prog 13 #[.pointer (some ⟨p,0,none⟩),.slice (some ⟨w.heap.size,0,none⟩) 1 1] (w.alloc (.cells #[.string ⟨#[40]⟩] 9)) (fun e w'=>e = .returned (.bool (sees s [kLp])) ∧ Below (w.alloc (.cells #[.string ⟨#[40]⟩] 9)).heap.size (w.alloc (.cells #[.string ⟨#[40]⟩] 9)) w') from sees_any p q b k s (some ⟨w.heap.size,0,none⟩) 1 [kLp] _ (h.below hp hb1) (RS.new w [kLp]) (Nat.le_add_left 1 99))
 have HZ1:=hid (show (w.alloc (.cells #[.string ⟨#[40]⟩] 9)).heap.size = w.heap.size + 1 from Array.size_push _)
 have HB1:=hid hb1
 have HTK:=hid (fun (s : PS) W (hs : Ps W p q s b k)=>(show Calls Tryd.prog 32 #[.pointer (some ⟨p,0,none⟩),.string ⟨#[40]⟩] W _ from take_any p q b k s kLp W hs))
 have HFA:=hid (fun W (hs : Ps W p q s b k)=>fail_any p q b k s 11 W hs)
 have HOS:=hid (show openS k s = takeS (if sees s [kLp] && decide (k = 12) then failS s 11 else s) kLp from rfl)
 have hw : IntKind.i64.wrap ((k : Int) + 1) = ((k + 1 : Nat) : Int):=by rw [IntKind.wrap_i64];omega
 clear h hb1
 generalize sees s [kLp] = R at *
 have fin : ∀ (s' : PS) (w4 : World),openS k s = takeS s' kLp → Ps w4 p q (takeS s' kLp) b k → Kx q p w.heap.size w w4 → Ps (w4.setCell ⟨p,4,none⟩ (.int .i64 ((k + 1 : Nat) : Int))) p q (openS k s) b (k + 1) ∧ Kx q p w.heap.size w (w4.setCell ⟨p,4,none⟩ (.int .i64 ((k + 1 : Nat) : Int))):=fun s' w4 e hp hk=>⟨by rw [e];exact hp.parens (k + 1) (by omega),hk.set (.inr (.inl rfl)) _⟩
 have HFI:=hid fin
 clear fin
 cases hc : (R && decide (k = 12)) with
 | true=>
   rw [Bool.and_eq_true,decide_eq_true_eq] at hc
   obtain ⟨hR,hk⟩:=hc
   have HE:=hid (show openS k s = takeS (failS s 11) kLp by rw [HOS.out,hR,decide_eq_true hk];rfl)
   have hk2 : ((k : Int) == 12) = true:=beq_iff_eq.2 (by omega)
   clear hk HOS
   rw [hR] at HSE
   clear hR
   go_enter Tryd.func74,Tryd.ntmps74
   go_wp2_with fail
   refine HSE.out.mono ?_
   rintro e w2 ⟨rfl,hb2⟩
   have HB2:=hid (HB1.out.trans (bl_least hb2 (by rw [HZ1.out];omega)))
   have HP2:=hid (HPS.out.below hp HB2.out)
   have c4:=HP2.out.c4
   clear hb2
   go_wp2_with fail
   refine (HFA.out w2 HP2.out).mono ?_
   rintro e w3 ⟨rfl,hp3,hk3⟩
   have HP3:=hid hp3
   have HK3:=hid ((Kx.of HB2.out (Nat.le_refl _)).trans (hk3.least HB2.out.size))
   clear hp3 hk3
   go_wp2_with fail
   refine (HTK.out _ w3 HP3.out).mono ?_
   rintro e w4 ⟨rfl,hp4,hk4⟩
   have HP4:=hid hp4
   have HK4:=hid (HK3.out.trans (hk4.least HK3.out.size))
   have d4:=hp4.c4
   have f4:=hp4.free 4
   clear hp4 hk4
   go_wp2_with fail
   go_end0
   exact ⟨rfl,HFI.out _ _ HE.out HP4.out HK4.out⟩
 | false=>
   have HE:=hid (show openS k s = takeS s kLp by rw [HOS.out,hc];rfl)
   clear HOS
   have rest : ∀ (Q : Prop),((R = false) → Q) → ((R = true ∧ ((k : Int) == 12) = false) → Q) → Q:=fun Q h1 h2=>by
     cases R with
     | false=>exact h1 rfl
     | true=>
       rw [Bool.true_and,decide_eq_false_iff_not] at hc
       exact h2 ⟨rfl,beq_eq_false_iff_ne.2 (by omega)⟩
   clear hc
   refine rest _ (fun hR=>?_) (fun hR=>?_)
   · rw [hR] at HSE
     clear hR rest
     go_enter Tryd.func74,Tryd.ntmps74
     go_wp2_with fail
     refine HSE.out.mono ?_
     rintro e w2 ⟨rfl,hb2⟩
     have HB2:=hid (HB1.out.trans (bl_least hb2 (by rw [HZ1.out];omega)))
     have HP2:=hid (HPS.out.below hp HB2.out)
     clear hb2
     go_wp2_with fail
     refine (HTK.out _ w2 HP2.out).mono ?_
     rintro e w4 ⟨rfl,hp4,hk4⟩
     have HP4:=hid hp4
     have HK4:=hid ((Kx.of HB2.out (Nat.le_refl _)).trans (hk4.least HB2.out.size))
     have d4:=hp4.c4
     have f4:=hp4.free 4
     clear hp4 hk4
     go_wp2_with fail
     go_end0
     exact ⟨rfl,HFI.out _ _ HE.out HP4.out HK4.out⟩
   · obtain ⟨hR,hk2⟩:=hR
     rw [hR] at HSE
     clear hR rest
     go_enter Tryd.func74,Tryd.ntmps74
     go_wp2_with fail
     refine HSE.out.mono ?_
     rintro e w2 ⟨rfl,hb2⟩
     have HB2:=hid (HB1.out.trans (bl_least hb2 (by rw [HZ1.out];omega)))
     have HP2:=hid (HPS.out.below hp HB2.out)
     have c4:=HP2.out.c4
     clear hb2
     go_wp2_with fail
     refine (HTK.out _ w2 HP2.out).mono ?_
     rintro e w4 ⟨rfl,hp4,hk4⟩
     have HP4:=hid hp4
     have HK4:=hid ((Kx.of HB2.out (Nat.le_refl _)).trans (hk4.least HB2.out.size))
     have d4:=hp4.c4
     have f4:=hp4.free 4
     clear hp4 hk4
     go_wp2_with fail
     go_end0
     exact ⟨rfl,HFI.out _ _ HE.out HP4.out HK4.out⟩
set_option maxRecDepth 100000 in
theorem tag_any (s : PS) (w : World) (h : Ps w p q s b k) : Calls Tryd.prog 58 #[.pointer (some ⟨p,0,none⟩)] w fun e w'=>(∃ a,e = .returned (.agg #[.string (sb (tagS s).1),.int .i64 a])) ∧ Ps w' p q (tagS s).2 b k ∧ Kx q p w.heap.size w w':=by
 have hp:=h.size
 have HAL:=hid (fun W (hs : Ps W p q s b k)=>(show Calls Tryd.prog 35 #[.pointer (some ⟨p,0,none⟩),.string ⟨#[97,115]⟩] W _ from also_any p q b k s kAs W hs))
 have HRE:=hid (fun (s : PS) W (hs : Ps W p q s b k)=>ref_any p q b k s W hs)
 have HRS:=hid (show tagS s = if sees s [kAs] then refS (nx s) else ([],s) from rfl)
 have HAS:=hid (show alsoS s kAs = if sees s [kAs] then nx s else s from rfl)
 have HB1:=hid (show Below w.heap.size w (w.alloc (.cells #[.string ⟨#[]⟩,.int .i64 0] 52)) from (Below.refl _ w).alloc (Nat.le_refl _) _)
 have HP1:=hid (h.below hp HB1.out)
 have HR1:=hid (show RfB (w.alloc (.cells #[.string ⟨#[]⟩,.int .i64 0] 52)) w.heap.size ⟨#[]⟩ 0 from heap_alloc_new w _)
 have hs1 : (w.alloc (.cells #[.string ⟨#[]⟩,.int .i64 0] 52)).heap.size = w.heap.size + 1:=Array.size_push _
 clear h
 go_enter Tryd.func58,Tryd.ntmps58
 go_wp2_with fail
 obtain ⟨z,hz⟩ : ∃ z,w.heap.size = z:=⟨_,rfl⟩
 have HZ:=hid hz
 rw [hz] at HB1 HR1 hs1 hp ⊢
 clear hz
 generalize w.alloc (.cells #[.string ⟨#[]⟩,.int .i64 0] 52) = w1 at *
 refine (HAL.out w1 HP1.out).mono ?_
 rintro e w2 ⟨rfl,hp2,hk2⟩
 rw [hs1] at hk2
 have hqz : z ≠ q ∧ z ≠ p:=by have:=HP1.out.lt;omega
 have HP2:=hid hp2
 have HR2:=hid (HR1.out.far (hk2.block z (Nat.lt_succ_self z) hqz.1 hqz.2))
 have HK2:=hid ((Kx.of HB1.out (Nat.le_refl _)).trans (hk2.least (Nat.le_succ z)))
 have hz2 : z + 1 ≤ w2.heap.size:=by rw [← hs1];exact hk2.size
 clear hp2 hk2 hs1 HB1 HP1 HR1 HAL
 cases hk : sees s [kAs] with
 | false=>
   have HE:=hid (show alsoS s kAs = s by rw [HAS.out,hk];rfl)
   have g0:=HR2.out.c0
   have g1:=HR2.out.c1
   have f0:=HR2.out.free 0
   have f1:=HR2.out.free 1
   go_wp2_with fail
   refine bodyPost_ret (v:=.agg #[.string ⟨#[]⟩,.int .i64 0]) (results_c1 rfl _ _ _ ⟨z,0,none⟩ _ rfl (HR2.out.put ⟨#[]⟩ 0).load) rfl ?_
   have hbz:=below2 (Below.refl z w2) (.string ⟨#[]⟩) (.int .i64 0)
   rw [HRS.out,if_neg (by rw [hk];decide)]
   exact ⟨⟨0,rfl⟩,by have:=HP2.out.below hp hbz;rwa [HE.out] at this,by rw [HZ.out];exact HK2.out.trans (Kx.of hbz (Nat.le_refl _))⟩
 | true=>
   have HE:=hid (show alsoS s kAs = nx s by rw [HAS.out,hk];rfl)
   go_wp2_with fail
   refine (HRE.out _ w2 HP2.out).mono ?_
   rintro e w3 ⟨⟨a,rfl⟩,hp3,hk3⟩
   rw [HE.out] at hp3 ⊢
   obtain ⟨t1,ht1⟩ : ∃ t1,sb (refS (nx s)).1 = t1:=⟨_,rfl⟩
   rw [ht1]
   have HT1:=hid ht1
   clear ht1
   have HP3:=hid hp3
   have HR3:=hid (HR2.out.far (hk3.block z hz2 hqz.1 hqz.2))
   have HK3:=hid (HK2.out.trans (hk3.least (by omega)))
   have g0:=HR3.out.c0
   have g1:=HR3.out.c1
   have f0:=HR3.out.free 0
   have f1:=HR3.out.free 1
   clear hp3 hk3
   go_wp2_with fail
   refine bodyPost_ret (v:=.agg #[.string t1,.int .i64 a]) (results_c1 rfl _ _ _ ⟨z,0,none⟩ _ rfl (HR3.out.put t1 a).load) rfl ?_
   have hbz:=below2 (Below.refl z w3) (.string t1) (.int .i64 a)
   rw [HRS.out,if_pos hk]
   exact ⟨⟨a,by rw [HT1.out]⟩,HP3.out.below hp hbz,by rw [HZ.out];exact HK3.out.trans (Kx.of hbz (Nat.le_refl _))⟩
end
end Go.Proofs.YtgmjpnnblhkbpaaDoor
namespace Go.Proofs.YtgmjpnnblhkbpaaDoor
open Go Go.RowKit Go.Sh Tx
def RP (X : Nat → Prop) (w : World) (size : Nat) (A : Option Addr) (n : Nat) (css : List (List Value)) : Prop:=
 css.length = n ∧ (∀ cs ∈ css,cs.length = size) ∧ (css = [] ∨ ∃ b,A = some ⟨b,0,none⟩ ∧ X b ∧ ∀ (i : Nat) (cs : List Value),css[i]? = some cs → w.rangeAt b (i * size) cs)
section
variable {X Y : Nat → Prop} {w w' : World} {size n : Nat} {A : Option Addr} {css : List (List Value)}
theorem RP.keep (h : RP X w size A n css) (hb : ∀ b,X b → w'.heap[b]? = w.heap[b]?) : RP X w' size A n css:=by
 obtain ⟨h1,h2,h3⟩:=h
 refine ⟨h1,h2,h3.imp id ?_⟩
 rintro ⟨b,e,hx,hr⟩
 exact ⟨b,e,hx,fun i cs hc j v hv=>(cell_heap (hb b hx)).trans (hr i cs hc j v hv)⟩
theorem RP.mono (h : RP X w size A n css) (hb : ∀ b,X b → Y b) : RP Y w size A n css:=by
 obtain ⟨h1,h2,h3⟩:=h
 refine ⟨h1,h2,h3.imp id ?_⟩
 rintro ⟨b,e,hx,hr⟩
 exact ⟨b,e,hb b hx,hr⟩
theorem RP.rr {B : Nat} (h : RP X w size A n css) (hb : ∀ b,X b → b < B) : RR w B size A n css:=by
 obtain ⟨h1,h2,h3⟩:=h
 refine ⟨h1,h2,h3.imp id ?_⟩
 rintro ⟨b,e,hx,hr⟩
 refine ⟨b,0,e,hb b hx,fun i cs hc=>?_⟩
 rw [Nat.zero_add]
 exact hr i cs hc
theorem RP.none_ : RP X w size none 0 []:=⟨rfl,fun _ h=>(by cases h),.inl rfl⟩
theorem RP.of_own {base c : Nat} {t : TypeId} (h : w.ownsRow base t size (.slice A n c) n css.flatten) (hl : css.length = n) (hs : ∀ cs ∈ css,cs.length = size) (hx : ∀ b,A = some ⟨b,0,none⟩ → base ≤ b → b < w.heap.size → X b) : RP X w size A n css:=by
 refine ⟨hl,hs,?_⟩
 rcases h.2 with ⟨_,h0⟩ | ⟨g,cap,cur,hv,hbg,hh,_⟩
 · exact .inl (List.eq_nil_of_length_eq_zero (by omega))
 · injection hv with hv
   subst hv
   have hg : g < w.heap.size:=(Array.getElem?_eq_some_iff.1 hh).1
   refine .inr ⟨g,rfl,hx g rfl hbg hg,fun i c hc j v hv=>?_⟩
   have:=h.cells (g:=g) rfl _ v (flat_at hs i c hc j v hv)
   rw [add_mk] at this
   rwa [Nat.zero_add] at this
set_option maxRecDepth 100000 in
theorem RP.lit {b : Nat} {t : TypeId} (hb : w.heap[b]? = some (.cells css.flatten.toArray t (0,0))) (hl : css.length = n) (hs : ∀ cs ∈ css,cs.length = size) (hx : X b) : RP X w size (some ⟨b,0,none⟩) n css:=by
 refine ⟨hl,hs,.inr ⟨b,rfl,hx,fun i c hc j v hv=>?_⟩⟩
 rw [blk_cell hb]
 simpa using flat_at hs i c hc j v hv
end
def oNum : Bs:=[110,117,109,98,101,114]
def oName : Bs:=[110,97,109,101]
def oText : Bs:=[116,101,120,116]
def exOp : Ex → Bs
 | .none=>[]
 | .num _=>oNum
 | .name _=>oName
 | .text _=>oText
 | .join _=>kJoin
 | .bin o _ _=>o
def exNm : Ex → Int
 | .num n=>n
 | _=>0
def exTx : Ex → Bs
 | .name t=>t
 | .text t=>t
 | _=>[]
def exKids : Ex → List Ex
 | .join l=>l
 | .bin _ x y=>[x,y]
 | _=>[]
def exc (op : Bs) (nm : Int) (tx : Bs) (a : Int) (v : Value) : List Value:=[.string (sb op),.int .i64 nm,.string (sb tx),.int .i64 a,v]
inductive TrV (X : Nat → Prop) (w : World) : List Ex → List (List Value) → Prop where
 | nil : TrV X w [] []
 | cons {e : Ex} {l : List Ex} {css ks : List (List Value)} {a : Int} {A : Option Addr} {n c : Nat} : TrV X w (exKids e) ks → RP X w 5 A n ks → n ≤ c → TrV X w l css → TrV X w (e :: l) (exc (exOp e) (exNm e) (exTx e) a (.slice A n c) :: css)
section
variable {X Y : Nat → Prop} {w w' : World} {l m : List Ex} {css dss : List (List Value)}
theorem TrV.keep (h : TrV X w l css) (hb : ∀ b,X b → w'.heap[b]? = w.heap[b]?) : TrV X w' l css:=by
 induction h with
 | nil=>exact .nil
 | cons _ h2 h3 _ i1 i2=>exact .cons i1 (h2.keep hb) h3 i2
theorem TrV.mono (h : TrV X w l css) (hb : ∀ b,X b → Y b) : TrV Y w l css:=by
 induction h with
 | nil=>exact .nil
 | cons _ h2 h3 _ i1 i2=>exact .cons i1 (h2.mono hb) h3 i2
theorem TrV.len (h : TrV X w l css) : css.length = l.length:=by
 induction h with
 | nil=>rfl
 | cons _ _ _ _ _ i2=>simp [i2]
theorem TrV.size (h : TrV X w l css) : ∀ cs ∈ css,cs.length = 5:=by
 induction h with
 | nil=>intro cs h;cases h
 | cons _ _ _ _ _ i2=>
   intro cs h
   rcases List.mem_cons.1 h with rfl | h
   · rfl
   · exact i2 cs h
theorem TrV.cell (h : TrV X w l css) : ∀ cs ∈ css,∀ v ∈ cs,v.oneCell' = true:=by
 induction h with
 | nil=>intro cs h;cases h
 | cons _ _ _ _ _ i2=>
   intro cs h
   rcases List.mem_cons.1 h with rfl | h
   · intro v hv
     simp only [exc,List.mem_cons,List.not_mem_nil,or_false] at hv
     rcases hv with rfl | rfl | rfl | rfl | rfl <;> rfl
   · exact i2 cs h
theorem TrV.app (h : TrV X w l css) (h' : TrV X w m dss) : TrV X w (l ++ m) (css ++ dss):=by
 induction h with
 | nil=>exact h'
 | cons h1 h2 h3 _ _ i2=>exact .cons h1 h2 h3 i2
theorem TrV.one {e : Ex} {cs : List Value} (h : TrV X w [e] [cs]) : ∃ a A n c,cs = exc (exOp e) (exNm e) (exTx e) a (.slice A n c):=by
 cases h with
 | cons _ _ _ _=>exact ⟨_,_,_,_,rfl⟩
theorem TrV.leaf (e : Ex) (he : (exKids e) = []) (a : Int) : TrV X w [e] [exc (exOp e) (exNm e) (exTx e) a (.slice none 0 0)]:=.cons (by rw [he];exact .nil) RP.none_ (Nat.le_refl _) .nil
end
def Fr (w w' : World) (g : Nat) : Prop:=w.heap.size ≤ g ∧ g < w'.heap.size
def ExPost (p q b k : Nat) (c : CallE) (w : World) (e : Ending) (w' : World) : Prop:=
 ∃ (x : Ex) (s' : PS) (o t : ByteArray) (m a : Int) (A : Option Addr) (n d : Nat),RunE k c x s' ∧ e = .returned (.agg #[.string o,.int .i64 m,.string t,.int .i64 a,.slice A n d]) ∧
   TrV (Fr w w') w' [x] [[.string o,.int .i64 m,.string t,.int .i64 a,.slice A n d]] ∧ Ps w' p q s' b k ∧ Kx q p w.heap.size w w'
def mu (s : PS) : Nat:=if s.2 = 0 then s.1.length + 1 else 0
def ExOK (p q : Nat) (f : FuncId) (mk : PS → CallE) (n : Nat) : Prop:=∀ (b k : Nat) (s : PS) (w : World),mu s ≤ n → (s.2 = 0 → k ≤ 12) → Ps w p q s b k → Calls Tryd.prog f #[.pointer (some ⟨p,0,none⟩)] w (ExPost p q b k (mk s) w)
theorem seen_some {s : PS} {xs : List Bs} (h : sees s xs = true) : ∃ t r,s.1 = t :: r:=by
 obtain ⟨l,e⟩:=s
 cases l with
 | cons t r=>exact ⟨t,r,rfl⟩
 | nil=>simp [sees,isT,pk,endT] at h
theorem mu_nx {s : PS} (h : ∃ t r,s.1 = t :: r) (h0 : s.2 = 0) : mu (nx s) < mu s:=by
 obtain ⟨l,e⟩:=s
 obtain ⟨t,r,h⟩:=h
 dsimp only at h h0
 subst h h0
 simp [mu,nx]
theorem mu_fail (s : PS) {x : Int} (hx : x ≠ 0) : mu (failS s x) ≤ mu s ∧ (failS s x).2 ≠ 0:=by
 obtain ⟨l,e⟩:=s
 by_cases h : e = 0
 · subst h;simp [mu,failS,hx]
 · simp [mu,failS,h]
theorem mu_take (s : PS) (x : Bs) : mu (takeS s x) ≤ mu s:=by
 obtain ⟨l,e⟩:=s
 by_cases h : e = 0
 · subst h
   by_cases h2 : isT l [x] = true
   · simp [mu,takeS,h2]
   · simp [mu,takeS,h2]
 · simp [mu,takeS,h]
theorem take_ok {s : PS} {x : Bs} (h : (takeS s x).2 = 0) : s.2 = 0 ∧ isT s.1 [x] = true:=by
 obtain ⟨l,e⟩:=s
 by_cases h0 : e = 0
 · subst h0
   by_cases h2 : isT l [x] = true
   · exact ⟨rfl,h2⟩
   · simp [takeS,h2] at h
 · simp [takeS,h0] at h
theorem mu_open {k : Nat} (s : PS) : mu (openS k s) ≤ mu s:=by
 unfold openS
 refine Nat.le_trans (mu_take _ _) ?_
 split
 · exact (mu_fail s (by decide)).1
 · exact Nat.le_refl _
theorem open_ok {k : Nat} {s : PS} (hk : k ≤ 12) (h : (openS k s).2 = 0) : k + 1 ≤ 12 ∧ sees s [kLp] = true:=by
 unfold openS at h
 obtain ⟨h1,h2⟩:=take_ok h
 by_cases hc : (sees s [kLp] && decide (k = 12)) = true
 · rw [if_pos hc] at h1
   exact absurd h1 (mu_fail s (by decide)).2
 · rw [if_neg hc] at h1 h2
   have hs : sees s [kLp] = true:=by rw [sees,decide_eq_true h1,h2];rfl
   rw [hs,Bool.true_and,decide_eq_true_eq] at hc
   exact ⟨by omega,hs⟩
theorem mu_open_lt {k : Nat} {s : PS} (hk : k ≤ 12) (hs : sees s [kLp] = true) : mu (openS k s) < mu s:=by
 have hm : 0 < mu s:=by have:=seen_ok hs;simp [mu,this]
 by_cases h : (openS k s).2 = 0
 · have h1:=open_ok hk h
   have e : openS k s = nx s:=by
     unfold openS
     rw [if_neg (by rw [hs,Bool.true_and,decide_eq_true_eq];omega),take_seen hs]
   rw [e]
   exact mu_nx (seen_some hs) (seen_ok hs)
 · simp only [mu,if_neg h];exact hm
theorem mu_run {k : Nat} {c : CallE} {e : Ex} {s : PS} (h : RunE k c e s) : mu s ≤ mu c.st:=by
 obtain ⟨x,hx⟩:=h.suf
 unfold mu
 by_cases h0 : s.2 = 0
 · rw [if_pos h0,if_pos (h.ok h0),hx,List.length_append];omega
 · rw [if_neg h0];exact Nat.zero_le _
end Go.Proofs.YtgmjpnnblhkbpaaDoor
