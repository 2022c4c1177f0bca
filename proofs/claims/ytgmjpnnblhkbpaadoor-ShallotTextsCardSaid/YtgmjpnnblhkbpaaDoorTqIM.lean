/-
  The law ShallotTexts returns true, for every source. Conditions: the table of powers of ten is laid.
-/
import Derived.Test.YtgmjpnnblhkbpaaDoorTqHM
import Derived.Laws.StructEq
import Derived.Test.YtgmjpnnblhkbpaaDoorSqM
namespace Go.Proofs.YtgmjpnnblhkbpaaDoor
open Go Go.RowKit Go.Sh Tx
open Go.Lib (hid)
theorem ScanPost.form {l : Bs} {w w' : World} {e : Ending} (h : ScanPost l w e w') : Below w.heap.size w w' ∧
   ((∃ c a,ScnF l c a ∧ e = .returned (.tuple #[.slice none 0 0,.agg #[.int .i64 c,.int .i64 a]])) ∨
    (∃ (ts : List Tk) (tks : List (Tk × Int)) (A : Option Addr) (c0 : Nat),l.length ≤ 8000 ∧ ScR l ts none ∧ tks.map Prod.fst = ts ++ [endT] ∧ e = .returned (.tuple #[.slice A (ts.length + 1) c0,.agg #[.int .i64 0,.int .i64 0]]) ∧ RP (Fr w w') w' 4 A (ts.length + 1) (tks.map tkc))):=by
 obtain ⟨h1,h2⟩:=h
 refine ⟨h1,?_⟩
 rcases h2 with ⟨h3,rfl⟩ | ⟨h3,ts,o,h4,⟨f,rfl,rfl⟩ | ⟨rfl,h5,tks,A,n,c,h6,rfl,rfl,h8⟩⟩
 · exact .inl ⟨_,_,⟨by decide,.inl ⟨h3,rfl,rfl⟩⟩,rfl⟩
 · exact .inl ⟨_,_,⟨by decide,.inr ⟨h3,ts,f,h4,rfl,rfl⟩⟩,rfl⟩
 · have hn : tks.length = ts.length + 1:=by
     have:=congrArg List.length h6
     rwa [List.length_map,List.length_append] at this
   rw [hn] at h8
   refine .inr ⟨ts,tks,A,c,h3,h4,h6,by rw [hn],RP.of_own h8 (by rw [List.length_map,hn]) (fun cs hc=>by obtain ⟨t,_,rfl⟩:=List.mem_map.1 hc;rfl) fun b _ h1 h2=>⟨h1,h2⟩⟩
theorem tks_len {ts : List Tk} {tks : List (Tk × Int)} (h : tks.map Prod.fst = ts ++ [endT]) {l : Bs} (hl : l.length ≤ 8000) (hs : ScR l ts none) : ts.length + 1 ≤ 8001 ∧ ∀ t ∈ tks,t.1.text.length ≤ 8000:=by
 refine ⟨by have:=hs.sz.1;omega,fun t ht=>?_⟩
 have h1 : t.1 ∈ ts ++ [endT]:=by rw [← h];exact List.mem_map_of_mem ht
 rcases List.mem_append.1 h1 with h2 | h2
 · have:=hs.sz.2 _ h2;omega
 · rw [List.mem_singleton.1 h2];exact Nat.zero_le _
theorem Scan_any (l : Bs) (w : World) : Calls Tryd.prog 6 #[.string (sb l)] w (ScanPost l w):=by
 by_cases h : 8000 < l.length
 · exact scan_big l w h
 · exact scan_any l w (by omega)
theorem ScnF.none_ {l : Bs} {ts : List Tk} {c a : Int} (h : ScnF l c a) (hl : l.length ≤ 8000) (hs : ScR l ts none) : False:=by
 rcases h.2 with ⟨h1,_⟩ | ⟨_,ts',f,h2,_⟩
 · omega
 · have:=(hs.det h2).2;cases this
section
set_option maxHeartbeats 64000000
set_option maxRecDepth 100000
set_option maxRecDepth 100000 in
theorem ShallotTexts_walk (l : Bs) (w : World) (hT : TabX w.heap.size w) : Calls Tryd.prog 3 #[.string (sb l)] w fun e w'=>e = .returned (.bool true) ∧ Below w.heap.size w w':=by
 have HPC:=hid (show ∀ W,Calls Tryd.prog 4 #[.string ⟨#[99,111,118,101,114,32,114,59]⟩] W (ParsePost cvS W) from fun W=>Parse_any cvS W)
 have HSC:=hid (fun W=>Scan_any l W)
 have HOP:=hid (fun W (h : TabX W.heap.size W)=>Open_any l W h OkR.open_)
 obtain ⟨S,hS⟩ : ∃ S,sb l = S:=⟨_,rfl⟩
 rw [hS] at HSC HOP ⊢
 clear hS
 have HT0:=hid hT
 have HB0:=hid (Below.refl w.heap.size w)
 have hs0 : w.heap.size ≤ w.heap.size:=Nat.le_refl _
 clear hT
 obtain ⟨z,hz⟩ : ∃ z,w.heap.size = z:=⟨_,rfl⟩
 have HZ:=hid hz
 rw [hz] at HT0 HB0
 have hs0 : z ≤ w.heap.size:=Nat.le_of_eq hz.symm
 clear hz
 go_enter Tryd.func3,Tryd.ntmps3
 go_wp2_with fail
 refine (HPC.out w).mono ?_
 rintro e w1 hp
 obtain ⟨hbg,hp⟩:=hp.form
 have HT1:=hid (HT0.out.on hbg (by omega))
 have HB1:=hid (HB0.out.trans (hbg.mono (by omega)))
 have hs1:=Nat.le_trans hs0 hbg.size
 have hsw : z ≤ w.heap.size:=hs0
 clear hbg hs0 HT0 HB0
 rcases hp with ⟨c,a,hf,rfl⟩ | ⟨ds,b,hok,d,q,rfl,_,hbd⟩
 · exact (hf.ok cv_ok).elim
 obtain ⟨rfl,rfl⟩:=hok.det cv_ok
 have HBD1:=hid (hbd.mono fun g (hg : Fr w w1 g)=>(show Rg z w1.heap.size g from ⟨by have:=hg.1;omega,hg.2⟩))
 clear hbd hok hsw HPC
 have e1 : (w1.alloc (.cells #[.slice d.A d.n d.d,.slice q.A q.n q.d] 25)).heap.size = w1.heap.size + 1:=Array.size_push _
 have hl1 : Below w1.heap.size w1 (w1.alloc (.cells #[.slice d.A d.n d.d,.slice q.A q.n q.d] 25)):=(Below.refl _ _).alloc (Nat.le_refl _) _
 have hz1:=heap_alloc_new w1 (.cells #[.slice d.A d.n d.d,.slice q.A q.n q.d] 25)
 have e2 : ((w1.alloc (.cells #[.slice d.A d.n d.d,.slice q.A q.n q.d] 25)).alloc (.cells #[.int .i64 0,.int .i64 0] 28)).heap.size = (w1.alloc (.cells #[.slice d.A d.n d.d,.slice q.A q.n q.d] 25)).heap.size + 1:=Array.size_push _
 have hl2 : Below (w1.alloc (.cells #[.slice d.A d.n d.d,.slice q.A q.n q.d] 25)).heap.size (w1.alloc (.cells #[.slice d.A d.n d.d,.slice q.A q.n q.d] 25)) ((w1.alloc (.cells #[.slice d.A d.n d.d,.slice q.A q.n q.d] 25)).alloc (.cells #[.int .i64 0,.int .i64 0] 28)):=(Below.refl _ _).alloc (Nat.le_refl _) _
 have hz2:=heap_alloc_new (w1.alloc (.cells #[.slice d.A d.n d.d,.slice q.A q.n q.d] 25)) (.cells #[.int .i64 0,.int .i64 0] 28)
 rw [e1] at e2 hl2 hz2
 have hbg : Below w1.heap.size w1 ((w1.alloc (.cells #[.slice d.A d.n d.d,.slice q.A q.n q.d] 25)).alloc (.cells #[.int .i64 0,.int .i64 0] 28)):=hl1.trans (hl2.mono (Nat.le_succ _))
 have hz1':=(hl2.block _ (Nat.lt_succ_self _)).trans hz1
 have HT2:=hid (HT1.out.on hbg (by omega))
 have HB2:=hid (HB1.out.trans (hbg.mono (by omega)))
 have HBD2:=hid (HBD1.out.keep fun g hg=>hbg.block g (by have:=hg.2;omega))
 have hs2:=Nat.le_trans hs1 hbg.size
 have HS2:=hid (show SoB ((w1.alloc (.cells #[.slice d.A d.n d.d,.slice q.A q.n q.d] 25)).alloc (.cells #[.int .i64 0,.int .i64 0] 28)) w1.heap.size d q from hz1')
 have HF2:=hid (show Flt ((w1.alloc (.cells #[.slice d.A d.n d.d,.slice q.A q.n q.d] 25)).alloc (.cells #[.int .i64 0,.int .i64 0] 28)) (w1.heap.size + 1) 0 0 from hz2)
 have hn2 : w1.heap.size + 2 ≤ ((w1.alloc (.cells #[.slice d.A d.n d.d,.slice q.A q.n q.d] 25)).alloc (.cells #[.int .i64 0,.int .i64 0] 28)).heap.size:=by first | (rw [e2];exact Nat.le_refl _) | (rw [e1];exact Nat.le_refl _)
 clear hbg hz1 hl1 hz2 hl2 hz1' e2 HT1 HB1 HBD1
 go_upto_region 2 with fail
 (try rw [e1])
 obtain ⟨y,hy⟩ : ∃ y,w1.heap.size = y:=⟨_,rfl⟩
 have hty : z ≤ y:=by rw [← hy];exact hs1
 rw [hy] at hn2 HS2 HF2
 (try rw [hy])
 skip
 rw [hy] at HBD2
 clear hy e1
 generalize ((w1.alloc (.cells #[.slice d.A d.n d.d,.slice q.A q.n q.d] 25)).alloc (.cells #[.int .i64 0,.int .i64 0] 28)) = w2 at *
 have hs2:=hn2
 clear hn2
 have x0:=HF2.out.c0
 have x1:=HS2.out.c1
 go_wp2_with fail
 clear x0 x1
 obtain ⟨css,b1,b2,b3⟩:=HBD2.out
 refine (count_any [cvT] w2 q.A q.n q.d css _ b1 b2 (fun g hg=>by have:=hg.2;omega) (by rw [cv_cnt];decide)).mono ?_
 rintro e w3 ⟨rfl,hbg⟩
 rw [cv_cnt]
 clear b1 b2 b3 HBD2 HS2 HF2
 have HT3:=hid (HT2.out.on hbg (by omega))
 have HB3:=hid (HB2.out.trans (hbg.mono (by omega)))
 have hs3:=Nat.le_trans hs2 hbg.size
 clear hbg hs2 HT2 HB2
 go_wp2_with fail
 refine (HSC.out w3).mono ?_
 rintro e w4 hp
 obtain ⟨hbg,hp⟩:=hp.form
 have HT4:=hid (HT3.out.on hbg (by omega))
 have HB4:=hid (HB3.out.trans (hbg.mono (by omega)))
 have hs4:=Nat.le_trans hs3 hbg.size
 have h3 : y + 2 ≤ w3.heap.size:=hs3
 clear hbg hs3 HT3 HB3
 rcases hp with ⟨c,a,hf,rfl⟩ | ⟨ts,tks,A,c0,hll,hsc,htk,rfl,hrr⟩
 · have HFF:=hid hf
   have hcn : (c != 0) = true:=bne_iff_ne.2 hf.1
   clear hf
   have e1 : (w4.alloc (.cells #[.int .i64 c,.int .i64 a] 28)).heap.size = w4.heap.size + 1:=Array.size_push _
   have hl1 : Below w4.heap.size w4 (w4.alloc (.cells #[.int .i64 c,.int .i64 a] 28)):=(Below.refl _ _).alloc (Nat.le_refl _) _
   have hz1:=heap_alloc_new w4 (.cells #[.int .i64 c,.int .i64 a] 28)
   have hbg : Below w4.heap.size w4 (w4.alloc (.cells #[.int .i64 c,.int .i64 a] 28)):=hl1
   have HT5:=hid (HT4.out.on hbg (by omega))
   have HB5:=hid (HB4.out.trans (hbg.mono (by omega)))
   have hs5:=Nat.le_trans hs4 hbg.size
   have HG5:=hid (show Flt (w4.alloc (.cells #[.int .i64 c,.int .i64 a] 28)) w4.heap.size c a from hz1)
   have hn5 : w4.heap.size + 1 ≤ (w4.alloc (.cells #[.int .i64 c,.int .i64 a] 28)).heap.size:=by first | (rw [e2];exact Nat.le_refl _) | (rw [e1];exact Nat.le_refl _)
   clear hbg hz1 hl1 HT4 HB4
   go_upto_region 5 with fail
   obtain ⟨y6,hy6⟩ : ∃ y6,w4.heap.size = y6:=⟨_,rfl⟩
   have hty6 : y + 2 ≤ y6:=by rw [← hy6];exact hs4
   rw [hy6] at hn5 HG5
   (try rw [hy6])
   skip
   clear hy6 e1
   generalize (w4.alloc (.cells #[.int .i64 c,.int .i64 a] 28)) = w5 at *
   have hs5:=hn5
   clear hn5
   go_wp2_with fail
   refine (HOP.out w5 (tabx_more HT5.out (by omega))).mono ?_
   rintro e w6 hp
   obtain ⟨hbg,ds,b,d,q,c',a',rfl,hdc,hbd,hres,hdn⟩:=hp.uni
   clear hdc hbd hdn
   have HT6:=hid (HT5.out.on hbg (by omega))
   have HB6:=hid (HB5.out.trans (hbg.mono (by omega)))
   have HG6:=hid (show Flt w6 y6 c a from (hbg.block (y6) (by omega)).trans HG5.out)
   have hs6:=Nat.le_trans hs5 hbg.size
   clear hbg hs5 HT5 HB5 HG5
   obtain ⟨h1,h2,rfl,rfl⟩:=hres.scnf HFF.out
   obtain rfl : c = c':=h1.symm
   obtain rfl : a = a':=h2.symm
   clear h1 h2
   clear hres HFF
   rw [tx_nil]
   obtain ⟨TE,hTE⟩ : ∃ TE,sb [] = TE:=⟨_,rfl⟩
   have hTE2 : TE = ⟨#[]⟩:=hTE.symm
   rw [hTE]
   clear hTE
   subst hTE2
   have e1 : (w6.alloc (.cells #[.slice d.A d.n d.d,.slice q.A q.n q.d,.string ⟨#[]⟩] 36)).heap.size = w6.heap.size + 1:=Array.size_push _
   have hl1 : Below w6.heap.size w6 (w6.alloc (.cells #[.slice d.A d.n d.d,.slice q.A q.n q.d,.string ⟨#[]⟩] 36)):=(Below.refl _ _).alloc (Nat.le_refl _) _
   have hz1:=heap_alloc_new w6 (.cells #[.slice d.A d.n d.d,.slice q.A q.n q.d,.string ⟨#[]⟩] 36)
   have e2 : ((w6.alloc (.cells #[.slice d.A d.n d.d,.slice q.A q.n q.d,.string ⟨#[]⟩] 36)).alloc (.cells #[.int .i64 c,.int .i64 a] 28)).heap.size = (w6.alloc (.cells #[.slice d.A d.n d.d,.slice q.A q.n q.d,.string ⟨#[]⟩] 36)).heap.size + 1:=Array.size_push _
   have hl2 : Below (w6.alloc (.cells #[.slice d.A d.n d.d,.slice q.A q.n q.d,.string ⟨#[]⟩] 36)).heap.size (w6.alloc (.cells #[.slice d.A d.n d.d,.slice q.A q.n q.d,.string ⟨#[]⟩] 36)) ((w6.alloc (.cells #[.slice d.A d.n d.d,.slice q.A q.n q.d,.string ⟨#[]⟩] 36)).alloc (.cells #[.int .i64 c,.int .i64 a] 28)):=(Below.refl _ _).alloc (Nat.le_refl _) _
   have hz2:=heap_alloc_new (w6.alloc (.cells #[.slice d.A d.n d.d,.slice q.A q.n q.d,.string ⟨#[]⟩] 36)) (.cells #[.int .i64 c,.int .i64 a] 28)
   rw [e1] at e2 hl2 hz2
   have hbg : Below w6.heap.size w6 ((w6.alloc (.cells #[.slice d.A d.n d.d,.slice q.A q.n q.d,.string ⟨#[]⟩] 36)).alloc (.cells #[.int .i64 c,.int .i64 a] 28)):=hl1.trans (hl2.mono (Nat.le_succ _))
   have hz1':=(hl2.block _ (Nat.lt_succ_self _)).trans hz1
   have HT7:=hid (HT6.out.on hbg (by omega))
   have HB7:=hid (HB6.out.trans (hbg.mono (by omega)))
   have HG7:=hid (show Flt ((w6.alloc (.cells #[.slice d.A d.n d.d,.slice q.A q.n q.d,.string ⟨#[]⟩] 36)).alloc (.cells #[.int .i64 c,.int .i64 a] 28)) y6 c a from (hbg.block (y6) (by omega)).trans HG6.out)
   have hs7:=Nat.le_trans hs6 hbg.size
   have HD7:=hid (show DoB ((w6.alloc (.cells #[.slice d.A d.n d.d,.slice q.A q.n q.d,.string ⟨#[]⟩] 36)).alloc (.cells #[.int .i64 c,.int .i64 a] 28)) w6.heap.size d q ⟨#[]⟩ from hz1')
   have HH7:=hid (show Flt ((w6.alloc (.cells #[.slice d.A d.n d.d,.slice q.A q.n q.d,.string ⟨#[]⟩] 36)).alloc (.cells #[.int .i64 c,.int .i64 a] 28)) (w6.heap.size + 1) c a from hz2)
   have hn7 : w6.heap.size + 2 ≤ ((w6.alloc (.cells #[.slice d.A d.n d.d,.slice q.A q.n q.d,.string ⟨#[]⟩] 36)).alloc (.cells #[.int .i64 c,.int .i64 a] 28)).heap.size:=by first | (rw [e2];exact Nat.le_refl _) | (rw [e1];exact Nat.le_refl _)
   clear hbg hz1 hl1 hz2 hl2 hz1' e2 HT6 HB6 HG6
   go_upto_region 6 with fail
   (try rw [e1])
   obtain ⟨y7,hy7⟩ : ∃ y7,w6.heap.size = y7:=⟨_,rfl⟩
   have hty7 : y6 + 1 ≤ y7:=by rw [← hy7];exact hs6
   rw [hy7] at hn7 HD7 HH7
   (try rw [hy7])
   skip
   clear hy7 e1
   generalize ((w6.alloc (.cells #[.slice d.A d.n d.d,.slice q.A q.n q.d,.string ⟨#[]⟩] 36)).alloc (.cells #[.int .i64 c,.int .i64 a] 28)) = w7 at *
   have hs7:=hn7
   clear hn7
   have x0:=HG7.out.c0
   have x1:=HG7.out.c1
   have x2:=HH7.out.c0
   have x3:=HH7.out.c1
   have x4:=HD7.out.c2
   have x5:=HG7.out.load
   have x6:=HH7.out.load
   go_wp2_with fail
   go_ret
   exact ⟨rfl,by rw [HZ.out];exact HB7.out⟩
 · have HSS:=hid hsc
   have HLL:=hid hll
   have HTK:=hid htk
   have HR4:=hid (hrr.mono fun g (hg : Fr w3 w4 g)=>(show Rg (y + 2) w4.heap.size g from ⟨by have:=hg.1;omega,hg.2⟩))
   have HTL:=hid (tks_len htk hll hsc)
   obtain ⟨N,hN⟩ : ∃ N,ts.length + 1 = N:=⟨_,rfl⟩
   rw [hN] at HR4 HTL
   have HNN:=hid hN
   (try rw [hN])
   obtain ⟨R4,hR4⟩ : ∃ R4,w4.heap.size = R4:=⟨_,rfl⟩
   rw [hR4] at HR4
   have hr4 : R4 ≤ w4.heap.size:=Nat.le_of_eq hR4.symm
   clear hsc hll htk hrr hN hR4 h3
   have e1 : (w4.alloc (.cells #[.int .i64 0,.int .i64 0] 28)).heap.size = w4.heap.size + 1:=Array.size_push _
   have hl1 : Below w4.heap.size w4 (w4.alloc (.cells #[.int .i64 0,.int .i64 0] 28)):=(Below.refl _ _).alloc (Nat.le_refl _) _
   have hz1:=heap_alloc_new w4 (.cells #[.int .i64 0,.int .i64 0] 28)
   have hbg : Below w4.heap.size w4 (w4.alloc (.cells #[.int .i64 0,.int .i64 0] 28)):=hl1
   have HT5:=hid (HT4.out.on hbg (by omega))
   have HB5:=hid (HB4.out.trans (hbg.mono (by omega)))
   have HR5:=hid (HR4.out.keep fun g hg=>hbg.block g (by have:=hg.2;omega))
   have hs5:=Nat.le_trans hs4 hbg.size
   have HG5:=hid (show Flt (w4.alloc (.cells #[.int .i64 0,.int .i64 0] 28)) w4.heap.size 0 0 from hz1)
   have hn5 : w4.heap.size + 1 ≤ (w4.alloc (.cells #[.int .i64 0,.int .i64 0] 28)).heap.size:=by first | (rw [e2];exact Nat.le_refl _) | (rw [e1];exact Nat.le_refl _)
   clear hbg hz1 hl1 HT4 HB4 HR4
   go_upto_region 5 with fail
   obtain ⟨y6,hy6⟩ : ∃ y6,w4.heap.size = y6:=⟨_,rfl⟩
   have hty6 : y + 2 ≤ y6:=by rw [← hy6];exact hs4
   rw [hy6] at hn5 HG5
   (try rw [hy6])
   skip
   have hr5 : R4 ≤ y6:=by omega
   clear hy6 e1
   generalize (w4.alloc (.cells #[.int .i64 0,.int .i64 0] 28)) = w5 at *
   have hs5:=hn5
   clear hn5 hr4
   go_wp2_with fail
   refine (HOP.out w5 (tabx_more HT5.out (by omega))).mono ?_
   rintro e w6 hp
   obtain ⟨hbg,ds,b,d,q,c,a,rfl,hdc,hbd,hres,hdn⟩:=hp.uni
   have HT6:=hid (HT5.out.on hbg (by omega))
   have HB6:=hid (HB5.out.trans (hbg.mono (by omega)))
   have HR6:=hid (HR5.out.keep fun g hg=>hbg.block g (by have:=hg.2;omega))
   have HG6:=hid (show Flt w6 y6 0 0 from (hbg.block (y6) (by omega)).trans HG5.out)
   have hs6:=Nat.le_trans hs5 hbg.size
   have h5 : y6 + 1 ≤ w5.heap.size:=hs5
   clear hbg hs5 HT5 HB5 HR5 HG5
   have HRS:=hid hres
   have HFI:=hid hres.fit
   have HDN:=hid hdn
   have HD6:=hid (hdc.mono fun g (hg : Fr w5 w6 g)=>(show Rg (y6 + 1) w6.heap.size g from ⟨by have:=hg.1;omega,hg.2⟩))
   have HB6b:=hid (hbd.mono fun g (hg : Fr w5 w6 g)=>(show Rg (y6 + 1) w6.heap.size g from ⟨by have:=hg.1;omega,hg.2⟩))
   have HE6:=HB6b
   clear HB6b hdc hbd hres hdn h5
   obtain ⟨T,hT⟩ : ∃ T,sb (txSrc ds b) = T:=⟨_,rfl⟩
   have HTT:=hid hT
   rw [hT]
   clear hT
   have e1 : (w6.alloc (.cells #[.slice d.A d.n d.d,.slice q.A q.n q.d,.string T] 36)).heap.size = w6.heap.size + 1:=Array.size_push _
   have hl1 : Below w6.heap.size w6 (w6.alloc (.cells #[.slice d.A d.n d.d,.slice q.A q.n q.d,.string T] 36)):=(Below.refl _ _).alloc (Nat.le_refl _) _
   have hz1:=heap_alloc_new w6 (.cells #[.slice d.A d.n d.d,.slice q.A q.n q.d,.string T] 36)
   have e2 : ((w6.alloc (.cells #[.slice d.A d.n d.d,.slice q.A q.n q.d,.string T] 36)).alloc (.cells #[.int .i64 c,.int .i64 a] 28)).heap.size = (w6.alloc (.cells #[.slice d.A d.n d.d,.slice q.A q.n q.d,.string T] 36)).heap.size + 1:=Array.size_push _
   have hl2 : Below (w6.alloc (.cells #[.slice d.A d.n d.d,.slice q.A q.n q.d,.string T] 36)).heap.size (w6.alloc (.cells #[.slice d.A d.n d.d,.slice q.A q.n q.d,.string T] 36)) ((w6.alloc (.cells #[.slice d.A d.n d.d,.slice q.A q.n q.d,.string T] 36)).alloc (.cells #[.int .i64 c,.int .i64 a] 28)):=(Below.refl _ _).alloc (Nat.le_refl _) _
   have hz2:=heap_alloc_new (w6.alloc (.cells #[.slice d.A d.n d.d,.slice q.A q.n q.d,.string T] 36)) (.cells #[.int .i64 c,.int .i64 a] 28)
   rw [e1] at e2 hl2 hz2
   have hbg : Below w6.heap.size w6 ((w6.alloc (.cells #[.slice d.A d.n d.d,.slice q.A q.n q.d,.string T] 36)).alloc (.cells #[.int .i64 c,.int .i64 a] 28)):=hl1.trans (hl2.mono (Nat.le_succ _))
   have hz1':=(hl2.block _ (Nat.lt_succ_self _)).trans hz1
   have HT7:=hid (HT6.out.on hbg (by omega))
   have HB7:=hid (HB6.out.trans (hbg.mono (by omega)))
   have HR7:=hid (HR6.out.keep fun g hg=>hbg.block g (by have:=hg.2;omega))
   have HG7:=hid (show Flt ((w6.alloc (.cells #[.slice d.A d.n d.d,.slice q.A q.n q.d,.string T] 36)).alloc (.cells #[.int .i64 c,.int .i64 a] 28)) y6 0 0 from (hbg.block (y6) (by omega)).trans HG6.out)
   have HD7:=hid (HD6.out.keep fun g hg=>hbg.block g (by have:=hg.2;omega))
   have HE7:=hid (HE6.out.keep fun g hg=>hbg.block g (by have:=hg.2;omega))
   have hs7:=Nat.le_trans hs6 hbg.size
   have HX7:=hid (show DoB ((w6.alloc (.cells #[.slice d.A d.n d.d,.slice q.A q.n q.d,.string T] 36)).alloc (.cells #[.int .i64 c,.int .i64 a] 28)) w6.heap.size d q T from hz1')
   have HY7:=hid (show Flt ((w6.alloc (.cells #[.slice d.A d.n d.d,.slice q.A q.n q.d,.string T] 36)).alloc (.cells #[.int .i64 c,.int .i64 a] 28)) (w6.heap.size + 1) c a from hz2)
   have hn7 : w6.heap.size + 2 ≤ ((w6.alloc (.cells #[.slice d.A d.n d.d,.slice q.A q.n q.d,.string T] 36)).alloc (.cells #[.int .i64 c,.int .i64 a] 28)).heap.size:=by first | (rw [e2];exact Nat.le_refl _) | (rw [e1];exact Nat.le_refl _)
   clear hbg hz1 hl1 hz2 hl2 hz1' e2 HT6 HB6 HR6 HG6 HD6 HE6
   go_upto_region 6 with fail
   (try rw [e1])
   obtain ⟨y7,hy7⟩ : ∃ y7,w6.heap.size = y7:=⟨_,rfl⟩
   have hty7 : y6 + 1 ≤ y7:=by rw [← hy7];exact hs6
   rw [hy7] at hn7 HX7 HY7
   (try rw [hy7])
   skip
   rw [hy7] at HD7 HE7
   clear hy7 e1
   generalize ((w6.alloc (.cells #[.slice d.A d.n d.d,.slice q.A q.n q.d,.string T] 36)).alloc (.cells #[.int .i64 c,.int .i64 a] 28)) = w7 at *
   have hs7:=hn7
   clear hn7
   have x0:=HG7.out.c0
   go_wp2_with fail
   clear x0
   refine (Spell_any tks R4 A N c0 w7 (HR7.out.rr fun g hg=>hg.2) (by omega) HTL.out.1 HTL.out.2).mono ?_
   rintro e w8 ⟨rfl,hbg⟩
   rw [HTK.out,spell_scan HSS.out]
   obtain ⟨P,hP⟩ : ∃ P,sb (spellS ts) = P:=⟨_,rfl⟩
   have HPZ:=hid (show P.size = (spellS ts).length by rw [← hP];rfl)
   have HSC2:=hid (fun W=>Scan_any (spellS ts) W)
   have HOP2:=hid (fun W (h : TabX W.heap.size W)=>Open_any (spellS ts) W h OkR.open_)
   rw [hP] at HSC2 HOP2 ⊢
   clear hP
   have HT8:=hid (HT7.out.on hbg (by omega))
   have HB8:=hid (HB7.out.trans (hbg.mono (by omega)))
   have HR8:=hid (HR7.out.keep fun g hg=>hbg.block g (by have:=hg.2;omega))
   have HG8:=hid (show Flt w8 y6 0 0 from (hbg.block (y6) (by omega)).trans HG7.out)
   have HD8:=hid (HD7.out.keep fun g hg=>hbg.block g (by have:=hg.2;omega))
   have HE8:=hid (HE7.out.keep fun g hg=>hbg.block g (by have:=hg.2;omega))
   have HX8:=hid (HX7.out.far (hbg.block (y7) (by omega)))
   have HY8:=hid (show Flt w8 (y7 + 1) c a from (hbg.block (y7 + 1) (by omega)).trans HY7.out)
   have hs8:=Nat.le_trans hs7 hbg.size
   clear hbg hs7 HT7 HB7 HR7 HG7 HD7 HE7 HX7 HY7
   by_cases hbig : 8000 < P.size
   · have hb2 : (8000 : Int) < (P.size : Int):=by omega
     go_wp2_with fail
     go_ret
     exact ⟨rfl,by rw [HZ.out];exact HB8.out⟩
   have hb2 : ¬ ((8000 : Int) < (P.size : Int)):=by omega
   have HLP:=hid (show (spellS ts).length ≤ 8000 by have:=HPZ.out;omega)
   clear hbig
   go_wp2_with fail
   refine (HSC2.out w8).mono ?_
   rintro e w9 hp
   obtain ⟨hbg,hp⟩:=hp.form
   have HT9:=hid (HT8.out.on hbg (by omega))
   have HB9:=hid (HB8.out.trans (hbg.mono (by omega)))
   have HR9:=hid (HR8.out.keep fun g hg=>hbg.block g (by have:=hg.2;omega))
   have HG9:=hid (show Flt w9 y6 0 0 from (hbg.block (y6) (by omega)).trans HG8.out)
   have HD9:=hid (HD8.out.keep fun g hg=>hbg.block g (by have:=hg.2;omega))
   have HE9:=hid (HE8.out.keep fun g hg=>hbg.block g (by have:=hg.2;omega))
   have HX9:=hid (HX8.out.far (hbg.block (y7) (by omega)))
   have HY9:=hid (show Flt w9 (y7 + 1) c a from (hbg.block (y7 + 1) (by omega)).trans HY8.out)
   have hs9:=Nat.le_trans hs8 hbg.size
   have h8 : y7 + 2 ≤ w8.heap.size:=hs8
   clear hbg hs8 HT8 HB8 HR8 HG8 HD8 HE8 HX8 HY8
   rcases hp with ⟨c2,a2,hf,rfl⟩ | ⟨ts2,tks2,A2,c3,_,hsc2,htk2,rfl,hrr⟩
   · exact (hf.none_ HLP.out (scan_spell HSS.out)).elim
   obtain ⟨hts,_⟩:=(scan_spell HSS.out).det hsc2
   subst hts
   rw [HNN.out] at hrr
   (try rw [HNN.out])
   have HTE:=hid (HTK.out.trans htk2.symm)
   obtain ⟨R9,hR9⟩ : ∃ R9,w9.heap.size = R9:=⟨_,rfl⟩
   have HQ9:=hid (hrr.mono fun g (hg : Fr w8 w9 g)=>(show Rg (y7 + 2) w9.heap.size g from ⟨by have:=hg.1;omega,hg.2⟩))
   rw [hR9] at HQ9
   have hr9 : R9 ≤ w9.heap.size:=Nat.le_of_eq hR9.symm
   have hr9b : y7 + 2 ≤ R9:=by rw [← hR9];exact hs9
   clear hrr hsc2 htk2 hR9 hb2
   have x0:=HG9.out.c0
   have x1:=HG9.out.c1
   have x2:=HG9.out.free 0
   have x3:=HG9.out.free 1
   go_upto_region 12 with fail
   clear x0 x1 x2 x3
   have hfs : ∀ g,g ≠ y6 → ((w9.setCell ⟨y6,0,none⟩ (.int .i64 0)).setCell ⟨y6,1,none⟩ (.int .i64 0)).heap[g]? = w9.heap[g]?:=fun g hg=>(Below.heap_setCell _ ⟨y6,1,none⟩ _ g hg).trans (Below.heap_setCell _ ⟨y6,0,none⟩ _ g hg)
   have hbs : Below y6 w9 ((w9.setCell ⟨y6,0,none⟩ (.int .i64 0)).setCell ⟨y6,1,none⟩ (.int .i64 0)):=((Below.refl y6 w9).setCell (p:=⟨y6,0,none⟩) (Nat.le_refl _) _).setCell (p:=⟨y6,1,none⟩) (Nat.le_refl _) _
   have HT10:=hid (HT9.out.on hbs (by omega))
   have HB10:=hid (HB9.out.trans (hbs.mono (by omega)))
   have HR10:=hid (HR9.out.keep fun g hg=>hfs g (by have h1:=hg.1;have h2:=hg.2;omega))
   have HG10:=hid (Flt.put HG9.out 0 0)
   have HD10:=hid (HD9.out.keep fun g hg=>hfs g (by have h1:=hg.1;have h2:=hg.2;omega))
   have HE10:=hid (HE9.out.keep fun g hg=>hfs g (by have h1:=hg.1;have h2:=hg.2;omega))
   have HX10:=hid (HX9.out.far (hfs (y7) (by omega)))
   have HY10:=hid (show Flt ((w9.setCell ⟨y6,0,none⟩ (.int .i64 0)).setCell ⟨y6,1,none⟩ (.int .i64 0)) (y7 + 1) c a from (hfs (y7 + 1) (by omega)).trans HY9.out)
   have HQ10:=hid (HQ9.out.keep fun g hg=>hfs g (by have h1:=hg.1;have h2:=hg.2;omega))
   have hr10:=Nat.le_trans hr9 hbs.size
   have hs10:=Nat.le_trans hs9 hbs.size
   clear hfs hbs hs9 HT9 HB9 HR9 HG9 HD9 HE9 HX9 HY9 HQ9 hr9
   generalize ((w9.setCell ⟨y6,0,none⟩ (.int .i64 0)).setCell ⟨y6,1,none⟩ (.int .i64 0)) = w10 at *
   have x0:=HG10.out.c0
   go_wp2_with fail
   clear x0
   refine (bare_eq tks tks2 HTE.out R9 A A2 N c0 c3 w10 (HR10.out.rr fun g hg=>by have:=hg.2;omega) (HQ10.out.rr fun g hg=>hg.2) (by omega) (by have:=HTL.out.1;omega)).mono ?_
   rintro e w11 ⟨rfl,hbg⟩
   have HT11:=hid (HT10.out.on hbg (by omega))
   have HB11:=hid (HB10.out.trans (hbg.mono (by omega)))
   have HR11:=hid (HR10.out.keep fun g hg=>hbg.block g (by have:=hg.2;omega))
   have HG11:=hid (show Flt w11 y6 0 0 from (hbg.block (y6) (by omega)).trans HG10.out)
   have HD11:=hid (HD10.out.keep fun g hg=>hbg.block g (by have:=hg.2;omega))
   have HE11:=hid (HE10.out.keep fun g hg=>hbg.block g (by have:=hg.2;omega))
   have HX11:=hid (HX10.out.far (hbg.block (y7) (by omega)))
   have HY11:=hid (show Flt w11 (y7 + 1) c a from (hbg.block (y7 + 1) (by omega)).trans HY10.out)
   have HQ11:=hid (HQ10.out.keep fun g hg=>hbg.block g (by have:=hg.2;omega))
   have hr11:=Nat.le_trans hr10 hbg.size
   have hs11:=Nat.le_trans hs10 hbg.size
   clear hbg hs10 HT10 HB10 HR10 HG10 HD10 HE10 HX10 HY10 HQ10 hr10
   clear HR11 HQ11 HG11 hr11
   go_wp2_with fail
   refine (HOP2.out w11 (tabx_more HT11.out (by omega))).mono ?_
   rintro e w12 hp
   obtain ⟨hbg,ds2,b2,d2,q2,c2,a2,rfl,hdc,hbd,hres,hdn⟩:=hp.uni
   clear hdc hbd
   have HT12:=hid (HT11.out.on hbg (by omega))
   have HB12:=hid (HB11.out.trans (hbg.mono (by omega)))
   have HD12:=hid (HD11.out.keep fun g hg=>hbg.block g (by have:=hg.2;omega))
   have HE12:=hid (HE11.out.keep fun g hg=>hbg.block g (by have:=hg.2;omega))
   have HX12:=hid (HX11.out.far (hbg.block (y7) (by omega)))
   have HY12:=hid (show Flt w12 (y7 + 1) c a from (hbg.block (y7 + 1) (by omega)).trans HY11.out)
   have hs12:=Nat.le_trans hs11 hbg.size
   clear hbg hs11 HT11 HB11 HD11 HE11 HX11 HY11
   obtain ⟨h1,h2,h3⟩:=HRS.out.same hres HLL.out HSS.out (scan_spell HSS.out) HLP.out
   have h1:=h1.symm
   have h2:=h2.symm
   have h3:=h3.symm
   subst h1 h2 h3
   rw [HTT.out]
   have HDN2:=hid hdn
   clear hres hdn
   have e1 : (w12.alloc (.cells #[.slice d2.A d2.n d2.d,.slice q2.A q2.n q2.d,.string T] 36)).heap.size = w12.heap.size + 1:=Array.size_push _
   have hl1 : Below w12.heap.size w12 (w12.alloc (.cells #[.slice d2.A d2.n d2.d,.slice q2.A q2.n q2.d,.string T] 36)):=(Below.refl _ _).alloc (Nat.le_refl _) _
   have hz1:=heap_alloc_new w12 (.cells #[.slice d2.A d2.n d2.d,.slice q2.A q2.n q2.d,.string T] 36)
   have e2 : ((w12.alloc (.cells #[.slice d2.A d2.n d2.d,.slice q2.A q2.n q2.d,.string T] 36)).alloc (.cells #[.int .i64 c,.int .i64 a2] 28)).heap.size = (w12.alloc (.cells #[.slice d2.A d2.n d2.d,.slice q2.A q2.n q2.d,.string T] 36)).heap.size + 1:=Array.size_push _
   have hl2 : Below (w12.alloc (.cells #[.slice d2.A d2.n d2.d,.slice q2.A q2.n q2.d,.string T] 36)).heap.size (w12.alloc (.cells #[.slice d2.A d2.n d2.d,.slice q2.A q2.n q2.d,.string T] 36)) ((w12.alloc (.cells #[.slice d2.A d2.n d2.d,.slice q2.A q2.n q2.d,.string T] 36)).alloc (.cells #[.int .i64 c,.int .i64 a2] 28)):=(Below.refl _ _).alloc (Nat.le_refl _) _
   have hz2:=heap_alloc_new (w12.alloc (.cells #[.slice d2.A d2.n d2.d,.slice q2.A q2.n q2.d,.string T] 36)) (.cells #[.int .i64 c,.int .i64 a2] 28)
   rw [e1] at e2 hl2 hz2
   have hbg : Below w12.heap.size w12 ((w12.alloc (.cells #[.slice d2.A d2.n d2.d,.slice q2.A q2.n q2.d,.string T] 36)).alloc (.cells #[.int .i64 c,.int .i64 a2] 28)):=hl1.trans (hl2.mono (Nat.le_succ _))
   have hz1':=(hl2.block _ (Nat.lt_succ_self _)).trans hz1
   have HT14:=hid (HT12.out.on hbg (by omega))
   have HB14:=hid (HB12.out.trans (hbg.mono (by omega)))
   have HD14:=hid (HD12.out.keep fun g hg=>hbg.block g (by have:=hg.2;omega))
   have HE14:=hid (HE12.out.keep fun g hg=>hbg.block g (by have:=hg.2;omega))
   have HX14:=hid (HX12.out.far (hbg.block (y7) (by omega)))
   have HY14:=hid (show Flt ((w12.alloc (.cells #[.slice d2.A d2.n d2.d,.slice q2.A q2.n q2.d,.string T] 36)).alloc (.cells #[.int .i64 c,.int .i64 a2] 28)) (y7 + 1) c a from (hbg.block (y7 + 1) (by omega)).trans HY12.out)
   have hs14:=Nat.le_trans hs12 hbg.size
   have HZ214:=hid (show DoB ((w12.alloc (.cells #[.slice d2.A d2.n d2.d,.slice q2.A q2.n q2.d,.string T] 36)).alloc (.cells #[.int .i64 c,.int .i64 a2] 28)) w12.heap.size d2 q2 T from hz1')
   have HY214:=hid (show Flt ((w12.alloc (.cells #[.slice d2.A d2.n d2.d,.slice q2.A q2.n q2.d,.string T] 36)).alloc (.cells #[.int .i64 c,.int .i64 a2] 28)) (w12.heap.size + 1) c a2 from hz2)
   have hn14 : w12.heap.size + 2 ≤ ((w12.alloc (.cells #[.slice d2.A d2.n d2.d,.slice q2.A q2.n q2.d,.string T] 36)).alloc (.cells #[.int .i64 c,.int .i64 a2] 28)).heap.size:=by first | (rw [e2];exact Nat.le_refl _) | (rw [e1];exact Nat.le_refl _)
   clear hbg hz1 hl1 hz2 hl2 hz1' e2 HT12 HB12 HD12 HE12 HX12 HY12
   go_upto_region 15 with fail
   (try rw [e1])
   obtain ⟨y11,hy11⟩ : ∃ y11,w12.heap.size = y11:=⟨_,rfl⟩
   have hty11 : y7 + 2 ≤ y11:=by rw [← hy11];exact hs12
   rw [hy11] at hn14 HZ214 HY214
   (try rw [hy11])
   skip
   clear hy11 e1
   generalize ((w12.alloc (.cells #[.slice d2.A d2.n d2.d,.slice q2.A q2.n q2.d,.string T] 36)).alloc (.cells #[.int .i64 c,.int .i64 a2] 28)) = w14 at *
   have hs14:=hn14
   clear hn14
   have HT15:=hid (show TabX z w14.drew from HT14.out.on ((Below.refl z w14).drew) (Nat.le_refl _))
   have HB15:=hid (show Below z w w14.drew from HB14.out.drew)
   have HD15:=hid (show DcL (Rg (y6 + 1) y7) w14.drew ds d from HD14.out.keep fun _ _=>rfl)
   have HE15:=hid (show BdV (Rg (y6 + 1) y7) w14.drew b q from HE14.out.keep fun _ _=>rfl)
   have HX15:=hid (show DoB w14.drew y7 d q T from HX14.out)
   have HY15:=hid (show Flt w14.drew (y7 + 1) c a from HY14.out)
   have HZ215:=hid (show DoB w14.drew y11 d2 q2 T from HZ214.out)
   have HY215:=hid (show Flt w14.drew (y11 + 1) c a2 from HY214.out)
   have hs15 : y11 + 2 ≤ w14.drew.heap.size:=hs14
   clear hs14 HT14 HB14 HD14 HE14 HX14 HY14 HZ214 HY214
   refine wp_region_noPanic ?_
   refine wp_region_held_drew (S:=fun W=>W.cell? ⟨y7 + 1,0,none⟩ = some (.int .i64 c) ∧ W.cell? ⟨y11 + 1,0,none⟩ = some (.int .i64 c) ∧ W.cell? ⟨y7,2,none⟩ = some (.string T) ∧ W.cell? ⟨y11,2,none⟩ = some (.string T) ∧ W.cell? ⟨y7,0,none⟩ = some (.slice d.A d.n d.d) ∧ W.cell? ⟨y7,1,none⟩ = some (.slice q.A q.n q.d)) (by kernel_rfl) ?_ (fun hHeld=>?_)
   · (try dsimp only)
     exact ⟨HY15.out.c0,HY215.out.c0,HX15.out.c2,HZ215.out.c2,HX15.out.c0,HX15.out.c1⟩
   generalize w14.drew = w15 at *
   apply tkH 0
   apply tkH 1
   apply tkH 2
   apply tkH 3
   apply tkH 4
   apply tkH 5
   apply tkH 6
   apply tkH 7
   apply tkH 8
   apply tkH 9
   apply tkH 10
   apply tkH 11
   apply tkH 12
   apply tkH 13
   apply tkH 14
   apply tkH 17
   apply tkH 18
   refine wpAnyH_ready (rs:=[15]) (by kernel_rfl) (by simp) ?_
   refine AllReadyH.cons rfl (fun K hK=>?_) AllReadyH.nil
   go_simp
   refine (Bare_any ds b d q _ w15 HD15.out HE15.out (fun g hg=>by have:=hg.2;omega) HFI.out.db HFI.out.sb (by have:=HFI.out.sn;omega) (by have:=HFI.out.dn;omega)).mono ?_
   rintro e w16 ⟨d3,q3,rfl,hd3,hb3,hbg⟩
   have hd3':=hd3.mono fun g (hg : Fr w15 w16 g)=>(show Rg z w16.heap.size g from ⟨by have:=hg.1;omega,hg.2⟩)
   have hb3':=hb3.mono fun g (hg : Fr w15 w16 g)=>(show Rg z w16.heap.size g from ⟨by have:=hg.1;omega,hg.2⟩)
   have HD3:=hid hd3'
   have HE3:=hid hb3'
   clear hd3 hb3 hd3' hb3'
   have HT16:=hid (HT15.out.on hbg (by omega))
   have HB16:=hid (HB15.out.trans (hbg.mono (by omega)))
   have HD16:=hid (HD15.out.keep fun g hg=>hbg.block g (by have:=hg.2;omega))
   have HE16:=hid (HE15.out.keep fun g hg=>hbg.block g (by have:=hg.2;omega))
   have HX16:=hid (HX15.out.far (hbg.block (y7) (by omega)))
   have HY16:=hid (show Flt w16 (y7 + 1) c a from (hbg.block (y7 + 1) (by omega)).trans HY15.out)
   have HZ216:=hid (HZ215.out.far (hbg.block (y11) (by omega)))
   have HY216:=hid (show Flt w16 (y11 + 1) c a2 from (hbg.block (y11 + 1) (by omega)).trans HY215.out)
   have hs16:=Nat.le_trans hs15 hbg.size
   clear hbg hs15 HT15 HB15 HD15 HE15 HX15 HY15 HZ215 HY215
   (try dsimp only)
   first | (refine hK.out _ _ ?_ (fun hHeld=>?_)) | (go_wp2_with fail;refine hK.out _ _ ?_ (fun hHeld=>?_))
   · (try dsimp only)
     exact ⟨HY16.out.c0,HY216.out.c0,HX16.out.c2,HZ216.out.c2,HX16.out.c0,HX16.out.c1⟩
   clear hK K
   (try simp only [List.getElem_toArray,List.getElem_cons_zero,List.getElem_cons_succ,Act.put,List.setIfInBounds_toArray,List.set_cons_zero,List.set_cons_succ])
   refine wpAnyH_ready (rs:=[16]) (by kernel_rfl) (by simp) ?_
   refine AllReadyH.cons rfl (fun K hK=>?_) AllReadyH.nil
   go_simp
   refine (Print_any ds b d3 q3 _ w16 (tabx_more HT16.out (by omega)) HD3.out HE3.out (fun g hg=>hg.2) HFI.out.dw HFI.out.sw (by have:=HFI.out.len;omega)).mono ?_
   rintro e w17 ⟨rfl,hbg⟩
   rw [HTT.out]
   have HT17:=hid (HT16.out.on hbg (by omega))
   have HB17:=hid (HB16.out.trans (hbg.mono (by omega)))
   have HD17:=hid (HD16.out.keep fun g hg=>hbg.block g (by have:=hg.2;omega))
   have HE17:=hid (HE16.out.keep fun g hg=>hbg.block g (by have:=hg.2;omega))
   have HX17:=hid (HX16.out.far (hbg.block (y7) (by omega)))
   have HY17:=hid (show Flt w17 (y7 + 1) c a from (hbg.block (y7 + 1) (by omega)).trans HY16.out)
   have HZ217:=hid (HZ216.out.far (hbg.block (y11) (by omega)))
   have HY217:=hid (show Flt w17 (y11 + 1) c a2 from (hbg.block (y11 + 1) (by omega)).trans HY216.out)
   have hs17:=Nat.le_trans hs16 hbg.size
   clear hbg hs16 HT16 HB16 HD16 HE16 HX16 HY16 HZ216 HY216
   clear HD3 HE3
   (try dsimp only)
   first | (refine hK.out _ _ ?_ (fun hHeld=>?_)) | (go_wp2_with fail;refine hK.out _ _ ?_ (fun hHeld=>?_))
   · (try dsimp only)
     exact ⟨HY17.out.c0,HY217.out.c0,HX17.out.c2,HZ217.out.c2,HX17.out.c0,HX17.out.c1⟩
   clear hK K
   (try simp only [List.getElem_toArray,List.getElem_cons_zero,List.getElem_cons_succ,Act.put,List.setIfInBounds_toArray,List.set_cons_zero,List.set_cons_succ])
   apply tkH 19
   apply tkH 20
   refine wpAnyH_done (by kernel_rfl) ?_ _
   refine NoPanic.normal ?_
   (try clear hHeld)
   have x0:=HY17.out.c0
   have x1:=HX17.out.c2
   by_cases hc0 : c = 0
   rotate_left
   · have hcn : (c != 0) = true:=bne_iff_ne.2 hc0
     clear hc0
     go_wp2_with fail
     go_ret
     exact ⟨rfl,by rw [HZ.out];exact HB17.out⟩
   subst hc0
   by_cases hbT : 8000 < T.size
   · have hb2 : (8000 : Int) < (T.size : Int):=by omega
     clear hbT
     go_wp2_with fail
     go_ret
     exact ⟨rfl,by rw [HZ.out];exact HB17.out⟩
   have hb2 : ¬ ((8000 : Int) < (T.size : Int)):=by omega
   have hTs : T.size = (txSrc ds b).length:=by rw [← HTT.out];rfl
   have HLT:=hid (show (txSrc ds b).length ≤ 8000 by omega)
   clear hTs
   clear hbT
   have HOP3:=hid (fun W (h : TabX W.heap.size W)=>Open_any (txSrc ds b) W h OkR.open_)
   rw [HTT.out] at HOP3
   go_wp2_with fail
   clear hb2 x0 x1
   refine (HOP3.out w17 (tabx_more HT17.out (by omega))).mono ?_
   rintro e w18 hp
   obtain ⟨hbg,ds3,b3,d3,q3,c3',a3,rfl,hdc,hbd,hres,hdn⟩:=hp.uni
   have HT18:=hid (HT17.out.on hbg (by omega))
   have HB18:=hid (HB17.out.trans (hbg.mono (by omega)))
   have HD18:=hid (HD17.out.keep fun g hg=>hbg.block g (by have:=hg.2;omega))
   have HE18:=hid (HE17.out.keep fun g hg=>hbg.block g (by have:=hg.2;omega))
   have HX18:=hid (HX17.out.far (hbg.block (y7) (by omega)))
   have HY18:=hid (show Flt w18 (y7 + 1) 0 a from (hbg.block (y7 + 1) (by omega)).trans HY17.out)
   have HZ218:=hid (HZ217.out.far (hbg.block (y11) (by omega)))
   have HY218:=hid (show Flt w18 (y11 + 1) 0 a2 from (hbg.block (y11 + 1) (by omega)).trans HY217.out)
   have hs18:=Nat.le_trans hs17 hbg.size
   have h17 : y11 + 2 ≤ w17.heap.size:=hs17
   clear hbg hs17 HT17 HB17 HD17 HE17 HX17 HY17 HZ217 HY217
   obtain ⟨h1,h2,h3⟩:=HRS.out.print HLT.out hres
   have h2:=h2.symm
   have h3:=h3.symm
   subst h1 h2 h3
   rw [HTT.out]
   have HDN3:=hid hdn
   have hbd':=hbd.mono fun g (hg : Fr w17 w18 g)=>(show Rg (y11 + 2) w18.heap.size g from ⟨by have:=hg.1;omega,hg.2⟩)
   have HE318:=hid hbd'
   clear hres hdn hdc hbd hbd' h17
   have e1 : (w18.alloc (.cells #[.slice d3.A d3.n d3.d,.slice q3.A q3.n q3.d,.string T] 36)).heap.size = w18.heap.size + 1:=Array.size_push _
   have hl1 : Below w18.heap.size w18 (w18.alloc (.cells #[.slice d3.A d3.n d3.d,.slice q3.A q3.n q3.d,.string T] 36)):=(Below.refl _ _).alloc (Nat.le_refl _) _
   have hz1:=heap_alloc_new w18 (.cells #[.slice d3.A d3.n d3.d,.slice q3.A q3.n q3.d,.string T] 36)
   have hbg : Below w18.heap.size w18 (w18.alloc (.cells #[.slice d3.A d3.n d3.d,.slice q3.A q3.n q3.d,.string T] 36)):=hl1
   have HT19:=hid (HT18.out.on hbg (by omega))
   have HB19:=hid (HB18.out.trans (hbg.mono (by omega)))
   have HD19:=hid (HD18.out.keep fun g hg=>hbg.block g (by have:=hg.2;omega))
   have HE19:=hid (HE18.out.keep fun g hg=>hbg.block g (by have:=hg.2;omega))
   have HX19:=hid (HX18.out.far (hbg.block (y7) (by omega)))
   have HY19:=hid (show Flt (w18.alloc (.cells #[.slice d3.A d3.n d3.d,.slice q3.A q3.n q3.d,.string T] 36)) (y7 + 1) 0 a from (hbg.block (y7 + 1) (by omega)).trans HY18.out)
   have HZ219:=hid (HZ218.out.far (hbg.block (y11) (by omega)))
   have HY219:=hid (show Flt (w18.alloc (.cells #[.slice d3.A d3.n d3.d,.slice q3.A q3.n q3.d,.string T] 36)) (y11 + 1) 0 a2 from (hbg.block (y11 + 1) (by omega)).trans HY218.out)
   have HE319:=hid (HE318.out.keep fun g hg=>hbg.block g (by have:=hg.2;omega))
   have hs19:=Nat.le_trans hs18 hbg.size
   have HZ319:=hid (show DoB (w18.alloc (.cells #[.slice d3.A d3.n d3.d,.slice q3.A q3.n q3.d,.string T] 36)) w18.heap.size d3 q3 T from hz1)
   have hn19 : w18.heap.size + 1 ≤ (w18.alloc (.cells #[.slice d3.A d3.n d3.d,.slice q3.A q3.n q3.d,.string T] 36)).heap.size:=by first | (rw [e2];exact Nat.le_refl _) | (rw [e1];exact Nat.le_refl _)
   clear hbg hz1 hl1 HT18 HB18 HD18 HE18 HX18 HY18 HZ218 HY218 HE318
   have x0:=HY219.out.c0
   have x1:=HY219.out.c1
   have x2:=HY219.out.free 0
   have x3:=HY219.out.free 1
   go_upto_region 20 with fail
   clear x0 x1 x2 x3
   obtain ⟨y13,hy13⟩ : ∃ y13,w18.heap.size = y13:=⟨_,rfl⟩
   have hty13 : y11 + 2 ≤ y13:=by rw [← hy13];exact hs18
   rw [hy13] at hn19 HZ319
   (try rw [hy13])
   skip
   rw [hy13] at HE319
   clear hy13 e1
   generalize (w18.alloc (.cells #[.slice d3.A d3.n d3.d,.slice q3.A q3.n q3.d,.string T] 36)) = w19 at *
   have hs19:=hn19
   clear hn19
   have hfs : ∀ g,g ≠ (y11 + 1) → ((w19.setCell ⟨y11 + 1,0,none⟩ (.int .i64 0)).setCell ⟨y11 + 1,1,none⟩ (.int .i64 a3)).heap[g]? = w19.heap[g]?:=fun g hg=>(Below.heap_setCell _ ⟨(y11 + 1),1,none⟩ _ g hg).trans (Below.heap_setCell _ ⟨(y11 + 1),0,none⟩ _ g hg)
   have hbs : Below (y11 + 1) w19 ((w19.setCell ⟨y11 + 1,0,none⟩ (.int .i64 0)).setCell ⟨y11 + 1,1,none⟩ (.int .i64 a3)):=((Below.refl (y11 + 1) w19).setCell (p:=⟨(y11 + 1),0,none⟩) (Nat.le_refl _) _).setCell (p:=⟨(y11 + 1),1,none⟩) (Nat.le_refl _) _
   have HT20:=hid (HT19.out.on hbs (by omega))
   have HB20:=hid (HB19.out.trans (hbs.mono (by omega)))
   have HD20:=hid (HD19.out.keep fun g hg=>hfs g (by have h1:=hg.1;have h2:=hg.2;omega))
   have HE20:=hid (HE19.out.keep fun g hg=>hfs g (by have h1:=hg.1;have h2:=hg.2;omega))
   have HX20:=hid (HX19.out.far (hfs (y7) (by omega)))
   have HY20:=hid (show Flt ((w19.setCell ⟨y11 + 1,0,none⟩ (.int .i64 0)).setCell ⟨y11 + 1,1,none⟩ (.int .i64 a3)) (y7 + 1) 0 a from (hfs (y7 + 1) (by omega)).trans HY19.out)
   have HZ220:=hid (HZ219.out.far (hfs (y11) (by omega)))
   have HY220:=hid (Flt.put HY219.out 0 a3)
   have HE320:=hid (HE319.out.keep fun g hg=>hfs g (by have h1:=hg.1;have h2:=hg.2;omega))
   have HZ320:=hid (HZ319.out.far (hfs (y13) (by omega)))
   have hs20:=Nat.le_trans hs19 hbs.size
   clear hfs hbs hs19 HT19 HB19 HD19 HE19 HX19 HY19 HZ219 HY219 HE319 HZ319
   generalize ((w19.setCell ⟨y11 + 1,0,none⟩ (.int .i64 0)).setCell ⟨y11 + 1,1,none⟩ (.int .i64 a3)) = w20 at *
   have HT21:=hid (show TabX z w20.drew from HT20.out.on ((Below.refl z w20).drew) (Nat.le_refl _))
   have HB21:=hid (show Below z w w20.drew from HB20.out.drew)
   have HD21:=hid (show DcL (Rg (y6 + 1) y7) w20.drew ds d from HD20.out.keep fun _ _=>rfl)
   have HE21:=hid (show BdV (Rg (y6 + 1) y7) w20.drew b q from HE20.out.keep fun _ _=>rfl)
   have HX21:=hid (show DoB w20.drew y7 d q T from HX20.out)
   have HY21:=hid (show Flt w20.drew (y7 + 1) 0 a from HY20.out)
   have HZ221:=hid (show DoB w20.drew y11 d2 q2 T from HZ220.out)
   have HY221:=hid (show Flt w20.drew (y11 + 1) 0 a3 from HY220.out)
   have HE321:=hid (show BdV (Rg (y11 + 2) y13) w20.drew b q3 from HE320.out.keep fun _ _=>rfl)
   have HZ321:=hid (show DoB w20.drew y13 d3 q3 T from HZ320.out)
   have hs21 : y13 + 1 ≤ w20.drew.heap.size:=hs20
   clear hs20 HT20 HB20 HD20 HE20 HX20 HY20 HZ220 HY220 HE320 HZ320
   obtain ⟨M,hM⟩ : ∃ M,ds.length = M:=⟨_,rfl⟩
   have HM2:=hid (HDN2.out.trans hM)
   have HM3:=hid (HDN3.out.trans hM)
   clear hM
   obtain ⟨CN,hCN⟩ : ∃ CN,cntL b = CN:=⟨_,rfl⟩
   have HCN:=hid hCN
   clear hCN
   refine wp_region_noPanic ?_
   refine wp_region_held_drew (S:=fun W=>W.cell? ⟨y11 + 1,0,none⟩ = some (.int .i64 0) ∧ W.cell? ⟨y13,2,none⟩ = some (.string T) ∧ W.cell? ⟨y7,2,none⟩ = some (.string T) ∧ W.cell? ⟨y13,1,none⟩ = some (.slice q3.A q3.n q3.d) ∧ W.cell? ⟨y7,1,none⟩ = some (.slice q.A q.n q.d) ∧ W.cell? ⟨y13,0,none⟩ = some (.slice d3.A M d3.d) ∧ W.cell? ⟨y11,0,none⟩ = some (.slice d2.A M d2.d)) (by kernel_rfl) ?_ (fun hHeld=>?_)
   · (try dsimp only)
     exact ⟨HY221.out.c0,HZ321.out.c2,HX21.out.c2,HZ321.out.c1,HX21.out.c1,by rw [← HM3.out];exact HZ321.out.c0,by rw [← HM2.out];exact HZ221.out.c0⟩
   generalize w20.drew = w21 at *
   apply tkH 0
   apply tkH 1
   apply tkH 2
   apply tkH 3
   apply tkH 4
   apply tkH 5
   apply tkH 6
   apply tkH 7
   apply tkH 8
   apply tkH 9
   apply tkH 10
   apply tkH 11
   apply tkH 12
   apply tkH 13
   apply tkH 15
   apply tkH 16
   apply tkH 17
   refine wpAnyH_ready (rs:=[14]) (by kernel_rfl) (by simp) ?_
   refine AllReadyH.cons rfl (fun K hK=>?_) AllReadyH.nil
   go_simp
   obtain ⟨css22,b1,b2,b3⟩:=HE321.out
   refine (count_any b w21 q3.A q3.n q3.d css22 _ b1 b2 (fun g hg=>by have:=hg.2;omega) (by have:=HFI.out.cn;omega)).mono ?_
   rintro e w22 ⟨rfl,hbg⟩
   rw [HCN.out]
   clear b1 b2 b3
   have HT22:=hid (HT21.out.on hbg (by omega))
   have HB22:=hid (HB21.out.trans (hbg.mono (by omega)))
   have HD22:=hid (HD21.out.keep fun g hg=>hbg.block g (by have:=hg.2;omega))
   have HE22:=hid (HE21.out.keep fun g hg=>hbg.block g (by have:=hg.2;omega))
   have HX22:=hid (HX21.out.far (hbg.block (y7) (by omega)))
   have HY22:=hid (show Flt w22 (y7 + 1) 0 a from (hbg.block (y7 + 1) (by omega)).trans HY21.out)
   have HZ222:=hid (HZ221.out.far (hbg.block (y11) (by omega)))
   have HY222:=hid (show Flt w22 (y11 + 1) 0 a3 from (hbg.block (y11 + 1) (by omega)).trans HY221.out)
   have HE322:=hid (HE321.out.keep fun g hg=>hbg.block g (by have:=hg.2;omega))
   have HZ322:=hid (HZ321.out.far (hbg.block (y13) (by omega)))
   have hs22:=Nat.le_trans hs21 hbg.size
   clear hbg hs21 HT21 HB21 HD21 HE21 HX21 HY21 HZ221 HY221 HE321 HZ321
   (try dsimp only)
   first | (refine hK.out _ _ ?_ (fun hHeld=>?_)) | (go_wp2_with fail;refine hK.out _ _ ?_ (fun hHeld=>?_))
   · (try dsimp only)
     exact ⟨HY222.out.c0,HZ322.out.c2,HX22.out.c2,HZ322.out.c1,HX22.out.c1,by rw [← HM3.out];exact HZ322.out.c0,by rw [← HM2.out];exact HZ222.out.c0⟩
   clear hK K
   (try simp only [List.getElem_toArray,List.getElem_cons_zero,List.getElem_cons_succ,Act.put,List.setIfInBounds_toArray,List.set_cons_zero,List.set_cons_succ])
   refine wpAnyH_ready (rs:=[18]) (by kernel_rfl) (by simp) ?_
   refine AllReadyH.cons rfl (fun K hK=>?_) AllReadyH.nil
   go_simp
   obtain ⟨css23,b1,b2,b3⟩:=HE22.out
   refine (count_any b w22 q.A q.n q.d css23 _ b1 b2 (fun g hg=>by have:=hg.2;omega) (by have:=HFI.out.cn;omega)).mono ?_
   rintro e w23 ⟨rfl,hbg⟩
   rw [HCN.out]
   clear b1 b2 b3
   have HT23:=hid (HT22.out.on hbg (by omega))
   have HB23:=hid (HB22.out.trans (hbg.mono (by omega)))
   have HD23:=hid (HD22.out.keep fun g hg=>hbg.block g (by have:=hg.2;omega))
   have HE23:=hid (HE22.out.keep fun g hg=>hbg.block g (by have:=hg.2;omega))
   have HX23:=hid (HX22.out.far (hbg.block (y7) (by omega)))
   have HY23:=hid (show Flt w23 (y7 + 1) 0 a from (hbg.block (y7 + 1) (by omega)).trans HY22.out)
   have HZ223:=hid (HZ222.out.far (hbg.block (y11) (by omega)))
   have HY223:=hid (show Flt w23 (y11 + 1) 0 a3 from (hbg.block (y11 + 1) (by omega)).trans HY222.out)
   have HE323:=hid (HE322.out.keep fun g hg=>hbg.block g (by have:=hg.2;omega))
   have HZ323:=hid (HZ322.out.far (hbg.block (y13) (by omega)))
   have hs23:=Nat.le_trans hs22 hbg.size
   clear hbg hs22 HT22 HB22 HD22 HE22 HX22 HY22 HZ222 HY222 HE322 HZ322
   (try dsimp only)
   first | (refine hK.out _ _ ?_ (fun hHeld=>?_)) | (go_wp2_with fail;refine hK.out _ _ ?_ (fun hHeld=>?_))
   · (try dsimp only)
     exact ⟨HY223.out.c0,HZ323.out.c2,HX23.out.c2,HZ323.out.c1,HX23.out.c1,by rw [← HM3.out];exact HZ323.out.c0,by rw [← HM2.out];exact HZ223.out.c0⟩
   clear hK K
   (try simp only [List.getElem_toArray,List.getElem_cons_zero,List.getElem_cons_succ,Act.put,List.setIfInBounds_toArray,List.set_cons_zero,List.set_cons_succ])
   apply tkH 19
   apply tkH 20
   apply tkH 21
   apply tkH 22
   apply tkH 23
   apply tkH 24
   apply tkH 25
   apply tkH 26
   apply tkH 27
   apply tkH 28
   apply tkH 29
   apply tkH 30
   apply tkH 31
   apply tkH 32
   refine wpAnyH_done (by kernel_rfl) ?_ _
   refine NoPanic.normal ?_
   go_wp2_with fail
   go_ret
   exact ⟨rfl,by rw [HZ.out];exact HB23.out⟩
end
end Go.Proofs.YtgmjpnnblhkbpaaDoor
