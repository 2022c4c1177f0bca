/-
  The parser's via. No conditions.
-/
import Derived.Test.YtgmjpnnblhkbpaaDoorTwUM
namespace Go.Proofs.YtgmjpnnblhkbpaaDoor
open Go Go.RowKit Go.Sh Tx
structure Q5 where
 o : ByteArray
 m : Int
 t : ByteArray
 a : Int
 A : Option Addr
 n : Nat
 d : Nat
def Q5.cells (q : Q5) : List Value:=[.string q.o,.int .i64 q.m,.string q.t,.int .i64 q.a,.slice q.A q.n q.d]
def Q5.zero : Q5:=⟨⟨#[]⟩,0,⟨#[]⟩,0,none,0,0⟩
structure Q2 where
 t : ByteArray
 a : Int
def Q2.cells (q : Q2) : List Value:=[.string q.t,.int .i64 q.a]
def Q2.zero : Q2:=⟨⟨#[]⟩,0⟩
structure QS where
 A : Option Addr
 n : Nat
 d : Nat
def QS.val (q : QS) : Value:=.slice q.A q.n q.d
def QS.zero : QS:=⟨none,0,0⟩
inductive RfV : List Bs → List (List Value) → Prop where
 | nil : RfV [] []
 | cons {t : Bs} {l : List Bs} {css : List (List Value)} {q : Q2} : q.t = sb t → RfV l css → RfV (t :: l) (q.cells :: css)
section
variable {l m : List Bs} {css dss : List (List Value)}
theorem RfV.len (h : RfV l css) : css.length = l.length:=by induction h with | nil=>rfl | cons _ _ i=>simp [i]
theorem RfV.size (h : RfV l css) : ∀ cs ∈ css,cs.length = 2:=by
 induction h with
 | nil=>intro cs h;cases h
 | cons _ _ i=>
   intro cs h
   rcases List.mem_cons.1 h with rfl | h
   · rfl
   · exact i cs h
theorem RfV.cell (h : RfV l css) : ∀ cs ∈ css,∀ v ∈ cs,v.oneCell' = true:=by
 induction h with
 | nil=>intro cs h;cases h
 | cons _ _ i=>
   intro cs h
   rcases List.mem_cons.1 h with rfl | h
   · intro v hv
     simp only [Q2.cells,List.mem_cons,List.not_mem_nil,or_false] at hv
     rcases hv with rfl | rfl <;> rfl
   · exact i cs h
theorem RfV.app (h : RfV l css) (h' : RfV m dss) : RfV (l ++ m) (css ++ dss):=by
 induction h with
 | nil=>exact h'
 | cons h1 _ i=>exact .cons h1 i
end
def rfR : Rw Bs:=⟨fun _ _=>RfV,2,.nil,fun h _=>h,fun h _=>h,RfV.app,RfV.size,RfV.cell,RfV.len⟩
inductive PlV (X : Nat → Prop) (w : World) : List Pl → List (List Value) → Prop where
 | nil : PlV X w [] []
 | cons {e : Pl} {l : List Pl} {css : List (List Value)} {q : Q2} {d f : Q5} : q.t = sb e.node → TrV X w [e.delay] [d.cells] → TrV X w [e.flags] [f.cells] → PlV X w l css → PlV X w (e :: l) ((q.cells ++ d.cells ++ f.cells) :: css)
section
variable {X Y : Nat → Prop} {w w' : World} {l m : List Pl} {css dss : List (List Value)}
theorem PlV.len (h : PlV X w l css) : css.length = l.length:=by induction h with | nil=>rfl | cons _ _ _ _ i=>simp [i]
theorem PlV.size (h : PlV X w l css) : ∀ cs ∈ css,cs.length = 12:=by
 induction h with
 | nil=>intro cs h;cases h
 | cons _ _ _ _ i=>
   intro cs h
   rcases List.mem_cons.1 h with rfl | h
   · rfl
   · exact i cs h
theorem Q5.one (q : Q5) : ∀ v ∈ q.cells,v.oneCell' = true:=by
 intro v hv
 simp only [Q5.cells,List.mem_cons,List.not_mem_nil,or_false] at hv
 rcases hv with rfl | rfl | rfl | rfl | rfl <;> rfl
theorem Q2.one (q : Q2) : ∀ v ∈ q.cells,v.oneCell' = true:=by
 intro v hv
 simp only [Q2.cells,List.mem_cons,List.not_mem_nil,or_false] at hv
 rcases hv with rfl | rfl <;> rfl
theorem PlV.cell (h : PlV X w l css) : ∀ cs ∈ css,∀ v ∈ cs,v.oneCell' = true:=by
 induction h with
 | nil=>intro cs h;cases h
 | cons _ _ _ _ i=>
   intro cs h
   rcases List.mem_cons.1 h with rfl | h
   · intro v hv
     simp only [List.mem_append] at hv
     rcases hv with (hv | hv) | hv
     · exact Q2.one _ v hv
     · exact Q5.one _ v hv
     · exact Q5.one _ v hv
   · exact i cs h
theorem PlV.app (h : PlV X w l css) (h' : PlV X w m dss) : PlV X w (l ++ m) (css ++ dss):=by
 induction h with
 | nil=>exact h'
 | cons h1 h2 h3 _ i=>exact .cons h1 h2 h3 i
theorem PlV.keep (h : PlV X w l css) (hb : ∀ b,X b → w'.heap[b]? = w.heap[b]?) : PlV X w' l css:=by
 induction h with
 | nil=>exact .nil
 | cons h1 h2 h3 _ i=>exact .cons h1 (h2.keep hb) (h3.keep hb) i
theorem PlV.mono (h : PlV X w l css) (hb : ∀ b,X b → Y b) : PlV Y w l css:=by
 induction h with
 | nil=>exact .nil
 | cons h1 h2 h3 _ i=>exact .cons h1 (h2.mono hb) (h3.mono hb) i
end
def plR : Rw Pl:=⟨PlV,12,.nil,PlV.keep,PlV.mono,PlV.app,PlV.size,PlV.cell,PlV.len⟩
inductive DcV (X : Nat → Prop) (w : World) : List Dc → List (List Value) → Prop where
 | nil : DcV X w [] []
 | cons {e : Dc} {l : List Dc} {css ps : List (List Value)} {k : ByteArray} {q : Q2} {v : Q5} {s : QS} : k = sb e.kind → q.t = sb e.name → TrV X w [e.value] [v.cells] → PlV X w e.places ps → RP X w 12 s.A s.n ps → s.n ≤ s.d → DcV X w l css → DcV X w (e :: l) ((Value.string k :: (q.cells ++ v.cells ++ [s.val])) :: css)
section
variable {X Y : Nat → Prop} {w w' : World} {l m : List Dc} {css dss : List (List Value)}
theorem DcV.len (h : DcV X w l css) : css.length = l.length:=by induction h with | nil=>rfl | cons _ _ _ _ _ _ _ i=>simp [i]
theorem DcV.size (h : DcV X w l css) : ∀ cs ∈ css,cs.length = 9:=by
 induction h with
 | nil=>intro cs h;cases h
 | cons _ _ _ _ _ _ _ i=>
   intro cs h
   rcases List.mem_cons.1 h with rfl | h
   · rfl
   · exact i cs h
theorem DcV.cell (h : DcV X w l css) : ∀ cs ∈ css,∀ v ∈ cs,v.oneCell' = true:=by
 induction h with
 | nil=>intro cs h;cases h
 | cons _ _ _ _ _ _ _ i=>
   intro cs h
   rcases List.mem_cons.1 h with rfl | h
   · intro v hv
     simp only [List.mem_append,List.mem_cons,List.not_mem_nil,or_false] at hv
     rcases hv with rfl | (hv | hv) | rfl
     · rfl
     · exact Q2.one _ v hv
     · exact Q5.one _ v hv
     · rfl
   · exact i cs h
theorem DcV.app (h : DcV X w l css) (h' : DcV X w m dss) : DcV X w (l ++ m) (css ++ dss):=by
 induction h with
 | nil=>exact h'
 | cons h1 h2 h3 h4 h5 h6 _ i=>exact .cons h1 h2 h3 h4 h5 h6 i
theorem DcV.keep (h : DcV X w l css) (hb : ∀ b,X b → w'.heap[b]? = w.heap[b]?) : DcV X w' l css:=by
 induction h with
 | nil=>exact .nil
 | cons h1 h2 h3 h4 h5 h6 _ i=>exact .cons h1 h2 (h3.keep hb) (h4.keep hb) (h5.keep hb) h6 i
theorem DcV.mono (h : DcV X w l css) (hb : ∀ b,X b → Y b) : DcV Y w l css:=by
 induction h with
 | nil=>exact .nil
 | cons h1 h2 h3 h4 h5 h6 _ i=>exact .cons h1 h2 (h3.mono hb) (h4.mono hb) (h5.mono hb) h6 i
end
def dcR : Rw Dc:=⟨DcV,9,.nil,DcV.keep,DcV.mono,DcV.app,DcV.size,DcV.cell,DcV.len⟩
structure SC where
 kind : ByteArray
 at_ : Int
 name : Q2
 a : Q5
 b : Q5
 c : Q5
 routes : QS
 block : Q2
 tag : Q2
 body : QS
 els : QS
def SC.cells (c : SC) : List Value:=
 [.string c.kind,.int .i64 c.at_,.string c.name.t,.int .i64 c.name.a,.string c.a.o,.int .i64 c.a.m,.string c.a.t,.int .i64 c.a.a,.slice c.a.A c.a.n c.a.d,
  .string c.b.o,.int .i64 c.b.m,.string c.b.t,.int .i64 c.b.a,.slice c.b.A c.b.n c.b.d,.string c.c.o,.int .i64 c.c.m,.string c.c.t,.int .i64 c.c.a,.slice c.c.A c.c.n c.c.d,
  .slice c.routes.A c.routes.n c.routes.d,.string c.block.t,.int .i64 c.block.a,.string c.tag.t,.int .i64 c.tag.a,.slice c.body.A c.body.n c.body.d,.slice c.els.A c.els.n c.els.d]
def SC.zero : SC:=⟨⟨#[]⟩,0,.zero,.zero,.zero,.zero,.zero,.zero,.zero,.zero,.zero⟩
inductive StV (X : Nat → Prop) (w : World) : List St → List (List Value) → Prop where
 | nil : StV X w [] []
 | cons {kind name : Bs} {a b c : Ex} {routes : List Bs} {block tag : Bs} {body els l : List St} {k : SC} {rs bs es css : List (List Value)} : k.kind = sb kind → k.name.t = sb name → TrV X w [a] [k.a.cells] → TrV X w [b] [k.b.cells] → TrV X w [c] [k.c.cells] →
     (RfV routes rs ∧ RP X w 2 k.routes.A k.routes.n rs ∧ k.routes.n ≤ k.routes.d) → k.block.t = sb block → k.tag.t = sb tag → StV X w body bs → (RP X w 26 k.body.A k.body.n bs ∧ k.body.n ≤ k.body.d) → StV X w els es → (RP X w 26 k.els.A k.els.n es ∧ k.els.n ≤ k.els.d) → StV X w l css →
     StV X w (.mk kind name a b c routes block tag body els :: l) (k.cells :: css)
section
variable {X Y : Nat → Prop} {w w' : World} {l m : List St} {css dss : List (List Value)}
theorem StV.len (h : StV X w l css) : css.length = l.length:=by induction h with | nil=>rfl | cons _ _ _ _ _ _ _ _ _ _ _ _ _ _ _ i=>simp [i]
theorem StV.size (h : StV X w l css) : ∀ cs ∈ css,cs.length = 26:=by
 induction h with
 | nil=>intro cs h;cases h
 | cons _ _ _ _ _ _ _ _ _ _ _ _ _ _ _ i=>
   intro cs h
   rcases List.mem_cons.1 h with rfl | h
   · rfl
   · exact i cs h
theorem SC.one (c : SC) : ∀ v ∈ c.cells,v.oneCell' = true:=by
 intro v hv
 simp only [SC.cells,List.mem_cons,List.not_mem_nil,or_false] at hv
 rcases hv with rfl | rfl | rfl | rfl | rfl | rfl | rfl | rfl | rfl | rfl | rfl | rfl | rfl | rfl | rfl | rfl | rfl | rfl | rfl | rfl | rfl | rfl | rfl | rfl | rfl | rfl <;> rfl
theorem StV.cell (h : StV X w l css) : ∀ cs ∈ css,∀ v ∈ cs,v.oneCell' = true:=by
 induction h with
 | nil=>intro cs h;cases h
 | cons _ _ _ _ _ _ _ _ _ _ _ _ _ _ _ i=>
   intro cs h
   rcases List.mem_cons.1 h with rfl | h
   · exact SC.one _
   · exact i cs h
theorem StV.app (h : StV X w l css) (h' : StV X w m dss) : StV X w (l ++ m) (css ++ dss):=by
 induction h with
 | nil=>exact h'
 | cons h1 h2 h3 h4 h5 h6 h7 h8 h9 h10 h11 h12 _ _ _ i=>exact .cons h1 h2 h3 h4 h5 h6 h7 h8 h9 h10 h11 h12 i
theorem StV.keep (h : StV X w l css) (hb : ∀ b,X b → w'.heap[b]? = w.heap[b]?) : StV X w' l css:=by
 induction h with
 | nil=>exact .nil
 | cons h1 h2 h3 h4 h5 h6 h7 h8 _ h10 _ h12 _ i1 i2 i=>exact .cons h1 h2 (h3.keep hb) (h4.keep hb) (h5.keep hb) ⟨h6.1,h6.2.1.keep hb,h6.2.2⟩ h7 h8 i1 ⟨h10.1.keep hb,h10.2⟩ i2 ⟨h12.1.keep hb,h12.2⟩ i
theorem StV.mono (h : StV X w l css) (hb : ∀ b,X b → Y b) : StV Y w l css:=by
 induction h with
 | nil=>exact .nil
 | cons h1 h2 h3 h4 h5 h6 h7 h8 _ h10 _ h12 _ i1 i2 i=>exact .cons h1 h2 (h3.mono hb) (h4.mono hb) (h5.mono hb) ⟨h6.1,h6.2.1.mono hb,h6.2.2⟩ h7 h8 i1 ⟨h10.1.mono hb,h10.2⟩ i2 ⟨h12.1.mono hb,h12.2⟩ i
end
def stR : Rw St:=⟨StV,26,.nil,StV.keep,StV.mono,StV.app,StV.size,StV.cell,StV.len⟩
end Go.Proofs.YtgmjpnnblhkbpaaDoor
namespace Go.Proofs.YtgmjpnnblhkbpaaDoor
open Go Go.RowKit Go.Sh Tx
open Go.Lib (hid)
theorem TL.lit {α : Type} {K : Rw α} {e : TypeId} {lo : Nat} {w0 w1 : World} {x : α} {cs : List Value} (h : K.R (Fr w0 w1) w1 [x] [cs]) (hlo : lo ≤ w0.heap.size) (h01 : w0.heap.size ≤ w1.heap.size) : TL K e lo (w1.alloc (.cells cs.toArray e)) (.slice (some ⟨w1.heap.size,0,none⟩) 1 1) 1 [x]:=by
 have hcl : cs.length = K.sz:=K.size h cs (List.mem_singleton.2 rfl)
 have hs2 : (w1.alloc (.cells cs.toArray e)).heap.size = w1.heap.size + 1:=Array.size_push _
 have ha2 : Below w1.heap.size w1 (w1.alloc (.cells cs.toArray e)):=(Below.refl _ w1).alloc (Nat.le_refl _) _
 refine ⟨[cs],⟨by simp [hcl],.inr ⟨w1.heap.size,1,cs.toArray,rfl,by omega,heap_alloc_new w1 _,Nat.le_refl _,by decide,by simp [hcl],by simp [← hcl]⟩⟩,?_,rfl⟩
 refine K.mono (K.keep h fun b hb=>ha2.block b hb.2) fun b hb=>⟨by have:=hb.1;omega,by have:=hb.2;omega,?_⟩
 intro he
 have h1 : w1.heap.size = b:=Option.some.inj he
 have h2:=hb.2
 omega
set_option maxRecDepth 100000 in
theorem TTr : STy Tryd.prog 62 52 (.agg #[.string .empty,.int .i64 0]) 2 24:=⟨Tryd.underlying62,by kernel_rfl,rfl,by decide⟩
theorem ref_len (s : PS) : (refS s).2.1.length ≤ s.1.length:=by
 unfold refS
 split
 · simp [nx]
 · unfold failS;split <;> exact Nat.le_refl _
theorem RfV.one {X : Nat → Prop} {w : World} (t : Bs) (a : Int) : rfR.R X w [t] [[.string (sb t),.int .i64 a]]:=RfV.cons (q:=⟨sb t,a⟩) rfl .nil
def ViaPost (p q b k : Nat) (sv : Bool) (s : PS) (w : World) (e : Ending) (w' : World) : Prop:=
 ∃ (l : List Bs) (s' : PS) (A : Option Addr) (n d : Nat) (rs : List (List Value)),ViaR sv s l s' ∧ e = .returned (.slice A n d) ∧ (RfV l rs ∧ RP (Fr w w') w' 2 A n rs ∧ n ≤ d) ∧ Ps w' p q s' b k ∧ Kx q p w.heap.size w w'
section
set_option maxHeartbeats 16000000
set_option maxRecDepth 100000
set_option maxRecDepth 100000 in
theorem via_any (p q b k : Nat) (sv : Bool) (s : PS) (w : World) (h : Ps w p q s b k) : Calls Tryd.prog 57 #[.pointer (some ⟨p,0,none⟩),.bool sv] w (ViaPost p q b k sv s w):=by
 have hp:=h.size
 have hqp:=h.lt
 have HTK:=hid (show Calls Tryd.prog 32 #[.pointer (some ⟨p,0,none⟩),.string ⟨#[118,105,97]⟩] w _ from take_any p q b k s kVia w h)
 have HRE:=hid (fun (s : PS) W (hs : Ps W p q s b k)=>ref_any p q b k s W hs)
 have HAL:=hid (fun (s : PS) W (hs : Ps W p q s b k)=>(show Calls Tryd.prog 35 #[.pointer (some ⟨p,0,none⟩),.string ⟨#[44]⟩] W _ from also_any p q b k s kComma W hs))
 clear h
 go_enter Tryd.func57,Tryd.ntmps57
 go_wp2_with fail
 refine HTK.out.mono ?_
 rintro e w1 ⟨rfl,hp1,hk1⟩
 have HP1:=hid hp1
 have HK1:=hid hk1
 have hz1:=hk1.size
 clear hp1 hk1
 go_wp2_with fail
 refine (HRE.out _ w1 HP1.out).mono ?_
 rintro e w2 ⟨⟨a2,rfl⟩,hp2,hk2⟩
 obtain ⟨r2,hr2⟩ : ∃ r2,refS (takeS s kVia) = r2:=⟨_,rfl⟩
 rw [hr2] at hp2 ⊢
 have HR2:=hid hr2
 have HP2:=hid hp2
 have HK2:=hid (HK1.out.trans (hk2.least hz1))
 have hz2:=hk2.size
 clear hp2 hk2 hr2
 have hla : Below w2.heap.size w2 (w2.alloc (.cells #[.string (sb r2.1),.int .i64 a2] 52)):=(Below.refl _ w2).alloc (Nat.le_refl _) _
 have HT3:=hid (show TL rfR 52 w.heap.size (w2.alloc (.cells #[.string (sb r2.1),.int .i64 a2] 52)) (.slice (some ⟨w2.heap.size,0,none⟩) 1 1) 1 [r2.1] from TL.lit (w0:=w1) (RfV.one r2.1 a2) hz1 hz2)
 have HP3:=hid (HP2.out.below HP2.out.size hla)
 have HK3:=hid (HK2.out.trans (Kx.of hla (by omega)))
 have HZ3:=hid (Nat.le_trans (Nat.le_trans hz1 hz2) hla.size)
 have HB3:=hid HP2.out.stm.bound
 clear hla
 go_wp2_with fail
 generalize w2.alloc (.cells #[.string (sb r2.1),.int .i64 a2] 52) = w3 at *
 go_loopw [5] (fun v wr=>∃ (l : List Bs) (s' : PS) (A : Option Addr) (n' c' : Nat),v = .slice A n' c' ∧ n' + s'.1.length ≤ 8002 ∧ (∀ l2 s2,(sv = true → RefsR l s' l2 s2) → (sv = false → l2 = l ∧ s2 = s') → ViaR sv s l2 s2) ∧ TL rfR 52 w.heap.size wr (.slice A n' c') n' l ∧ Ps wr p q s' b k ∧ Kx q p w.heap.size w wr ∧ w.heap.size ≤ wr.heap.size) (fun _ wr=>mW q wr)
 case atStart=>
   refine ⟨[r2.1],r2.2,_,1,1,rfl,by have:=HB3.out;omega,?_,HT3.out,HP3.out,HK3.out,HZ3.out⟩
   intro l2 s2 h1 h2
   rw [← HR2.out] at h1 h2
   cases sv with
   | true=>exact .many (h1 rfl)
   | false=>obtain ⟨rfl,rfl⟩:=h2 rfl;exact .one
 case round=>
   obtain ⟨l,s1,A,n,c,hv,hbd,hc,htl,hp1,hk1,hz⟩:=hrel
   subst hv
   have HBD:=hid hbd
   have HC:=hid hc
   have HTL:=hid htl
   have HP:=hid hp1
   have HK:=hid hk1
   have HMW:=hid (mW_of hp1.stm)
   clear hbd hc htl hp1 hk1 HT3 HP3 HK3 HZ3 HB3 HP1 HK1 HP2 HK2 hz1 hz2
   cases sv with
   | false=>
     go_wp2_with fail
     go_ret
     obtain ⟨rs,hrp,hrv,hnc⟩:=HTL.out.done (w0:=w) (Nat.le_refl _)
     exact ⟨l,s1,A,n,c,rs,HC.out _ _ (fun h=>by cases h) (fun _=>⟨rfl,rfl⟩),rfl,⟨hrv,hrp,hnc⟩,HP.out,HK.out⟩
   | true=>
     go_wp2_with fail
     refine (HAL.out s1 wr HP.out).mono ?_
     rintro e w4 ⟨rfl,hp4,hk4⟩
     have HP4:=hid hp4
     have HTL4:=hid (HTL.out.kx hk4 (Nat.le_refl _) (show q < w.heap.size by omega) hp)
     have HK4:=hid (HK.out.trans (hk4.least hz))
     have hz4:=Nat.le_trans hz hk4.size
     clear hp4 hk4
     cases hse : sees s1 [kComma] with
     | false=>
       have hal : alsoS s1 kComma = s1:=by rw [alsoS,if_neg (by rw [hse];decide)]
       rw [hal] at HP4
       go_wp2_with fail
       go_ret
       obtain ⟨rs,hrp,hrv,hnc⟩:=HTL4.out.done (w0:=w) (Nat.le_refl _)
       exact ⟨l,s1,A,n,c,rs,HC.out _ _ (fun _=>.stop hse) (fun h=>by cases h),rfl,⟨hrv,hrp,hnc⟩,HP4.out,HK4.out⟩
     | true=>
       have hal : alsoS s1 kComma = nx s1:=by rw [alsoS,if_pos hse]
       rw [hal] at HP4
       have HREF:=hid (HRE.out (nx s1) w4 HP4.out)
       go_wp2_with fail
       refine HREF.out.mono ?_
       rintro e w5 ⟨⟨a5,rfl⟩,hp5,hk5⟩
       have HLN:=hid (ref_len (nx s1))
       obtain ⟨r5,hr5⟩ : ∃ r5,refS (nx s1) = r5:=⟨_,rfl⟩
       rw [hr5] at hp5 HLN ⊢
       have HR5:=hid hr5
       obtain ⟨A3,c3,w6,hrun,htl6,hbl6,hs6⟩:=TL.push (K:=rfR) (p:=p) (q:=q) 62 TTr (by decide) HTL4.out hk5 (show q < w.heap.size by omega) hp hz4 (by have:=HBD.out;omega) (RfV.one r5.1 a5)
       have HP6:=hid (hp5.below hp5.size ((Below.refl _ w5).alloc (Nat.le_refl _) (.cells #[.string (sb r5.1),.int .i64 a5] 52)))
       have HP7:=hid (hp5.below hp hbl6)
       have HK7:=hid ((HK4.out.trans (hk5.least hz4)).trans (Kx.of hbl6 (Nat.le_refl _)))
       have HTL7:=hid htl6
       have HZ7:=hid (show w.heap.size ≤ w6.heap.size from Nat.le_trans (Nat.le_trans hz4 hk5.size) hs6)
       have HRUN:=hid (show (Builtin.append_ #[62,62] 62 #[.slice A n c,.slice (some ⟨w5.heap.size,0,none⟩) 1 1]).run Tryd.prog (w5.alloc (.cells #[.string (sb r5.1),.int .i64 a5] 52)) = .ok (.slice A3 (n + 1) c3) w6 from hrun)
       clear hp5 hk5 hrun htl6 hbl6 hs6 hr5
       go_wp2_with (refine wl_step (by rfl) fun _ hK=>Lib.wp_append_run _ (.tmp 16) (.tmp 19) 62 62 rfl _ _ rfl rfl _ _ HRUN.out (hK _ _ ?_))
       obtain ⟨t,r,htr⟩:=seen_some hse
       have hlt : r5.2.1.length < s1.1.length:=by
         have h1:=HLN.out
         rw [nx,htr] at h1
         rw [htr,List.length_cons]
         exact Nat.lt_succ_of_le h1
       refine ⟨⟨l ++ [r5.1],r5.2,A3,n + 1,c3,rfl,by have:=HBD.out;omega,fun l2 s2 h1 _=>HC.out _ _ (fun _=>?_) (fun h=>by cases h),HTL7.out,HP7.out,HK7.out,HZ7.out⟩,?_⟩
       · refine .go hse ?_
         rw [HR5.out]
         exact h1 trivial
       · rw [mW_of HP7.out.stm,HMW.out];omega
end
end Go.Proofs.YtgmjpnnblhkbpaaDoor
