/-
  Words for memory and laws of the walk in these words, over any program: a slice that reads as a list of cells (nil let in), rows that the call owns, append, append of noughts, make, copy. No statement of the seat is proved here.
-/
import Derived.WalkKit
import Derived.WalkSpells
import Derived.Below
import Derived.Laws.OwnMore
import Derived.Laws.CopyOwn
import Derived.Maps.AppendAt
import Derived.Deep.AppendLies
import Derived.Deep.Draws
import Derived.Deep.Slices
import Derived.Deep.QuietTactic
import Derived.BigQuiet
import Derived.Lib.Hide
import Derived.LoopTactic
import Derived.RegionTactic
import Derived.OwnWalk
import Derived.Lib.AppendZerosOnto
namespace Go.Sh
open Go Go.RowKit
theorem block_of_add (a : Addr) (n : Nat) : (a.add n).block = a.block:=by
 rcases Nat.eq_zero_or_pos n with h | h
 · rw [h];rfl
 · rw [Addr.add,if_neg (by omega)]
theorem add_mk (g o i : Nat) : (⟨g,o,none⟩ : Addr).add i = ⟨g,o + i,none⟩:=Addr.add_lit g o i
def Lies (w : World) (ad : Addr) (xs : List Value) : Prop:=∀ j,j < xs.length → w.cell? (ad.add j) = xs[j]?
theorem Lies.get {w : World} {ad : Addr} {xs : List Value} (h : Lies w ad xs) {j : Nat} {u : Value} (hu : xs[j]? = some u) : w.cell? (ad.add j) = some u:=
 (h j (List.getElem?_eq_some_iff.1 hu).1).trans hu
def Reads (w : World) (B size : Nat) (A : Option Addr) (n : Nat) (xs : List Value) : Prop:=
 xs.length = n * size ∧ (xs = [] ∨ ∃ ad,A = some ad ∧ ad.block < B ∧ Lies w ad xs)
section
variable {w w' : World} {B B' size n : Nat} {A : Option Addr} {xs : List Value}
theorem Reads.some_ (h : Reads w B size A n xs) (hn : 0 < xs.length) : ∃ ad,A = some ad ∧ ad.block < B ∧ Lies w ad xs:=
 h.2.resolve_left fun e=>by rw [e] at hn;cases hn
theorem Reads.at_ {k : Nat} (h : Reads w B 1 A n xs) (hk : k < n) : ∃ ad u,A = some ad ∧ ad.block < B ∧ xs[k]? = some u ∧ w.cell? (ad.add k) = some u:=by
 have hl : k < xs.length:=by rw [h.1];omega
 obtain ⟨ad,e,hb,hc⟩:=h.some_ (by omega)
 exact ⟨ad,_,e,hb,List.getElem?_eq_getElem hl,hc.get (List.getElem?_eq_getElem hl)⟩
theorem Reads.of_own {base : Nat} {e : TypeId} {c : Nat} (h : w.ownsRow base e size (.slice A n c) n xs) : Reads w w.heap.size size A n xs:=by
 refine ⟨h.1,?_⟩
 rcases h.2 with ⟨_,h0⟩ | ⟨g,cap,cur,hv,_,hh,_⟩
 · left
   apply List.eq_nil_of_length_eq_zero
   rw [h.1,h0,Nat.zero_mul]
 · injection hv with hv
   subst hv
   exact .inr ⟨_,rfl,(Array.getElem?_eq_some_iff.1 hh).1,fun j hj=>(h.cells (g:=g) rfl j _ (List.getElem?_eq_getElem hj)).trans (List.getElem?_eq_getElem hj).symm⟩
end
section
variable {w w' : World} {base e size n : Nat} {v : Value} {xs : List Value}
theorem own_below {B : Nat} (h : w.ownsRow base e size v n xs) (hb : Below B w w') (hv : ∀ k,v.ownBlock = some k → k < B) : w'.ownsRow base e size v n xs:=by
 refine ⟨h.1,?_⟩
 rcases h.2 with hn | ⟨g,cap,cur,rfl,hbg,hgg,rest⟩
 · exact .inl hn
 · exact .inr ⟨g,cap,cur,rfl,hbg,by rw [hb.block g (hv g rfl)];exact hgg,rest⟩
theorem own_later (h : w.ownsRow base e size v n xs) (hb : Below w.heap.size w w') : w'.ownsRow base e size v n xs:=own_below h hb fun k hk=>(h.lt k hk).2
theorem own_base {base' : Nat} (h : w.ownsRow base e size v n xs) (hb : base' ≤ base) : w.ownsRow base' e size v n xs:=by
 refine ⟨h.1,?_⟩
 rcases h.2 with hn | ⟨g,cap,cur,rfl,hbg,rest⟩
 · exact .inl hn
 · exact .inr ⟨g,cap,cur,rfl,by omega,rest⟩
end
theorem wl_step {P : Program} {ops : Array Oper} {Q : Exit → Act → World → Prop} {a : Act} {w : World} {rest : List Oper} {o : Oper} (hw : Region.wanted o (yielded ops a.tmps) = true)
   (h : ∀ K : Act → World → Prop,(∀ a w,wpList P ops Q rest a w → K a w) → o.wp P a w K Q) : wpList P ops Q (o :: rest) a w:=
 wpList_step fun K hK=>by rw [if_pos hw];exact h K hK
structure STy (P : Program) (t e : TypeId) (z : Value) (size bytes : Nat) : Prop where
 und : P.underlying t = some (.slice e)
 info : (P.info? e).map (fun i=>(i.zero,i.size,i.bytes)) = some (some z,size,bytes)
 zs : z.cells.size = size
 pos : 0 < size
section
variable {P : Program} {t e : TypeId} {z : Value} {size bytes : Nat}
theorem own_form {w : World} {base e size n : Nat} {v : Value} {xs : List Value} (h : w.ownsRow base e size v n xs) : ∃ A c,v = .slice A n c:=by
 rcases h.2 with ⟨rfl,rfl⟩ | ⟨g,cap,_,rfl,_⟩
 · exact ⟨none,0,rfl⟩
 · exact ⟨_,cap,rfl⟩
set_option maxRecDepth 100000 in
theorem run_app (T : STy P t e z size bytes) (w : World) (ty : TypeId) (base : Nat)
   (v : Value) (n : Nat) (xs : List Value) (hown : w.ownsRow base e size v n xs)
   (B : Nat) (A : Option Addr) (m c : Nat) (news : List Value) (hr : Reads w B size A m news) (h1 : ∀ u ∈ news,u.oneCell' = true)
   (hbytes : (n + m) * bytes ≤ 140737488355328) (h63 : n + m ≤ 9223372036854775807) (hbase : base ≤ w.heap.size) :
   ∃ A' c' w',(Builtin.append_ #[t,t] ty #[v,.slice A m c]).run P w = .ok (.slice A' (n + m) c') w' ∧ w'.ownsRow base e size (.slice A' (n + m) c') (n + m) (xs ++ news) ∧ w.grownBy w' v.ownBlock ∧
     ((Value.slice A' (n + m) c').ownBlock = v.ownBlock ∨ (Value.slice A' (n + m) c').ownBlock = some w.heap.size):=by
 obtain ⟨i,hi,hz,hsize,hby⟩:=info_parts T.info
 have hsz:=T.pos
 rcases A with _ | ad
 · have hn : news = []:=hr.2.resolve_right fun h=>by
     obtain ⟨ad,h,_⟩:=h
     cases h
   subst hn
   obtain rfl : m = 0:=by
     rcases Nat.eq_zero_or_pos m with h0 | h0
     · exact h0
     · exact absurd hr.1 (Nat.ne_of_lt (Nat.mul_pos h0 hsz))
   obtain ⟨A,c0,rfl⟩:=own_form hown
   refine ⟨A,c0,w,?_,by simpa using hown,World.grownBy.refl w _,.inl rfl⟩
   have hfit : n ≤ c0:=by
     rcases hown.2 with ⟨h,h0⟩ | ⟨g,cap,cur,h,_,_,hnc,_⟩
     · omega
     · injection h with _ _ h
       omega
   have hz0 : ∀ a : Addr,(storeCells a [] 0).run P w = .ok () w:=fun _=>rfl
   cases A <;> simp [Builtin.append_,run_underlying T.und,sizeOf,typeInfo,hi,Builtin.lenOf,Builtin.firstCells,hfit,hz0]
 · have hcells : ∀ j u,news[j]? = some u → w.cell? (ad.add j) = some u:=by
     intro j u hu
     have hj:=(List.getElem?_eq_some_iff.1 hu).1
     obtain ⟨ad',h,_,hc⟩:=hr.some_ (by omega)
     injection h with h
     subst h
     exact hc.get hu
   obtain ⟨v',w',hrun,h2,h3,_,h5⟩:=run_append_own_at (P:=P) w base t ty e i z size bytes T.und hi hz hsize hby T.zs T.pos v n xs hown ad m c news hr.1 hcells h1 (by simp only [maxLen];omega) hbytes hbase
   obtain ⟨A',c',rfl⟩:=own_form h2
   exact ⟨A',c',w',hrun,h2,h3,h5⟩
theorem wp_app (T : STy P t e z size bytes) (w : World) {o : Oper} {a : Act} {K : Act → World → Prop} {Q : Exit → Act → World → Prop} (s x : Operand)
   (ho : o.op = .call { callee:=.builtin .append,args:=#[s,x],argTypes:=#[t,t] })
   (v : Value) (hs : a.eval s = v) (A : Option Addr) (m c : Nat) (hx : a.eval x = .slice A m c)
   (base : Nat) (n : Nat) (xs : List Value) (hown : w.ownsRow base e size v n xs)
   (B : Nat) (news : List Value) (hr : Reads w B size A m news) (h1 : ∀ u ∈ news,u.oneCell' = true)
   (hbytes : (n + m) * bytes ≤ 140737488355328) (h63 : n + m ≤ 9223372036854775807) (hbase : base ≤ w.heap.size)
   (h : ∀ A' c' w',w'.ownsRow base e size (.slice A' (n + m) c') (n + m) (xs ++ news) → w.grownBy w' v.ownBlock → ((Value.slice A' (n + m) c').ownBlock = v.ownBlock ∨ (Value.slice A' (n + m) c').ownBlock = some w.heap.size) → K (a.put o.dst (.slice A' (n + m) c')) w') : o.wp P a w K Q:=by
 obtain ⟨A',c',w',hrun,h2,h3,h4⟩:=run_app T w o.type base v n xs hown B A m c news hr h1 hbytes h63 hbase
 unfold Oper.wp execOp
 simp only [ho,resolve,invoke,builtin,Sem.run_bind,Sem.run_pure,Result.andThen_ok,List.map_toArray,List.map_cons,List.map_nil,hs,hx,hrun]
 exact h A' c' w' h2 h3 h4
theorem wl_app (T : STy P t e z size bytes) {w : World} {ops : Array Oper} {rest : List Oper} {o : Oper} {a : Act} {Q : Exit → Act → World → Prop} (hw : Region.wanted o (yielded ops a.tmps) = true) (s x : Operand)
   (ho : o.op = .call { callee:=.builtin .append,args:=#[s,x],argTypes:=#[t,t] })
   (v : Value) (hs : a.eval s = v) (A : Option Addr) (m c : Nat) (hx : a.eval x = .slice A m c)
   (base : Nat) (n : Nat) (xs : List Value) (hown : w.ownsRow base e size v n xs)
   (B : Nat) (news : List Value) (hr : Reads w B size A m news) (h1 : ∀ u ∈ news,u.oneCell' = true)
   (hbytes : (n + m) * bytes ≤ 140737488355328) (h63 : n + m ≤ 9223372036854775807) (hbase : base ≤ w.heap.size)
   (h : ∀ A' c' w',w'.ownsRow base e size (.slice A' (n + m) c') (n + m) (xs ++ news) → w.grownBy w' v.ownBlock → ((Value.slice A' (n + m) c').ownBlock = v.ownBlock ∨ (Value.slice A' (n + m) c').ownBlock = some w.heap.size) → wpList P ops Q rest (a.put o.dst (.slice A' (n + m) c')) w') : wpList P ops Q (o :: rest) a w:=
 wl_step hw fun _ hK=>wp_app T w s x ho v hs A m c hx base n xs hown B news hr h1 hbytes h63 hbase fun A' c' w' h2 h3 h4=>hK _ _ (h A' c' w' h2 h3 h4)
end
def bt (l : List UInt8) (k : Nat) : Int:=((l.getD k 0).toNat : Int)
def bv (l : List UInt8) : List Value:=l.map fun x=>.int .u8 (x.toNat : Int)
theorem length_bv (l : List UInt8) : (bv l).length = l.length:=by simp [bv]
theorem bv_one (l : List UInt8) : ∀ u ∈ bv l,u.oneCell' = true:=by
 intro u hu
 obtain ⟨_,_,rfl⟩:=List.mem_map.1 hu
 rfl
theorem bv_append (l r : List UInt8) : bv (l ++ r) = bv l ++ bv r:=by simp [bv]
theorem bv_at (l : List UInt8) (k : Nat) (h : k < l.length) : (bv l)[k]? = some (.int .u8 (bt l k)):=by
 simp [bv,bt,List.getElem?_eq_getElem h]
def RB (w : World) (B : Nat) (A : Option Addr) (n : Nat) (l : List UInt8) : Prop:=Reads w B 1 A n (bv l)
section
variable {w w' : World} {B B' n : Nat} {A : Option Addr} {l : List UInt8}
theorem RB.len (h : RB w B A n l) : l.length = n:=by have:=h.1;rw [length_bv] at this;omega
theorem RB.at_ {k : Nat} (h : RB w B A n l) (hk : k < n) : ∃ ad,A = some ad ∧ ad.block < B ∧ w.cell? (ad.add k) = some (.int .u8 (bt l k)):=by
 obtain ⟨ad,u,e,hb,hx,hc⟩:=Reads.at_ h hk
 rw [bv_at l k (by rw [h.len];exact hk)] at hx
 obtain rfl:=Option.some.inj hx
 exact ⟨ad,e,hb,hc⟩
theorem RB.of_own {base e c : Nat} (h : w.ownsRow base e 1 (.slice A n c) n (bv l)) : RB w w.heap.size A n l:=Reads.of_own h
end
theorem push_all (l : List UInt8) : ∀ s : ByteArray,(l.map fun x=>(x.toNat : Int)).foldl (fun r n=>r.push (UInt8.ofNat n.toNat)) s = ⟨s.data ++ l.toArray⟩:=by
 induction l with
 | nil=>intro s;simp
 | cons x l ih=>
   intro s
   rw [List.map_cons,List.foldl_cons,ih]
   simp [ByteArray.push]
set_option maxRecDepth 100000 in
theorem run_str {P : Program} {t e u : TypeId} (ht : P.underlying t = some (.slice e)) (he : P.underlying e = some (.int .u8)) (hu : P.underlying u = some .string) (w : World) (B : Nat) (A : Option Addr) (n c : Nat) (l : List UInt8) (hr : RB w B A n l) :
   (convert t u (.slice A n c)).run P w = .ok (.string ⟨l.toArray⟩) w:=by
 rw [run_convert_bytes_string w t u e A n c ht he hu]
 cases A with
 | none=>
   have h0 : bv l = []:=hr.2.resolve_right fun h=>by
     obtain ⟨ad,h,_⟩:=h
     cases h
   have hl : l = []:=by simpa [bv] using h0
   subst hl
   rfl
 | some ad=>
   have hcells : ∀ j u,(bv l)[j]? = some u → w.cell? (ad.add j) = some u:=by
     intro j u hu
     have hj:=(List.getElem?_eq_some_iff.1 hu).1
     obtain ⟨ad',h,_,hc⟩:=Reads.some_ hr (by omega)
     injection h with h
     subst h
     exact hc.get hu
   have hload:=run_loadCells_list (P:=P) w ad (bv l) hcells
   have hb : bv l = (l.map fun x=>(x.toNat : Int)).map (Value.int .u8):=by simp [bv]
   rw [length_bv,hr.len,hb] at hload
   rw [run_bytesToString w ad n c _ hload,push_all]
   simp
theorem wl_str {P : Program} {t e v : TypeId} (ht : P.underlying t = some (.slice e)) (he : P.underlying e = some (.int .u8)) (hv : P.underlying v = some .string) {w : World} {ops : Array Oper} {rest : List Oper} {o : Oper} {a : Act} {Q : Exit → Act → World → Prop} (hw : Region.wanted o (yielded ops a.tmps) = true) (x : Operand)
   (ho : o.op = .convert t v x) (A : Option Addr) (n c : Nat) (hx : a.eval x = .slice A n c) (B : Nat) (l : List UInt8) (hr : RB w B A n l)
   (h : wpList P ops Q rest (a.put o.dst (.string ⟨l.toArray⟩)) w) : wpList P ops Q (o :: rest) a w:=by
 have hrun:=run_str (P:=P) ht he hv w B A n c l hr
 refine wl_step hw fun K hK=>?_
 unfold Oper.wp
 simp only [execOp,ho,hx,Sem.run_bind,hrun,Result.andThen_ok,Sem.run_pure]
 exact hK _ _ h
theorem Reads.lit (w : World) (e : TypeId) (cs : List Value) (n size : Nat) (hn : cs.length = n * size) (g : Nat) (hg : w.heap.size = g) : Reads (w.alloc (.cells cs.toArray e)) (g + 1) size (some ⟨g,0,none⟩) n cs:=by
 subst hg
 refine ⟨hn,.inr ⟨_,rfl,by simp,fun j hj=>?_⟩⟩
 rw [add_mk,cell_of_row (w.alloc (.cells cs.toArray e)) w.heap.size (0 + j) cs.toArray e (0,0) (heap_alloc_new w _)]
 simp
section
variable {w w' : World} {B B' n : Nat} {A : Option Addr} {zs : List Int}
end
section
variable {w w' : World} {B B' m : Nat} {A : Option Addr} {ls : List (List UInt8)}
end
end Go.Sh
