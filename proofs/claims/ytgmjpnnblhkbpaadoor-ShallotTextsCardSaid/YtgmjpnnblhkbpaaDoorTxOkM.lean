/-
  The print of a source in plain Lean: its pieces can be told apart; so a source's print is scanned and parsed as the source. No program in sight.
-/

namespace Tx
abbrev Bs:=List UInt8
def isL (c : UInt8) : Bool:=decide (97 ≤ c.toNat) && decide (c.toNat ≤ 122)
def isD (c : UInt8) : Bool:=decide (48 ≤ c.toNat) && decide (c.toNat ≤ 57)
def isA (c : UInt8) : Bool:=isD c || isL c
def isB (c : UInt8) : Bool:=[32,9,10].contains c
def marks : Bs:=[59,44,123,125,40,41,61,62,64,33,43,45,42]
structure Tk where
 kind : Int
 text : Bs
 num : Int
def skipC : Bool → Bs → Bs
 | _,[]=>[]
 | true,c :: r=>if c = 10 then skipC false r else skipC true r
 | false,c :: r=>if isB c then skipC false r else if c = 35 then skipC true r else c :: r
def words : List Bs:=[[97,99,107,101,100],[97,102,116,101,114],[97,115],[98,108,111,99,107],[99,111,118,101,114],[101,108,115,101],[101,118,101,114,121],[105,102],[106,111,105,110],[108,101,116],[114,101,112,101,97,116],[114,101,116,114,121],[114,111,117,116,101],[115,101,110,100],[115,112,108,105,116],[116,105,109,101,115],[118,105,97],[119,97,105,116],[119,105,116,104]]
def reserved (w : Bs) : Bool:=words.contains w
def numV (w : Bs) : Nat:=w.foldl (fun n c=>10 * n + (c.toNat - 48)) 0
inductive TR where
 | bad (u : Bs)
 | ok (t : Tk) (u : Bs)
def nameT (u : Bs) : TR:=
 if 16 < (u.takeWhile isA).length then .bad u else .ok ⟨if reserved (u.takeWhile isA) then 2 else 1,u.takeWhile isA,0⟩ (u.dropWhile isA)
def zeroB (w : Bs) : Bool:=decide (9 < w.length) || (decide (1 < w.length) && w.headD 0 == 48)
def numberT (u : Bs) : TR:=
 if zeroB (u.takeWhile isD) then .bad u
 else if isL ((u.dropWhile isD).headD 0) then .bad (u.dropWhile isD)
 else .ok ⟨3,u.takeWhile isD,numV (u.takeWhile isD)⟩ (u.dropWhile isD)
def hexC : Bs:=[48,49,50,51,52,53,54,55,56,57,97,98,99,100,101,102]
def hexV (c : UInt8) : Option Nat:=hexC.idxOf? c
def escT : Bs → Option (UInt8 × Bs)
 | []=>none
 | d :: r=>
   if d = 34 ∨ d = 92 then some (d,r)
   else if d = 110 then some (10,r)
   else if d = 120 then
     match hexV (r.headD 0),hexV (r.tail.headD 0) with
     | some x,some y=>if 2 ≤ r.length then some (UInt8.ofNat (16 * x + y),r.tail.tail) else none
     | _,_=>none
   else none
theorem escT_lt {r r2 : Bs} {d : UInt8} (h : escT r = some (d,r2)) : r2.length < r.length:=by
 cases r with
 | nil=>cases h
 | cons c r=>
   rw [escT] at h
   split at h
   · injection h with h;injection h with _ h;subst h;simp
   · split at h
     · injection h with h;injection h with _ h;subst h;simp
     · split at h
       · split at h
         · split at h
           · injection h with h;injection h with _ h;subst h;simp;omega
           · cases h
         · cases h
       · cases h
def textT (acc : Bs) (u : Bs) : TR:=
 match u with
 | []=>.bad []
 | c :: r=>
   if c = 34 then .ok ⟨4,acc,0⟩ r
   else if c = 92 then
     match _h : escT r with
     | some (d,r2)=>textT (acc ++ [d]) r2
     | none=>.bad (c :: r)
   else if c.toNat < 32 ∨ 126 < c.toNat then .bad (c :: r)
   else textT (acc ++ [c]) r
termination_by u.length
decreasing_by
 · have:=escT_lt _h;simp;omega
 · simp
theorem textT_nil (acc : Bs) : textT acc [] = .bad []:=by rw [textT]
theorem textT_end (acc r : Bs) : textT acc (34 :: r) = .ok ⟨4,acc,0⟩ r:=by rw [textT];simp
theorem textT_esc {acc r r2 : Bs} {d : UInt8} (h : escT r = some (d,r2)) : textT acc (92 :: r) = textT (acc ++ [d]) r2:=by
 rw [textT]
 simp only [show ¬ ((92 : UInt8) = 34) by decide,if_false,if_true]
 split
 · rename_i d' r' h'
   rw [h] at h'
   injection h' with h'
   injection h' with h1 h2
   rw [h1,h2]
 · rename_i h'
   rw [h] at h';cases h'
theorem textT_bad {acc r : Bs} (h : escT r = none) : textT acc (92 :: r) = .bad (92 :: r):=by
 rw [textT]
 simp only [show ¬ ((92 : UInt8) = 34) by decide,if_false,if_true]
 split
 · rename_i d' r' h'
   rw [h] at h';cases h'
 · rfl
theorem textT_odd {acc r : Bs} {c : UInt8} (h1 : c ≠ 34) (h2 : c ≠ 92) (h3 : c.toNat < 32 ∨ 126 < c.toNat) : textT acc (c :: r) = .bad (c :: r):=by
 rw [textT];simp only [if_neg h1,if_neg h2,if_pos h3]
theorem textT_one {acc r : Bs} {c : UInt8} (h1 : c ≠ 34) (h2 : c ≠ 92) (h3 : ¬ (c.toNat < 32 ∨ 126 < c.toNat)) : textT acc (c :: r) = textT (acc ++ [c]) r:=by
 rw [textT];simp only [if_neg h1,if_neg h2,if_neg h3]
def tokT (u : Bs) : TR:=
 if isL (u.headD 0) then nameT u
 else if isD (u.headD 0) then numberT u
 else if u.headD 0 = 34 then textT [] u.tail
 else if marks.contains (u.headD 0) then .ok ⟨5,[u.headD 0],0⟩ u.tail
 else .bad u
inductive ScR : Bs → List Tk → Option Bs → Prop where
 | done {s : Bs} : skipC false s = [] → ScR s [] none
 | bad {s u f : Bs} : skipC false s = u → u ≠ [] → tokT u = .bad f → ScR s [] (some f)
 | more {s u r : Bs} {t : Tk} {ts : List Tk} {o : Option Bs} : skipC false s = u → u ≠ [] → tokT u = .ok t r → ScR r ts o → ScR s (t :: ts) o
theorem ScR.det {s : Bs} {ts ts' : List Tk} {o o' : Option Bs} (h : ScR s ts o) (h' : ScR s ts' o') : ts = ts' ∧ o = o':=by
 induction h generalizing ts' o' with
 | done h1=>
   cases h' with
   | done _=>exact ⟨rfl,rfl⟩
   | bad h2 h3 _=>exact absurd (h2.symm.trans h1) h3
   | more h2 h3 _ _=>exact absurd (h2.symm.trans h1) h3
 | bad h1 h2 h3=>
   cases h' with
   | done h4=>exact absurd (h1.symm.trans h4) h2
   | bad h4 h5 h6=>
     have e:=h1.symm.trans h4
     subst e
     rw [h3] at h6
     injection h6 with e
     exact ⟨rfl,by rw [e]⟩
   | more h4 h5 h6 _=>
     have e:=h1.symm.trans h4
     subst e
     rw [h3] at h6
     cases h6
 | more h1 h2 h3 _ ih=>
   cases h' with
   | done h4=>exact absurd (h1.symm.trans h4) h2
   | bad h4 h5 h6=>
     have e:=h1.symm.trans h4
     subst e
     rw [h3] at h6
     cases h6
   | more h4 h5 h6 h7=>
     have e:=h1.symm.trans h4
     subst e
     rw [h3] at h6
     injection h6 with e1 e2
     subst e1 e2
     obtain ⟨e3,e4⟩:=ih h7
     exact ⟨by rw [e3],e4⟩
def Gd (t : Tk) : Prop:=
 (t.kind = 1 ∧ isL (t.text.headD 0) = true ∧ t.text.all isA = true ∧ t.text.length ≤ 16 ∧ reserved t.text = false ∧ t.num = 0) ∨
 (t.kind = 2 ∧ reserved t.text = true ∧ t.num = 0) ∨
 (t.kind = 3 ∧ t.text ≠ [] ∧ t.text.all isD = true ∧ zeroB t.text = false ∧ t.num = (numV t.text : Nat)) ∨
 (t.kind = 4 ∧ t.num = 0) ∨
 (t.kind = 5 ∧ t.num = 0 ∧ ∃ c,t.text = [c] ∧ marks.contains c = true)
def wordy (t : Tk) : Bool:=decide (t.kind ≤ 3)
def qb (c : UInt8) : Bs:=
 if c = 34 ∨ c = 92 then [92,c]
 else if c = 10 then [92,110]
 else if c.toNat < 32 ∨ 126 < c.toNat then [92,120,hexC.getD (c.toNat / 16) 0,hexC.getD (c.toNat % 16) 0]
 else [c]
def quoteB (b : Bs) : Bs:=34 :: (b.flatMap qb ++ [34])
def spell (t : Tk) : Bs:=if t.kind = 4 then quoteB t.text else t.text
set_option maxRecDepth 100000 in
theorem takeWhile_stop {p : UInt8 → Bool} : ∀ (w r : Bs),w.all p = true → (r = [] ∨ p (r.headD 0) = false) → (w ++ r).takeWhile p = w ∧ (w ++ r).dropWhile p = r
 | [],[],_,_=>⟨rfl,rfl⟩
 | [],c :: r,_,h=>by
   have hc : p c = false:=by simpa using h
   simp [hc]
 | c :: w,r,hw,h=>by
   simp only [List.all_cons,Bool.and_eq_true] at hw
   obtain ⟨h1,h2⟩:=takeWhile_stop w r hw.2 h
   simp [hw.1,h1,h2]
theorem hex_in {n : Nat} (h : n < 16) : hexV (hexC.getD n 0) = some n:=by
 have : ∀ n : Fin 16,hexV (hexC.getD n.1 0) = some n.1:=by decide
 exact this ⟨n,h⟩
theorem textT_quote : ∀ (b acc r : Bs),textT acc (b.flatMap qb ++ 34 :: r) = .ok ⟨4,acc ++ b,0⟩ r
 | [],acc,r=>by rw [List.flatMap_nil,List.nil_append,textT_end,List.append_nil]
 | c :: b,acc,r=>by
   have ih:=fun a=>textT_quote b a r
   rw [List.flatMap_cons,List.append_assoc]
   unfold qb
   by_cases h1 : c = 34 ∨ c = 92
   · rw [if_pos h1]
     show textT acc (92 :: c :: (b.flatMap qb ++ 34 :: r)) = _
     rw [textT_esc (d:=c) (r2:=b.flatMap qb ++ 34 :: r) (by rw [escT,if_pos h1]),ih,List.append_assoc];rfl
   · rw [if_neg h1]
     by_cases h2 : c = 10
     · rw [if_pos h2]
       show textT acc (92 :: 110 :: (b.flatMap qb ++ 34 :: r)) = _
       rw [textT_esc (d:=10) (r2:=b.flatMap qb ++ 34 :: r) (by rw [escT];simp),ih,List.append_assoc,h2];rfl
     · rw [if_neg h2]
       by_cases h3 : c.toNat < 32 ∨ 126 < c.toNat
       · rw [if_pos h3]
         show textT acc (92 :: 120 :: hexC.getD (c.toNat / 16) 0 :: hexC.getD (c.toNat % 16) 0 :: (b.flatMap qb ++ 34 :: r)) = _
         have hc : c.toNat < 256:=c.toNat_lt
         have he : escT (120 :: hexC.getD (c.toNat / 16) 0 :: hexC.getD (c.toNat % 16) 0 :: (b.flatMap qb ++ 34 :: r)) = some (c,b.flatMap qb ++ 34 :: r):=by
           rw [escT]
           simp only [show ¬ ((120 : UInt8) = 34 ∨ (120 : UInt8) = 92) by decide,show ¬ ((120 : UInt8) = 110) by decide,if_false,if_true,List.headD_cons,List.tail_cons,hex_in (show c.toNat / 16 < 16 by omega),hex_in (show c.toNat % 16 < 16 by omega)]
           rw [if_pos (by simp),show 16 * (c.toNat / 16) + c.toNat % 16 = c.toNat by omega]
           simp
         rw [textT_esc he,ih,List.append_assoc];rfl
       · rw [if_neg h3]
         show textT acc (c :: (b.flatMap qb ++ 34 :: r)) = _
         rw [textT_one (fun h=>h1 (.inl h)) (fun h=>h1 (.inr h)) h3,ih,List.append_assoc];rfl
def endsB (r : Bs) : Prop:=r = [] ∨ isA (r.headD 0) = false
theorem isA_of_isL {c : UInt8} (h : isL c = true) : isA c = true:=by simp [isA,h]
theorem isA_of_isD {c : UInt8} (h : isD c = true) : isA c = true:=by simp [isA,h]
theorem not_isD_of_isL {c : UInt8} (h : isL c = true) : isD c = false:=by
 simp only [isL,Bool.and_eq_true,decide_eq_true_eq] at h
 simp only [isD,Bool.and_eq_false_iff,decide_eq_false_iff_not]
 omega
theorem word_form : ∀ w ∈ words,isL (w.headD 0) = true ∧ w.all isA = true ∧ w.length ≤ 16:=by decide
set_option maxRecDepth 100000 in
theorem word_in {w : Bs} (h : reserved w = true) : isL (w.headD 0) = true ∧ w.all isA = true ∧ w.length ≤ 16:=word_form w (by simpa [reserved] using h)
theorem headD_app {w r : Bs} (h : w ≠ []) : (w ++ r).headD 0 = w.headD 0:=by
 cases w with
 | nil=>exact absurd rfl h
 | cons a w=>rfl
theorem ne_of_isL {w : Bs} (h : isL (w.headD 0) = true) : w ≠ []:=by
 intro e
 subst e
 exact absurd h (by decide)
theorem nameT_of {w r : Bs} (h1 : isL (w.headD 0) = true) (h2 : w.all isA = true) (h3 : w.length ≤ 16) (hr : endsB r) : tokT (w ++ r) = .ok ⟨if reserved w then 2 else 1,w,0⟩ r:=by
 have e:=takeWhile_stop w r h2 hr
 rw [tokT,headD_app (ne_of_isL h1),if_pos h1,nameT,e.1,e.2,if_neg (by omega)]
theorem mark_form : ∀ c ∈ marks,isL c = false ∧ isD c = false ∧ c ≠ 34 ∧ isB c = false ∧ c ≠ 35 ∧ isA c = false:=by decide
set_option maxRecDepth 100000 in
theorem tokT_spell {t : Tk} {r : Bs} (h : Gd t) (hr : wordy t = true → endsB r) : tokT (spell t ++ r) = .ok t r:=by
 obtain ⟨k,x,n⟩:=t
 rcases h with ⟨hk,h1,h2,h3,h4,h5⟩ | ⟨hk,h1,h5⟩ | ⟨hk,h1,h2,h3,h5⟩ | ⟨hk,h5⟩ | ⟨hk,h5,c,h1,h2⟩
 · simp only at hk h1 h2 h3 h4 h5
   subst hk h5
   have:=nameT_of h1 h2 h3 (hr (by simp [wordy]))
   rw [h4] at this
   simpa [spell] using this
 · simp only at hk h1 h5
   subst hk h5
   obtain ⟨a,b,c⟩:=word_in h1
   have:=nameT_of a b c (hr (by simp [wordy]))
   rw [h1] at this
   simpa [spell] using this
 · simp only at hk h1 h2 h3 h5
   subst hk h5
   have hr':=hr (by simp [wordy])
   have hrd : r = [] ∨ isD (r.headD 0) = false:=hr'.imp id fun h=>by
     simp only [isA,Bool.or_eq_false_iff] at h
     exact h.1
   have e:=takeWhile_stop x r h2 hrd
   have hd : isD (x.headD 0) = true:=by
     cases x with
     | nil=>exact absurd rfl h1
     | cons c x=>simp only [List.all_cons,Bool.and_eq_true] at h2;exact h2.1
   have hl : isL (x.headD 0) = false:=by
     cases hh : isL (x.headD 0) with
     | false=>rfl
     | true=>rw [not_isD_of_isL hh] at hd;cases hd
   have hlr : isL (r.headD 0) = false:=by
     rcases hr' with rfl | h
     · decide
     · simp only [isA,Bool.or_eq_false_iff] at h
       exact h.2
   have hs : spell ⟨3,x,(numV x : Nat)⟩ = x:=by simp [spell]
   rw [hs,tokT,headD_app h1,if_neg (by rw [hl];decide),if_pos hd,numberT,e.1,e.2,if_neg (by rw [h3];decide),if_neg (by rw [hlr];decide)]
 · simp only at hk h5
   subst hk h5
   have hs : spell ⟨4,x,0⟩ = 34 :: (x.flatMap qb ++ [34]):=by simp [spell,quoteB]
   have ht:=textT_quote x [] r
   rw [hs,List.cons_append,List.append_assoc,List.singleton_append,tokT]
   simp only [List.headD_cons,List.tail_cons,show isL 34 = false by decide,show isD 34 = false by decide,Bool.false_eq_true,if_false,if_true]
   rw [ht]
   rfl
 · simp only at hk h1 h5
   subst hk h5 h1
   obtain ⟨a1,a2,a3,_⟩:=mark_form c (by simpa using h2)
   have hs : spell ⟨5,[c],0⟩ = [c]:=by simp [spell]
   rw [hs,tokT]
   simp only [List.singleton_append,List.headD_cons,List.tail_cons,a1,a2,h2,Bool.false_eq_true,if_false,if_neg a3,if_true]
set_option maxRecDepth 100000 in
theorem spell_head {t : Tk} (h : Gd t) : ∃ c r,spell t = c :: r ∧ isB c = false ∧ c ≠ 35 ∧ (wordy t = false → isA c = false):=by
 have key : ∀ c : UInt8,isA c = true → isB c = false ∧ c ≠ 35:=fun c h=>by
   refine ⟨?_,fun e=>by subst e;exact absurd h (by decide)⟩
   cases hb : isB c with
   | false=>rfl
   | true=>
     have : ∀ c ∈ ([32,9,10] : Bs),isA c = false:=by decide
     rw [this c (by simpa [isB] using hb)] at h
     cases h
 obtain ⟨k,x,n⟩:=t
 rcases h with ⟨hk,h1,h2,_⟩ | ⟨hk,h1,_⟩ | ⟨hk,h1,h2,_⟩ | ⟨hk,_⟩ | ⟨hk,_,c,h1,h2⟩
 all_goals simp only at hk
 all_goals subst hk
 · cases x with
   | nil=>exact absurd (show isL 0 = true from h1) (by decide)
   | cons c x=>
     obtain ⟨a,b⟩:=key c (isA_of_isL h1)
     exact ⟨c,x,by simp [spell],a,b,by simp [wordy]⟩
 · obtain ⟨a,_,_⟩:=word_in h1
   simp only at a
   cases x with
   | nil=>exact absurd (show isL 0 = true from a) (by decide)
   | cons c x=>
     obtain ⟨a,b⟩:=key c (isA_of_isL a)
     exact ⟨c,x,by simp [spell],a,b,by simp [wordy]⟩
 · cases x with
   | nil=>exact absurd rfl h1
   | cons c x=>
     simp only [List.all_cons,Bool.and_eq_true] at h2
     obtain ⟨a,b⟩:=key c (isA_of_isD h2.1)
     exact ⟨c,x,by simp [spell],a,b,by simp [wordy]⟩
 · exact ⟨34,x.flatMap qb ++ [34],by simp [spell,quoteB],by decide,by decide,fun _=>by decide⟩
 · simp only at h1
   subst h1
   obtain ⟨_,_,_,a4,a5,a6⟩:=mark_form c (by simpa using h2)
   exact ⟨c,[],by simp [spell],a4,a5,fun _=>a6⟩
inductive Pc where
 | bl (b : Bs)
 | tk (t : Tk)
def rend : List Pc → Bs
 | []=>[]
 | .bl b :: l=>b ++ rend l
 | .tk t :: l=>spell t ++ rend l
def toks : List Pc → List Tk
 | []=>[]
 | .bl _ :: l=>toks l
 | .tk t :: l=>t :: toks l
def okP : Bool → List Pc → Prop
 | _,[]=>True
 | p,.bl b :: l=>b.all isB = true ∧ okP (p && b.isEmpty) l
 | p,.tk t :: l=>Gd t ∧ (p && wordy t) = false ∧ okP (wordy t) l
def outP : Bool → List Pc → Bool
 | p,[]=>p
 | p,.bl b :: l=>outP (p && b.isEmpty) l
 | _,.tk t :: l=>outP (wordy t) l
theorem rend_app (a b : List Pc) : rend (a ++ b) = rend a ++ rend b:=by
 induction a with
 | nil=>rfl
 | cons x a ih=>cases x <;> simp [rend,ih]
theorem toks_app (a b : List Pc) : toks (a ++ b) = toks a ++ toks b:=by
 induction a with
 | nil=>rfl
 | cons x a ih=>cases x <;> simp [toks,ih]
theorem okP_app : ∀ (p : Bool) (a b : List Pc),okP p (a ++ b) ↔ okP p a ∧ okP (outP p a) b
 | p,[],b=>by simp [okP,outP]
 | p,.bl x :: a,b=>by
   have:=okP_app (p && x.isEmpty) a b
   simp only [List.cons_append,okP,outP,this,and_assoc]
 | p,.tk t :: a,b=>by
   have:=okP_app (wordy t) a b
   simp only [List.cons_append,okP,outP,this,and_assoc]
theorem outP_app : ∀ (p : Bool) (a b : List Pc),outP p (a ++ b) = outP (outP p a) b
 | p,[],b=>rfl
 | p,.bl x :: a,b=>by simp only [List.cons_append,outP];exact outP_app _ a b
 | p,.tk t :: a,b=>by simp only [List.cons_append,outP];exact outP_app _ a b
theorem skip_blank : ∀ (b r : Bs),b.all isB = true → skipC false (b ++ r) = skipC false r
 | [],_,_=>rfl
 | c :: b,r,h=>by
   simp only [List.all_cons,Bool.and_eq_true] at h
   rw [List.cons_append,skipC,if_pos h.1]
   exact skip_blank b r h.2
set_option maxRecDepth 100000 in
theorem isB_not_isA {c : UInt8} (h : isB c = true) : isA c = false:=by
 have : ∀ c ∈ ([32,9,10] : Bs),isA c = false:=by decide
 exact this c (by simpa [isB] using h)
set_option maxRecDepth 100000 in
theorem ends_of : ∀ (l : List Pc),okP true l → endsB (rend l)
 | [],_=>.inl rfl
 | .bl b :: l,h=>by
   cases b with
   | nil=>exact ends_of l (by simpa [okP] using h)
   | cons c b=>
     obtain ⟨h1,_⟩:=h
     simp only [List.all_cons,Bool.and_eq_true] at h1
     exact .inr (isB_not_isA h1.1)
 | .tk t :: l,h=>by
   obtain ⟨h1,h2,_⟩:=h
   obtain ⟨c,r,e,_,_,ha⟩:=spell_head h1
   refine .inr ?_
   rw [rend,e]
   exact ha (by simpa using h2)
theorem ScR.blank {b r : Bs} {ts : List Tk} {o : Option Bs} (hb : b.all isB = true) (h : ScR r ts o) : ScR (b ++ r) ts o:=by
 cases h with
 | done h=>exact .done (by rw [skip_blank b r hb];exact h)
 | bad h1 h2 h3=>exact .bad (by rw [skip_blank b r hb];exact h1) h2 h3
 | more h1 h2 h3 h4=>exact .more (by rw [skip_blank b r hb];exact h1) h2 h3 h4
theorem scan_rend : ∀ (p : Bool) (l : List Pc),okP p l → ScR (rend l) (toks l) none
 | _,[],_=>.done rfl
 | p,.bl b :: l,h=>(scan_rend _ l h.2).blank h.1
 | p,.tk t :: l,h=>by
   obtain ⟨h1,h2,h3⟩:=h
   obtain ⟨c,r,e,hb,hc,_⟩:=spell_head h1
   have hs : skipC false (rend (.tk t :: l)) = rend (.tk t :: l):=by
     rw [rend,e,List.cons_append,skipC,if_neg (by rw [hb];decide),if_neg hc]
   refine .more hs (by rw [rend,e];simp) (tokT_spell h1 fun hw=>?_) (scan_rend _ l h3)
   rw [hw] at h3
   exact ends_of l h3
theorem takeWhile_all {p : UInt8 → Bool} : ∀ u : Bs,(u.takeWhile p).all p = true
 | []=>rfl
 | c :: u=>by
   cases h : p c with
   | true=>simp [h,takeWhile_all u]
   | false=>simp [h]
theorem takeWhile_head {p : UInt8 → Bool} {u : Bs} (h0 : u ≠ []) (h : p (u.headD 0) = true) : (u.takeWhile p).headD 0 = u.headD 0 ∧ u.takeWhile p ≠ []:=by
 cases u with
 | nil=>exact absurd rfl h0
 | cons c u=>
   have hc : p c = true:=h
   simp [hc]
set_option maxRecDepth 100000 in
theorem textT_gd : ∀ (n : Nat) (acc u : Bs) (t : Tk) (r : Bs),u.length ≤ n → textT acc u = .ok t r → t.kind = 4 ∧ t.num = 0
 | _,acc,[],t,r,_,h=>by rw [textT_nil] at h;cases h
 | 0,acc,c :: u,t,r,hl,_=>by simp at hl
 | n + 1,acc,c :: u,t,r,hl,h=>by
   have hl' : u.length ≤ n:=by simpa using hl
   by_cases h1 : c = 34
   · subst h1
     rw [textT_end] at h
     injection h with e _
     subst e
     exact ⟨rfl,rfl⟩
   · by_cases h2 : c = 92
     · subst h2
       cases he : escT u with
       | none=>rw [textT_bad he] at h;cases h
       | some x=>
         obtain ⟨d,r2⟩:=x
         rw [textT_esc he] at h
         exact textT_gd n _ r2 t r (by have:=escT_lt he;omega) h
     · by_cases h3 : c.toNat < 32 ∨ 126 < c.toNat
       · rw [textT_odd h1 h2 h3] at h;cases h
       · rw [textT_one h1 h2 h3] at h
         exact textT_gd n _ u t r hl' h
theorem tokT_gd {u r : Bs} {t : Tk} (h0 : u ≠ []) (h : tokT u = .ok t r) : Gd t:=by
 unfold tokT at h
 by_cases h1 : isL (u.headD 0) = true
 · rw [if_pos h1,nameT] at h
   by_cases h2 : 16 < (u.takeWhile isA).length
   · rw [if_pos h2] at h;cases h
   · rw [if_neg h2] at h
     injection h with e _
     subst e
     have hh:=takeWhile_head h0 (isA_of_isL h1)
     cases hr : reserved (u.takeWhile isA) with
     | true=>exact .inr (.inl ⟨by rw [if_pos rfl],hr,rfl⟩)
     | false=>exact .inl ⟨by rw [if_neg (by decide)],by rw [hh.1];exact h1,takeWhile_all u,Nat.le_of_not_lt h2,hr,rfl⟩
 · rw [if_neg h1] at h
   by_cases h2 : isD (u.headD 0) = true
   · rw [if_pos h2,numberT] at h
     cases hz : zeroB (u.takeWhile isD) with
     | true=>rw [hz,if_pos rfl] at h;cases h
     | false=>
       rw [hz,if_neg (by decide)] at h
       split at h
       · cases h
       · injection h with e _
         subst e
         exact .inr (.inr (.inl ⟨rfl,(takeWhile_head h0 h2).2,takeWhile_all u,hz,rfl⟩))
   · rw [if_neg h2] at h
     by_cases h3 : u.headD 0 = 34
     · rw [if_pos h3] at h
       have:=textT_gd u.tail.length [] u.tail t r (Nat.le_refl _) h
       exact .inr (.inr (.inr (.inl this)))
     · rw [if_neg h3] at h
       cases hm : marks.contains (u.headD 0) with
       | true=>
         rw [hm,if_pos rfl] at h
         injection h with e _
         subst e
         exact .inr (.inr (.inr (.inr ⟨rfl,rfl,_,rfl,hm⟩)))
       | false=>rw [hm,if_neg (by decide)] at h;cases h
theorem ScR.gd {s : Bs} {ts : List Tk} {o : Option Bs} (h : ScR s ts o) : ∀ t ∈ ts,Gd t:=by
 induction h with
 | done _=>intro t ht;cases ht
 | bad _ _ _=>intro t ht;cases ht
 | more h1 h2 h3 _ ih=>
   intro t ht
   rcases List.mem_cons.1 ht with e | ht
   · subst e;exact tokT_gd h2 h3
   · exact ih t ht
def spP : List Tk → List Pc
 | []=>[]
 | [t]=>[.tk t]
 | t :: ts=>.tk t :: .bl [32] :: spP ts
theorem spP_toks : ∀ ts,toks (spP ts) = ts
 | []=>rfl
 | [t]=>rfl
 | t :: u :: ts=>by
   have:=spP_toks (u :: ts)
   simp only [spP,toks,this]
set_option maxRecDepth 100000 in
theorem spP_ok : ∀ (ts : List Tk),(∀ t ∈ ts,Gd t) → okP false (spP ts)
 | [],_=>trivial
 | [t],h=>⟨h t (by simp),rfl,trivial⟩
 | t :: u :: ts,h=>by
   have:=spP_ok (u :: ts) fun x hx=>h x (by simp at hx ⊢;exact .inr hx)
   refine ⟨h t (by simp),rfl,by decide,?_⟩
   simpa using this
def spellS : List Tk → Bs
 | []=>[]
 | [t]=>spell t
 | t :: ts=>spell t ++ 32 :: spellS ts
theorem spP_rend : ∀ ts,rend (spP ts) = spellS ts
 | []=>rfl
 | [t]=>by simp [spP,rend,spellS]
 | t :: u :: ts=>by
   have:=spP_rend (u :: ts)
   simp only [spP,rend,spellS] at this ⊢
   rw [this];rfl
theorem scan_spell {s : Bs} {ts : List Tk} (h : ScR s ts none) : ScR (spellS ts) ts none:=by
 have:=scan_rend false (spP ts) (spP_ok ts h.gd)
 rwa [spP_rend,spP_toks] at this
end Tx
namespace Tx
inductive Ex where
 | none
 | num (n : Int)
 | name (t : Bs)
 | text (t : Bs)
 | join (l : List Ex)
 | bin (o : Bs) (l r : Ex)
abbrev PS:=List Tk × Int
def endT : Tk:=⟨6,[],0⟩
def pk (r : List Tk) : Tk:=r.headD endT
def isT (r : List Tk) (xs : List Bs) : Bool:=(decide ((pk r).kind = 2) || decide ((pk r).kind = 5)) && xs.contains (pk r).text
def sees (s : PS) (xs : List Bs) : Bool:=decide (s.2 = 0) && isT s.1 xs
def knd (s : PS) (k : Int) : Bool:=decide (s.2 = 0) && decide ((pk s.1).kind = k)
def nx (s : PS) : PS:=(s.1.tail,s.2)
def failS (s : PS) (e : Int) : PS:=if s.2 = 0 then (s.1,e) else s
def takeS (s : PS) (x : Bs) : PS:=if s.2 = 0 then (if isT s.1 [x] then (s.1.tail,0) else (s.1,9)) else s
def refS (s : PS) : Bs × PS:=if knd s 1 then ((pk s.1).text,nx s) else ([],failS s 9)
def kLp : Bs:=[40]
def kRp : Bs:=[41]
def kComma : Bs:=[44]
def kPlus : Bs:=[43]
def kMinus : Bs:=[45]
def kStar : Bs:=[42]
def kJoin : Bs:=[106,111,105,110]
def openS (k : Nat) (s : PS) : PS:=takeS (if sees s [kLp] && decide (k = 12) then failS s 11 else s) kLp
inductive CallE where
 | expr (s : PS)
 | sum (e : Ex) (s : PS)
 | term (s : PS)
 | prod (e : Ex) (s : PS)
 | factor (s : PS)
 | args (l : List Ex) (s : PS)
 | atom (s : PS)
inductive RunE : Nat → CallE → Ex → PS → Prop where
 | expr {k s e s1 e2 s2} : RunE k (.term s) e s1 → RunE k (.sum e s1) e2 s2 → RunE k (.expr s) e2 s2
 | sumGo {k s e r s1 e2 s2} : sees s [kPlus,kMinus] = true → RunE k (.term (nx s)) r s1 → RunE k (.sum (.bin (pk s.1).text e r) s1) e2 s2 → RunE k (.sum e s) e2 s2
 | sumStop {k s e} : sees s [kPlus,kMinus] = false → RunE k (.sum e s) e s
 | term {k s e s1 e2 s2} : RunE k (.factor s) e s1 → RunE k (.prod e s1) e2 s2 → RunE k (.term s) e2 s2
 | prodGo {k s e r s1 e2 s2} : sees s [kStar] = true → RunE k (.factor (nx s)) r s1 → RunE k (.prod (.bin kStar e r) s1) e2 s2 → RunE k (.prod e s) e2 s2
 | prodStop {k s e} : sees s [kStar] = false → RunE k (.prod e s) e s
 | ftext {k s} : knd s 4 = true → RunE k (.factor s) (.text (pk s.1).text) (nx s)
 | fjoin {k s e s1 j s2} : knd s 4 = false → sees s [kJoin] = true → RunE (k + 1) (.expr (openS k (nx s))) e s1 → RunE (k + 1) (.args [e] s1) j s2 → RunE k (.factor s) j (takeS s2 kRp)
 | fatom {k s e s1} : knd s 4 = false → sees s [kJoin] = false → RunE k (.atom s) e s1 → RunE k (.factor s) e s1
 | argsGo {k s l e s1 j s2} : sees s [kComma] = true → RunE k (.expr (nx s)) e s1 → RunE k (.args (l ++ [e]) s1) j s2 → RunE k (.args l s) j s2
 | argsStop {k s l} : sees s [kComma] = false → RunE k (.args l s) (.join l) s
 | anum {k s} : knd s 3 = true → RunE k (.atom s) (.num (pk s.1).num) (nx s)
 | aname {k s} : knd s 3 = false → knd s 1 = true → RunE k (.atom s) (.name (pk s.1).text) (nx s)
 | aparen {k s e s1} : knd s 3 = false → knd s 1 = false → sees s [kLp] = true → RunE (k + 1) (.expr (openS k s)) e s1 → RunE k (.atom s) e (takeS s1 kRp)
 | abad {k s} : knd s 3 = false → knd s 1 = false → sees s [kLp] = false → RunE k (.atom s) .none (failS s 9)
theorem tf {b : Bool} {P : Prop} (h : b = true) (h' : b = false) : P:=by rw [h] at h';cases h'
theorem RunE.det {k : Nat} {c : CallE} {e e' : Ex} {s s' : PS} (h : RunE k c e s) (h' : RunE k c e' s') : e = e' ∧ s = s':=by
 induction h generalizing e' s' with
 | expr _ _ ih1 ih2=>
   cases h' with
   | expr a b=>obtain ⟨rfl,rfl⟩:=ih1 a;exact ih2 b
 | sumGo h1 _ _ ih1 ih2=>
   cases h' with
   | sumGo _ a b=>obtain ⟨rfl,rfl⟩:=ih1 a;exact ih2 b
   | sumStop h2=>exact tf h1 h2
 | sumStop h1=>
   cases h' with
   | sumGo h2 _ _=>exact tf h2 h1
   | sumStop _=>exact ⟨rfl,rfl⟩
 | term _ _ ih1 ih2=>
   cases h' with
   | term a b=>obtain ⟨rfl,rfl⟩:=ih1 a;exact ih2 b
 | prodGo h1 _ _ ih1 ih2=>
   cases h' with
   | prodGo _ a b=>obtain ⟨rfl,rfl⟩:=ih1 a;exact ih2 b
   | prodStop h2=>exact tf h1 h2
 | prodStop h1=>
   cases h' with
   | prodGo h2 _ _=>exact tf h2 h1
   | prodStop _=>exact ⟨rfl,rfl⟩
 | ftext h1=>
   cases h' with
   | ftext _=>exact ⟨rfl,rfl⟩
   | fjoin h2 _ _ _=>exact tf h1 h2
   | fatom h2 _ _=>exact tf h1 h2
 | fjoin h1 h2 _ _ ih1 ih2=>
   cases h' with
   | ftext h3=>exact tf h3 h1
   | fjoin _ _ a b=>obtain ⟨rfl,rfl⟩:=ih1 a;obtain ⟨rfl,rfl⟩:=ih2 b;exact ⟨rfl,rfl⟩
   | fatom _ h3 _=>exact tf h2 h3
 | fatom h1 h2 _ ih=>
   cases h' with
   | ftext h3=>exact tf h3 h1
   | fjoin _ h3 _ _=>exact tf h3 h2
   | fatom _ _ a=>exact ih a
 | argsGo h1 _ _ ih1 ih2=>
   cases h' with
   | argsGo _ a b=>obtain ⟨rfl,rfl⟩:=ih1 a;exact ih2 b
   | argsStop h2=>exact tf h1 h2
 | argsStop h1=>
   cases h' with
   | argsGo h2 _ _=>exact tf h2 h1
   | argsStop _=>exact ⟨rfl,rfl⟩
 | anum h1=>
   cases h' with
   | anum _=>exact ⟨rfl,rfl⟩
   | aname h2 _=>exact tf h1 h2
   | aparen h2 _ _ _=>exact tf h1 h2
   | abad h2 _ _=>exact tf h1 h2
 | aname h1 h2=>
   cases h' with
   | anum h3=>exact tf h3 h1
   | aname _ _=>exact ⟨rfl,rfl⟩
   | aparen _ h3 _ _=>exact tf h2 h3
   | abad _ h3 _=>exact tf h2 h3
 | aparen h1 h2 h3 _ ih=>
   cases h' with
   | anum h4=>exact tf h4 h1
   | aname _ h4=>exact tf h4 h2
   | aparen _ _ _ a=>obtain ⟨rfl,rfl⟩:=ih a;exact ⟨rfl,rfl⟩
   | abad _ _ h4=>exact tf h3 h4
 | abad h1 h2 h3=>
   cases h' with
   | anum h4=>exact tf h4 h1
   | aname _ h4=>exact tf h4 h2
   | aparen _ _ h4 _=>exact tf h4 h3
   | abad _ _ _=>exact ⟨rfl,rfl⟩
structure Pl where
 node : Bs
 delay : Ex
 flags : Ex
structure Dc where
 kind : Bs
 name : Bs
 value : Ex
 places : List Pl
inductive St where
 | mk (kind name : Bs) (a b c : Ex) (routes : List Bs) (block tag : Bs) (body els : List St)
def kAt : Bs:=[64]
def kBang : Bs:=[33]
def kEq : Bs:=[61]
def kGt : Bs:=[62]
def kSemi : Bs:=[59]
def kLb : Bs:=[123]
def kRb : Bs:=[125]
def kLet : Bs:=[108,101,116]
def kRoute : Bs:=[114,111,117,116,101]
def kVia : Bs:=[118,105,97]
def kAs : Bs:=[97,115]
def kWith : Bs:=[119,105,116,104]
def kEvery : Bs:=[101,118,101,114,121]
def kSend : Bs:=[115,101,110,100]
def kSplit : Bs:=[115,112,108,105,116]
def kCover : Bs:=[99,111,118,101,114]
def kWait : Bs:=[119,97,105,116]
def kBlock : Bs:=[98,108,111,99,107]
def kAfter : Bs:=[97,102,116,101,114]
def kRepeat : Bs:=[114,101,112,101,97,116]
def kRetry : Bs:=[114,101,116,114,121]
def kIf : Bs:=[105,102]
def kAcked : Bs:=[97,99,107,101,100]
def kElse : Bs:=[101,108,115,101]
def kTimes : Bs:=[116,105,109,101,115]
def kinds : List Bs:=[kSend,kSplit,kCover,kWait,kBlock,kAfter,kRepeat,kRetry,kEvery,kIf]
inductive OptA (x : Bs) : PS → Ex → PS → Prop where
 | yes {s e s'} : sees s [x] = true → RunE 0 (.atom (nx s)) e s' → OptA x s e s'
 | no {s} : sees s [x] = false → OptA x s .none s
theorem OptA.det {x : Bs} {s s1 s2 : PS} {e1 e2 : Ex} (h : OptA x s e1 s1) (h' : OptA x s e2 s2) : e1 = e2 ∧ s1 = s2:=by
 cases h with
 | yes h1 a=>
   cases h' with
   | yes _ b=>exact a.det b
   | no h2=>exact tf h1 h2
 | no h1=>
   cases h' with
   | yes h2 _=>exact tf h2 h1
   | no _=>exact ⟨rfl,rfl⟩
inductive PlaceR : PS → Pl → PS → Prop where
 | mk {s d s1 f s2} : OptA kAt (refS s).2 d s1 → OptA kBang s1 f s2 → PlaceR s ⟨(refS s).1,d,f⟩ s2
theorem PlaceR.det {s s1 s2 : PS} {p1 p2 : Pl} (h : PlaceR s p1 s1) (h' : PlaceR s p2 s2) : p1 = p2 ∧ s1 = s2:=by
 cases h with
 | mk a b=>
   cases h' with
   | mk c d=>
     obtain ⟨rfl,rfl⟩:=a.det c
     obtain ⟨rfl,rfl⟩:=b.det d
     exact ⟨rfl,rfl⟩
inductive PlacesR : List Pl → PS → List Pl → PS → Prop where
 | go {l s p s1 l2 s2} : sees s [kGt] = true → PlaceR (nx s) p s1 → PlacesR (l ++ [p]) s1 l2 s2 → PlacesR l s l2 s2
 | stop {l s} : sees s [kGt] = false → PlacesR l s l s
theorem PlacesR.det {l l1 l2 : List Pl} {s s1 s2 : PS} (h : PlacesR l s l1 s1) (h' : PlacesR l s l2 s2) : l1 = l2 ∧ s1 = s2:=by
 induction h generalizing l2 s2 with
 | go h1 a _ ih=>
   cases h' with
   | go _ b c=>obtain ⟨rfl,rfl⟩:=a.det b;exact ih c
   | stop h2=>exact tf h1 h2
 | stop h1=>
   cases h' with
   | go h2 _ _=>exact tf h2 h1
   | stop _=>exact ⟨rfl,rfl⟩
inductive DeclR : PS → Dc → PS → Prop where
 | dlet {s v s2} : (pk s.1).text = kLet → RunE 0 (.expr (takeS (refS (nx s)).2 kEq)) v s2 → DeclR s ⟨(pk s.1).text,(refS (nx s)).1,v,[]⟩ (takeS s2 kSemi)
 | droute {s p s1 l s2} : (pk s.1).text ≠ kLet → PlaceR (takeS (refS (nx s)).2 kEq) p s1 → PlacesR [p] s1 l s2 → DeclR s ⟨(pk s.1).text,(refS (nx s)).1,.none,l⟩ (takeS s2 kSemi)
theorem DeclR.det {s s1 s2 : PS} {d1 d2 : Dc} (h : DeclR s d1 s1) (h' : DeclR s d2 s2) : d1 = d2 ∧ s1 = s2:=by
 cases h with
 | dlet h1 a=>
   cases h' with
   | dlet _ b=>obtain ⟨rfl,rfl⟩:=a.det b;exact ⟨rfl,rfl⟩
   | droute h2 _ _=>exact absurd h1 h2
 | droute h1 a b=>
   cases h' with
   | dlet h2 _=>exact absurd h2 h1
   | droute _ c d=>
     obtain ⟨rfl,rfl⟩:=a.det c
     obtain ⟨rfl,rfl⟩:=b.det d
     exact ⟨rfl,rfl⟩
inductive RefsR : List Bs → PS → List Bs → PS → Prop where
 | go {l s l2 s2} : sees s [kComma] = true → RefsR (l ++ [(refS (nx s)).1]) (refS (nx s)).2 l2 s2 → RefsR l s l2 s2
 | stop {l s} : sees s [kComma] = false → RefsR l s l s
theorem RefsR.det {l l1 l2 : List Bs} {s s1 s2 : PS} (h : RefsR l s l1 s1) (h' : RefsR l s l2 s2) : l1 = l2 ∧ s1 = s2:=by
 induction h generalizing l2 s2 with
 | go h1 _ ih=>
   cases h' with
   | go _ c=>exact ih c
   | stop h2=>exact tf h1 h2
 | stop h1=>
   cases h' with
   | go h2 _=>exact tf h2 h1
   | stop _=>exact ⟨rfl,rfl⟩
inductive ViaR : Bool → PS → List Bs → PS → Prop where
 | one {s} : ViaR false s [(refS (takeS s kVia)).1] (refS (takeS s kVia)).2
 | many {s l s2} : RefsR [(refS (takeS s kVia)).1] (refS (takeS s kVia)).2 l s2 → ViaR true s l s2
theorem ViaR.det {b : Bool} {l1 l2 : List Bs} {s s1 s2 : PS} (h : ViaR b s l1 s1) (h' : ViaR b s l2 s2) : l1 = l2 ∧ s1 = s2:=by
 cases h with
 | one=>cases h' with | one=>exact ⟨rfl,rfl⟩
 | many a=>cases h' with | many b=>exact a.det b
def tagS (s : PS) : Bs × PS:=if sees s [kAs] then refS (nx s) else ([],s)
def withS (s : PS) : Bs × PS:=if sees s [kWith] then refS (nx s) else ([],s)
inductive LineR : Bs → PS → St → PS → Prop where
 | send {s a s1 l s2} : RunE 0 (.expr s) a s1 → ViaR false s1 l s2 → LineR kSend s (.mk kSend [] a .none .none l (withS s2).1 (tagS (withS s2).2).1 [] []) (tagS (withS s2).2).2
 | split {s a s1 l s2} : RunE 0 (.expr s) a s1 → ViaR true s1 l s2 → LineR kSplit s (.mk kSplit [] a .none .none l [] (tagS s2).1 [] []) (tagS s2).2
 | cover {s} : LineR kCover s (.mk kCover [] .none .none .none [(refS s).1] [] [] [] []) (refS s).2
 | wait {s a s1} : RunE 0 (.expr s) a s1 → LineR kWait s (.mk kWait [] a .none .none [] [] [] [] []) s1
 | block {s l s2} : ViaR false (refS s).2 l s2 → LineR kBlock s (.mk kBlock (refS s).1 .none .none .none l [] [] [] []) s2
 | retry {s a s1 b s2 c s3 l s4} : RunE 0 (.expr s) a s1 → RunE 0 (.expr (takeS s1 kEvery)) b s2 → RunE 0 (.expr (takeS s2 kSend)) c s3 → ViaR false s3 l s4 → LineR kRetry s (.mk kRetry [] a b c l [] (tagS s4).1 [] []) (tagS s4).2
 | every {s a s1 b s2} : RunE 0 (.expr s) a s1 → RunE 0 (.expr (takeS s1 kTimes)) b s2 → LineR kEvery s (.mk kEvery [] a b .none [(refS (takeS s2 kCover)).1] [] [] [] []) (refS (takeS s2 kCover)).2
theorem LineR.det {k : Bs} {s s1 s2 : PS} {t1 t2 : St} (h : LineR k s t1 s1) (h' : LineR k s t2 s2) : t1 = t2 ∧ s1 = s2:=by
 cases h with
 | send a b=>cases h' with | send c d=>obtain ⟨rfl,rfl⟩:=a.det c;obtain ⟨rfl,rfl⟩:=b.det d;exact ⟨rfl,rfl⟩
 | split a b=>cases h' with | split c d=>obtain ⟨rfl,rfl⟩:=a.det c;obtain ⟨rfl,rfl⟩:=b.det d;exact ⟨rfl,rfl⟩
 | cover=>cases h' with | cover=>exact ⟨rfl,rfl⟩
 | wait a=>cases h' with | wait b=>obtain ⟨rfl,rfl⟩:=a.det b;exact ⟨rfl,rfl⟩
 | block a=>cases h' with | block b=>obtain ⟨rfl,rfl⟩:=a.det b;exact ⟨rfl,rfl⟩
 | retry a b c d=>cases h' with | retry a' b' c' d'=>obtain ⟨rfl,rfl⟩:=a.det a';obtain ⟨rfl,rfl⟩:=b.det b';obtain ⟨rfl,rfl⟩:=c.det c';obtain ⟨rfl,rfl⟩:=d.det d';exact ⟨rfl,rfl⟩
 | every a b=>cases h' with | every c d=>obtain ⟨rfl,rfl⟩:=a.det c;obtain ⟨rfl,rfl⟩:=b.det d;exact ⟨rfl,rfl⟩
def St.zero : St:=.mk [] [] .none .none .none [] [] [] [] []
def bodyS (b : Nat) (s : PS) : PS:=takeS (if sees s [kLb] && decide (b = 12) then failS s 11 else s) kLb
inductive CallS where
 | stmt (s : PS)
 | stmts (l : List St) (s : PS)
 | body (s : PS)
inductive RunS : Nat → CallS → List St → PS → Prop where
 | bad {b s} : sees s kinds = false → RunS b (.stmt s) [St.zero] (failS s 9)
 | after {b s a s1 l s2} : sees s kinds = true → (pk s.1).text = kAfter → RunE 0 (.expr (nx s)) a s1 → RunS b (.body s1) l s2 → RunS b (.stmt s) [.mk kAfter [] a .none .none [] [] [] l []] s2
 | rpt {b s a s1 l s2} : sees s kinds = true → (pk s.1).text = kRepeat → RunE 0 (.expr (refS (nx s)).2) a s1 → RunS b (.body s1) l s2 → RunS b (.stmt s) [.mk kRepeat (refS (nx s)).1 a .none .none [] [] [] l []] s2
 | ifOne {b s l s1} : sees s kinds = true → (pk s.1).text = kIf → RunS b (.body (refS (takeS (nx s) kAcked)).2) l s1 → sees s1 [kElse] = false → RunS b (.stmt s) [.mk kIf [] .none .none .none [] [] (refS (takeS (nx s) kAcked)).1 l []] s1
 | ifTwo {b s l s1 m s2} : sees s kinds = true → (pk s.1).text = kIf → RunS b (.body (refS (takeS (nx s) kAcked)).2) l s1 → sees s1 [kElse] = true → RunS b (.body (nx s1)) m s2 → RunS b (.stmt s) [.mk kIf [] .none .none .none [] [] (refS (takeS (nx s) kAcked)).1 l m] s2
 | line {b s t s1} : sees s kinds = true → (pk s.1).text ≠ kAfter → (pk s.1).text ≠ kRepeat → (pk s.1).text ≠ kIf → LineR (pk s.1).text (nx s) t s1 → RunS b (.stmt s) [t] (takeS s1 kSemi)
 | body {b s l s1} : RunS (b + 1) (.stmts [] (bodyS b s)) l s1 → RunS b (.body s) l (takeS s1 kRb)
 | stmtsGo {b s l t s1 m s2} : s.2 = 0 → sees s [kRb] = false → RunS b (.stmt s) [t] s1 → RunS b (.stmts (l ++ [t]) s1) m s2 → RunS b (.stmts l s) m s2
 | stmtsEnd {b s l} : s.2 = 0 → sees s [kRb] = true → RunS b (.stmts l s) l s
 | stmtsBad {b s l} : s.2 ≠ 0 → RunS b (.stmts l s) l s
theorem RunS.det {b : Nat} {c : CallS} {l l' : List St} {s s' : PS} (h : RunS b c l s) (h' : RunS b c l' s') : l = l' ∧ s = s':=by
 have e1 : kAfter ≠ kRepeat:=by decide
 have e2 : kAfter ≠ kIf:=by decide
 have e3 : kRepeat ≠ kIf:=by decide
 induction h generalizing l' s' with
 | bad h1=>
   cases h' with
   | bad _=>exact ⟨rfl,rfl⟩
   | after h2 _ _ _=>exact tf h2 h1
   | rpt h2 _ _ _=>exact tf h2 h1
   | ifOne h2 _ _ _=>exact tf h2 h1
   | ifTwo h2 _ _ _ _=>exact tf h2 h1
   | line h2 _ _ _ _=>exact tf h2 h1
 | after h1 h2 a _ ih=>
   cases h' with
   | bad h3=>exact tf h1 h3
   | after _ _ c d=>obtain ⟨rfl,rfl⟩:=a.det c;obtain ⟨rfl,rfl⟩:=ih d;exact ⟨rfl,rfl⟩
   | rpt _ h3 _ _=>exact absurd (h2.symm.trans h3) e1
   | ifOne _ h3 _ _=>exact absurd (h2.symm.trans h3) e2
   | ifTwo _ h3 _ _ _=>exact absurd (h2.symm.trans h3) e2
   | line _ h3 _ _ _=>exact absurd h2 h3
 | rpt h1 h2 a _ ih=>
   cases h' with
   | bad h3=>exact tf h1 h3
   | after _ h3 _ _=>exact absurd (h3.symm.trans h2) e1
   | rpt _ _ c d=>obtain ⟨rfl,rfl⟩:=a.det c;obtain ⟨rfl,rfl⟩:=ih d;exact ⟨rfl,rfl⟩
   | ifOne _ h3 _ _=>exact absurd (h2.symm.trans h3) e3
   | ifTwo _ h3 _ _ _=>exact absurd (h2.symm.trans h3) e3
   | line _ _ h3 _ _=>exact absurd h2 h3
 | ifOne h1 h2 _ h4 ih=>
   cases h' with
   | bad h3=>exact tf h1 h3
   | after _ h3 _ _=>exact absurd (h3.symm.trans h2) e2
   | rpt _ h3 _ _=>exact absurd (h3.symm.trans h2) e3
   | ifOne _ _ d _=>obtain ⟨rfl,rfl⟩:=ih d;exact ⟨rfl,rfl⟩
   | ifTwo _ _ d h5 _=>obtain ⟨rfl,rfl⟩:=ih d;exact tf h5 h4
   | line _ _ _ h3 _=>exact absurd h2 h3
 | ifTwo h1 h2 _ h4 _ ih ih2=>
   cases h' with
   | bad h3=>exact tf h1 h3
   | after _ h3 _ _=>exact absurd (h3.symm.trans h2) e2
   | rpt _ h3 _ _=>exact absurd (h3.symm.trans h2) e3
   | ifOne _ _ d h5=>obtain ⟨rfl,rfl⟩:=ih d;exact tf h4 h5
   | ifTwo _ _ d _ f=>obtain ⟨rfl,rfl⟩:=ih d;obtain ⟨rfl,rfl⟩:=ih2 f;exact ⟨rfl,rfl⟩
   | line _ _ _ h3 _=>exact absurd h2 h3
 | line h1 h2 h3 h4 a=>
   cases h' with
   | bad h5=>exact tf h1 h5
   | after _ h5 _ _=>exact absurd h5 h2
   | rpt _ h5 _ _=>exact absurd h5 h3
   | ifOne _ h5 _ _=>exact absurd h5 h4
   | ifTwo _ h5 _ _ _=>exact absurd h5 h4
   | line _ _ _ _ c=>obtain ⟨rfl,rfl⟩:=a.det c;exact ⟨rfl,rfl⟩
 | body _ ih=>
   cases h' with
   | body a=>obtain ⟨rfl,rfl⟩:=ih a;exact ⟨rfl,rfl⟩
 | stmtsGo h1 h2 _ _ ih1 ih2=>
   cases h' with
   | stmtsGo _ _ a c=>
     obtain ⟨e,rfl⟩:=ih1 a
     injection e with e _
     subst e
     exact ih2 c
   | stmtsEnd _ h3=>exact tf h3 h2
   | stmtsBad h3=>exact absurd h1 h3
 | stmtsEnd h1 h2=>
   cases h' with
   | stmtsGo _ h3 _ _=>exact tf h2 h3
   | stmtsEnd _ _=>exact ⟨rfl,rfl⟩
   | stmtsBad h3=>exact absurd h1 h3
 | stmtsBad h1=>
   cases h' with
   | stmtsGo h3 _ _ _=>exact absurd h3 h1
   | stmtsEnd h3 _=>exact absurd h3 h1
   | stmtsBad _=>exact ⟨rfl,rfl⟩
inductive DeclsR : List Dc → PS → List Dc → PS → Prop where
 | go {l s d s1 l2 s2} : sees s [kLet,kRoute] = true → DeclR s d s1 → DeclsR (l ++ [d]) s1 l2 s2 → DeclsR l s l2 s2
 | stop {l s} : sees s [kLet,kRoute] = false → DeclsR l s l s
theorem DeclsR.det {l l1 l2 : List Dc} {s s1 s2 : PS} (h : DeclsR l s l1 s1) (h' : DeclsR l s l2 s2) : l1 = l2 ∧ s1 = s2:=by
 induction h generalizing l2 s2 with
 | go h1 a _ ih=>
   cases h' with
   | go _ b c=>obtain ⟨rfl,rfl⟩:=a.det b;exact ih c
   | stop h2=>exact tf h1 h2
 | stop h1=>
   cases h' with
   | go h2 _ _=>exact tf h2 h1
   | stop _=>exact ⟨rfl,rfl⟩
inductive TopR : List St → PS → List St → PS → Prop where
 | go {l s t s1 l2 s2} : s.2 = 0 → (pk s.1).kind ≠ 6 → RunS 0 (.stmt s) [t] s1 → TopR (l ++ [t]) s1 l2 s2 → TopR l s l2 s2
 | fin {l s} : s.2 = 0 → (pk s.1).kind = 6 → TopR l s l s
 | bad {l s} : s.2 ≠ 0 → TopR l s l s
theorem TopR.det {l l1 l2 : List St} {s s1 s2 : PS} (h : TopR l s l1 s1) (h' : TopR l s l2 s2) : l1 = l2 ∧ s1 = s2:=by
 induction h generalizing l2 s2 with
 | go h1 h2 a _ ih=>
   cases h' with
   | go _ _ b c=>
     obtain ⟨e,rfl⟩:=a.det b
     injection e with e _
     subst e
     exact ih c
   | fin _ h3=>exact absurd h3 h2
   | bad h3=>exact absurd h1 h3
 | fin h1 h2=>
   cases h' with
   | go _ h3 _ _=>exact absurd h2 h3
   | fin _ _=>exact ⟨rfl,rfl⟩
   | bad h3=>exact absurd h1 h3
 | bad h1=>
   cases h' with
   | go h3 _ _ _=>exact absurd h3 h1
   | fin h3 _=>exact absurd h3 h1
   | bad _=>exact ⟨rfl,rfl⟩
inductive SrcR : List Tk → List Dc → List St → PS → Prop where
 | mk {r ds s1 l s2} : DeclsR [] (r,0) ds s1 → TopR [] s1 l s2 → SrcR r ds l s2
theorem SrcR.det {r : List Tk} {d1 d2 : List Dc} {l1 l2 : List St} {s1 s2 : PS} (h : SrcR r d1 l1 s1) (h' : SrcR r d2 l2 s2) : d1 = d2 ∧ l1 = l2 ∧ s1 = s2:=by
 cases h with
 | mk a b=>
   cases h' with
   | mk c d=>
     obtain ⟨rfl,rfl⟩:=a.det c
     obtain ⟨rfl,rfl⟩:=b.det d
     exact ⟨rfl,rfl,rfl⟩
end Tx
namespace Tx
def dg (n : Nat) : UInt8:=UInt8.ofNat (48 + n)
def decN (n : Nat) : Bs:=if n < 10 then [dg n] else decN (n / 10) ++ [dg (n % 10)]
termination_by n
theorem dig_nat {n : Nat} (h : n < 10) : (dg n).toNat = 48 + n:=by
 rw [dg,UInt8.toNat_ofNat'];omega
theorem dig_isD {n : Nat} (h : n < 10) : isD (dg n) = true:=by
 simp only [isD,dig_nat h,Bool.and_eq_true,decide_eq_true_eq];omega
theorem decN_all (n : Nat) : (decN n).all isD = true:=by
 induction n using Nat.strongRecOn with
 | ind n ih=>
   rw [decN]
   split
   · simp [dig_isD (by assumption)]
   · rw [List.all_append,ih (n / 10) (by omega)]
     simp [dig_isD (show n % 10 < 10 by omega)]
theorem numV_app (a : Bs) (c : UInt8) : numV (a ++ [c]) = 10 * numV a + (c.toNat - 48):=by simp [numV,List.foldl_append]
theorem numV_decN (n : Nat) : numV (decN n) = n:=by
 induction n using Nat.strongRecOn with
 | ind n ih=>
   rw [decN]
   split
   · rename_i h
     rw [numV,List.foldl_cons,List.foldl_nil,dig_nat h];omega
   · rw [numV_app,ih (n / 10) (by omega),dig_nat (show n % 10 < 10 by omega)];omega
theorem decN_ne (n : Nat) : decN n ≠ []:=by
 rw [decN];split <;> simp
set_option maxRecDepth 100000 in
theorem decN_len : ∀ (k n : Nat),n < 10 ^ (k + 1) → (decN n).length ≤ k + 1
 | 0,n,h=>by rw [decN,if_pos (by simpa using h)];simp
 | k + 1,n,h=>by
   rw [decN]
   split
   · simp
   · rw [List.length_append]
     have:=decN_len k (n / 10) (by rw [Nat.pow_succ] at h;omega)
     simp;omega
theorem decN_head (n : Nat) (h : 10 ≤ n) : (decN n).headD 0 ≠ 48:=by
 induction n using Nat.strongRecOn with
 | ind n ih=>
   rw [decN,if_neg (by omega),headD_app (decN_ne _)]
   by_cases h10 : n / 10 < 10
   · rw [decN,if_pos h10]
     intro e
     have e' : dg (n / 10) = 48:=e
     have:=congrArg UInt8.toNat e'
     rw [dig_nat h10] at this
     have h48 : (48 : UInt8).toNat = 48:=rfl
     omega
   · exact ih (n / 10) (by omega) (by omega)
theorem decN_zero {n : Nat} (h : n ≤ 999999999) : zeroB (decN n) = false:=by
 have hl:=decN_len 8 n (by omega)
 unfold zeroB
 rw [decide_eq_false (by omega),Bool.false_or]
 by_cases h10 : n < 10
 · rw [decN,if_pos h10];rfl
 · have:=decN_head n (by omega)
   rw [show ((decN n).headD 0 == 48) = false by rw [beq_eq_false_iff_ne];exact this,Bool.and_false]
theorem foldl_lt : ∀ (w : Bs) (n : Nat),w.all isD = true → w.foldl (fun n c=>10 * n + (c.toNat - 48)) n < (n + 1) * 10 ^ w.length
 | [],n,_=>by simp
 | c :: w,n,h=>by
   simp only [List.all_cons,Bool.and_eq_true] at h
   have h2:=h.1
   simp only [isD,Bool.and_eq_true,decide_eq_true_eq] at h2
   have ih:=foldl_lt w (10 * n + (c.toNat - 48)) h.2
   rw [List.foldl_cons,List.length_cons,Nat.pow_succ]
   have h3 : (10 * n + (c.toNat - 48) + 1) * 10 ^ w.length ≤ ((n + 1) * 10) * 10 ^ w.length:=Nat.mul_le_mul_right _ (by omega)
   have h4 : ((n + 1) * 10) * 10 ^ w.length = (n + 1) * (10 ^ w.length * 10):=by rw [Nat.mul_assoc,Nat.mul_comm 10]
   omega
theorem numV_le (w : Bs) (h : w.all isD = true) (k : Nat) (hk : w.length ≤ k) : numV w < 10 ^ k:=by
 have h1:=foldl_lt w 0 h
 have h2 : 10 ^ w.length ≤ 10 ^ k:=Nat.pow_le_pow_right (by decide) hk
 unfold numV
 omega
def tNum (n : Int) : Tk:=⟨3,decN n.toNat,n⟩
def tName (x : Bs) : Tk:=⟨1,x,0⟩
def tWord (x : Bs) : Tk:=⟨2,x,0⟩
def tText (x : Bs) : Tk:=⟨4,x,0⟩
def tMark (x : Bs) : Tk:=⟨5,x,0⟩
theorem tNum_gd {n : Int} (h0 : 0 ≤ n) (h : n ≤ 999999999) : Gd (tNum n):=
 .inr (.inr (.inl ⟨rfl,decN_ne _,decN_all _,decN_zero (by omega),by show n = _;rw [show (tNum n).text = decN n.toNat from rfl,numV_decN];omega⟩))
def Ex.isSum : Ex → Bool
 | .bin o _ _=>o == kPlus || o == kMinus
 | _=>false
def Ex.isProd : Ex → Bool
 | .bin o _ _=>o == kStar
 | _=>false
def gName (x : Bs) : Prop:=Gd (tName x)
mutual
def Ex.wf : Ex → Prop
 | .none=>False
 | .num n=>0 ≤ n ∧ n ≤ 999999999
 | .name x=>gName x
 | .text _=>True
 | .join l=>l ≠ [] ∧ Ex.wfL l
 | .bin o l r=>(o = kPlus ∨ o = kMinus ∨ o = kStar) ∧ l.wf ∧ r.wf
def Ex.wfL : List Ex → Prop
 | []=>True
 | e :: l=>e.wf ∧ Ex.wfL l
end
mutual
def Ex.need : Ex → Nat
 | .join l=>1 + Ex.needL l
 | .bin o l r=>if o = kStar then max (l.need + (if l.isSum then 1 else 0)) (r.need + (if r.isSum || r.isProd then 1 else 0)) else max l.need (r.need + (if r.isSum then 1 else 0))
 | _=>0
def Ex.needL : List Ex → Nat
 | []=>0
 | e :: l=>max e.need (Ex.needL l)
end
def Ex.needT (e : Ex) : Nat:=e.need + (if e.isSum then 1 else 0)
def Ex.needF (e : Ex) : Nat:=e.need + (if e.isSum || e.isProd then 1 else 0)
def Ex.bare : Ex → Bool
 | .num _=>true
 | .name _=>true
 | _=>false
def Ex.needA (e : Ex) : Nat:=if e.bare then 0 else 1 + e.need
theorem wfL_app : ∀ (l m : List Ex),Ex.wfL (l ++ m) ↔ Ex.wfL l ∧ Ex.wfL m
 | [],m=>by simp [Ex.wfL]
 | e :: l,m=>by simp [Ex.wfL,wfL_app l m,and_assoc]
theorem needL_app : ∀ (l m : List Ex),Ex.needL (l ++ m) = max (Ex.needL l) (Ex.needL m)
 | [],m=>by simp [Ex.needL]
 | e :: l,m=>by simp only [List.cons_append,Ex.needL,needL_app l m];omega
theorem star_ne : kStar ≠ kPlus ∧ kStar ≠ kMinus:=by decide
theorem isSum_star {l r : Ex} : (Ex.bin kStar l r).isSum = false:=by
 have : (kStar == kPlus || kStar == kMinus) = false:=by decide
 exact this
def fitE (k : Nat) : CallE → Ex → Prop
 | .expr _,e=>e.wf ∧ k + e.need ≤ 12
 | .sum a _,e=>(a.wf ∧ k + a.need ≤ 12) → (e.wf ∧ k + e.need ≤ 12)
 | .term _,e=>e.wf ∧ k + e.needT ≤ 12
 | .prod a _,e=>(a.wf ∧ k + a.needT ≤ 12) → (e.wf ∧ k + e.needT ≤ 12)
 | .factor _,e=>e.wf ∧ k + e.needF ≤ 12
 | .args l _,e=>(l ≠ [] ∧ Ex.wfL l ∧ k + Ex.needL l ≤ 12) → (e.wf ∧ e.isSum = false ∧ e.isProd = false ∧ e.bare = false ∧ k + e.need ≤ 13)
 | .atom _,e=>e.wf ∧ k + e.needF ≤ 12 ∧ k + e.needA ≤ 12
def CallE.st : CallE → PS
 | .expr s=>s
 | .sum _ s=>s
 | .term s=>s
 | .prod _ s=>s
 | .factor s=>s
 | .args _ s=>s
 | .atom s=>s
theorem failS_bad {s : PS} {e : Int} (he : e ≠ 0) : (failS s e).2 ≠ 0:=by
 unfold failS;split <;> assumption
theorem takeS_ok {s : PS} {x : Bs} (h : (takeS s x).2 = 0) : s.2 = 0 ∧ isT s.1 [x] = true ∧ takeS s x = nx s:=by
 unfold takeS at h ⊢
 by_cases h0 : s.2 = 0
 · rw [if_pos h0] at h ⊢
   by_cases h1 : isT s.1 [x] = true
   · rw [if_pos h1]
     exact ⟨h0,h1,by rw [nx,h0]⟩
   · rw [if_neg h1] at h
     have h9 : (9 : Int) = 0:=h
     exact absurd h9 (by decide)
 · rw [if_neg h0] at h
   exact absurd h h0
theorem openS_ok {k : Nat} {s : PS} (h : (openS k s).2 = 0) : s.2 = 0 ∧ isT s.1 [kLp] = true ∧ k ≠ 12 ∧ openS k s = nx s:=by
 unfold openS at h ⊢
 by_cases hc : (sees s [kLp] && decide (k = 12)) = true
 · rw [if_pos hc] at h
   exact absurd (takeS_ok h).1 (failS_bad (by decide))
 · rw [if_neg hc] at h ⊢
   obtain ⟨a,b,c⟩:=takeS_ok h
   refine ⟨a,b,fun e=>hc ?_,c⟩
   simp [sees,a,b,e]
def Suf (r s : List Tk) : Prop:=∃ a,s = a ++ r
theorem Suf.refl (s : List Tk) : Suf s s:=⟨[],rfl⟩
theorem Suf.trans {a b c : List Tk} (h : Suf a b) (h' : Suf b c) : Suf a c:=by
 obtain ⟨x,rfl⟩:=h
 obtain ⟨y,rfl⟩:=h'
 exact ⟨y ++ x,by simp⟩
theorem Suf.tail (s : List Tk) : Suf s.tail s:=by
 cases s with
 | nil=>exact .refl _
 | cons t s=>exact ⟨[t],rfl⟩
theorem Suf.take {s : PS} {x : Bs} : Suf (takeS s x).1 s.1:=by
 unfold takeS
 split
 · split
   · exact .tail _
   · exact .refl _
 · exact .refl _
theorem Suf.fail {s : PS} {e : Int} : Suf (failS s e).1 s.1:=by
 unfold failS;split <;> exact .refl _
theorem Suf.opn {k : Nat} {s : PS} : Suf (openS k s).1 s.1:=by
 unfold openS
 split
 · exact Suf.take.trans Suf.fail
 · exact Suf.take
theorem RunE.suf {k : Nat} {c : CallE} {e : Ex} {s : PS} (h : RunE k c e s) : Suf s.1 c.st.1:=by
 induction h with
 | expr _ _ i1 i2=>exact i2.trans i1
 | sumGo _ _ _ i1 i2=>exact (i2.trans i1).trans (.tail _)
 | sumStop _=>exact .refl _
 | term _ _ i1 i2=>exact i2.trans i1
 | prodGo _ _ _ i1 i2=>exact (i2.trans i1).trans (.tail _)
 | prodStop _=>exact .refl _
 | ftext _=>exact .tail _
 | fjoin _ _ _ _ i1 i2=>exact (((Suf.take.trans i2).trans i1).trans Suf.opn).trans (.tail _)
 | fatom _ _ _ i=>exact i
 | argsGo _ _ _ i1 i2=>exact (i2.trans i1).trans (.tail _)
 | argsStop _=>exact .refl _
 | anum _=>exact .tail _
 | aname _ _=>exact .tail _
 | aparen _ _ _ _ i=>exact (Suf.take.trans i).trans Suf.opn
 | abad _ _ _=>exact Suf.fail
set_option maxRecDepth 100000 in
theorem sees_ok {s : PS} {xs : List Bs} (h : sees s xs = true) : s.2 = 0 ∧ isT s.1 xs = true:=by
 simpa [sees] using h
set_option maxRecDepth 100000 in
theorem knd_ok {s : PS} {k : Int} (h : knd s k = true) : s.2 = 0 ∧ (pk s.1).kind = k:=by
 simpa [knd] using h
theorem RunE.ok {k : Nat} {c : CallE} {e : Ex} {s : PS} (h : RunE k c e s) : s.2 = 0 → c.st.2 = 0:=by
 induction h with
 | expr _ _ i1 i2=>exact fun h=>i1 (i2 h)
 | sumGo h _ _ _ _=>exact fun _=>(sees_ok h).1
 | sumStop _=>exact id
 | term _ _ i1 i2=>exact fun h=>i1 (i2 h)
 | prodGo h _ _ _ _=>exact fun _=>(sees_ok h).1
 | prodStop _=>exact id
 | ftext h=>exact fun _=>(knd_ok h).1
 | fjoin _ h _ _ _ _=>exact fun _=>(sees_ok h).1
 | fatom _ _ _ i=>exact i
 | argsGo h _ _ _ _=>exact fun _=>(sees_ok h).1
 | argsStop _=>exact id
 | anum h=>exact fun _=>(knd_ok h).1
 | aname _ h=>exact fun _=>(knd_ok h).1
 | aparen _ _ h _ _=>exact fun _=>(sees_ok h).1
 | abad _ _ _=>exact fun h=>absurd h (failS_bad (by decide))
theorem pk_mem {r : List Tk} (h : (pk r).kind ≠ 6) : pk r ∈ r:=by
 cases r with
 | nil=>exact absurd rfl h
 | cons t r=>simp [pk]
theorem gd_num {t : Tk} (h : Gd t) (hk : t.kind = 3) : 0 ≤ t.num ∧ t.num ≤ 999999999:=by
 rcases h with ⟨h,_⟩ | ⟨h,_⟩ | ⟨_,_,h2,h3,h4⟩ | ⟨h,_⟩ | ⟨h,_⟩
 · rw [hk] at h;exact absurd h (by decide)
 · rw [hk] at h;exact absurd h (by decide)
 · have hl : t.text.length ≤ 9:=by
     simp only [zeroB,Bool.or_eq_false_iff,decide_eq_false_iff_not] at h3
     omega
   have:=numV_le t.text h2 9 hl
   omega
 · rw [hk] at h;exact absurd h (by decide)
 · rw [hk] at h;exact absurd h (by decide)
theorem gd_name {t : Tk} (h : Gd t) (hk : t.kind = 1) : gName t.text:=by
 rcases h with ⟨_,h1,h2,h3,h4,_⟩ | ⟨h,_⟩ | ⟨h,_⟩ | ⟨h,_⟩ | ⟨h,_⟩
 · exact .inl ⟨rfl,h1,h2,h3,h4,rfl⟩
 all_goals rw [hk] at h;exact absurd h (by decide)
set_option maxRecDepth 100000 in
theorem plus_text {r : List Tk} (h : isT r [kPlus,kMinus] = true) : (pk r).text = kPlus ∨ (pk r).text = kMinus:=by
 simp only [isT,Bool.and_eq_true] at h
 simpa using h.2
theorem RunE.fit {k : Nat} {c : CallE} {e : Ex} {s : PS} (h : RunE k c e s) (hk : k ≤ 12) : (∀ t ∈ c.st.1,Gd t) → s.2 = 0 → fitE k c e:=by
 have mem : ∀ {a b : List Tk},Suf a b → (∀ t ∈ b,Gd t) → ∀ t ∈ a,Gd t:=fun hs hg t ht=>by
   obtain ⟨x,rfl⟩:=hs
   exact hg t (by simp [ht])
 induction h with
 | expr a b i1 i2=>
   intro hg h0
   obtain ⟨h1,h2⟩:=i1 hk hg (b.ok h0)
   refine i2 hk (mem a.suf hg) h0 ⟨h1,?_⟩
   simp only [Ex.needT] at h2
   omega
 | sumGo hs a b i1 i2=>
   intro hg h0 ⟨h1,h2⟩
   have g1:=mem (Suf.tail _) hg
   obtain ⟨h3,h4⟩:=i1 hk g1 (b.ok h0)
   have ho:=plus_text (sees_ok hs).2
   refine i2 hk (mem a.suf g1) h0 ⟨⟨?_,h1,h3⟩,?_⟩
   · rcases ho with h | h
     · exact .inl h
     · exact .inr (.inl h)
   · have hne : ¬ (pk _).text = kStar:=fun e=>by
       rcases ho with h | h
       · exact star_ne.1 (e.symm.trans h)
       · exact star_ne.2 (e.symm.trans h)
     rw [Ex.need,if_neg hne]
     simp only [Ex.needT] at h4
     omega
 | sumStop _=>exact fun _ _ h=>h
 | term a b i1 i2=>
   intro hg h0
   obtain ⟨h1,h2⟩:=i1 hk hg (b.ok h0)
   refine i2 hk (mem a.suf hg) h0 ⟨h1,?_⟩
   simp only [Ex.needF] at h2
   simp only [Ex.needT]
   split
   · rename_i h
     rw [h,Bool.true_or,if_pos rfl] at h2
     exact h2
   · split at h2 <;> omega
 | prodGo hs a b i1 i2=>
   intro hg h0 ⟨h1,h2⟩
   have g1:=mem (Suf.tail _) hg
   obtain ⟨h3,h4⟩:=i1 hk g1 (b.ok h0)
   refine i2 hk (mem a.suf g1) h0 ⟨⟨.inr (.inr rfl),h1,h3⟩,?_⟩
   simp only [Ex.needT] at h2
   simp only [Ex.needF] at h4
   simp only [Ex.needT,isSum_star,Ex.need,if_true]
   simp only [Bool.false_eq_true,if_false]
   omega
 | prodStop _=>exact fun _ _ h=>h
 | ftext _=>exact fun _ _=>⟨trivial,by simp [Ex.needF,Ex.need,Ex.isSum,Ex.isProd];exact hk⟩
 | @fjoin k s e s1 j s2 _ hs a b i1 i2=>
   intro hg h0
   obtain ⟨t1,t2,t3⟩:=takeS_ok h0
   obtain ⟨o1,o2,o3,o4⟩:=openS_ok (a.ok (b.ok t1))
   have g1:=mem (show Suf (openS k (nx s)).1 s.1 from Suf.opn.trans (Suf.tail _)) hg
   obtain ⟨h1,h2⟩:=i1 (by omega) g1 (b.ok t1)
   obtain ⟨h3,h4,h5,_,h6⟩:=i2 (by omega) (mem a.suf g1) t1 ⟨by simp,⟨h1,trivial⟩,by simp [Ex.needL];omega⟩
   refine ⟨h3,?_⟩
   simp only [Ex.needF,h4,h5]
   simp only [Bool.or_self,Bool.false_eq_true,if_false]
   omega
 | fatom _ _ a i=>exact fun hg h0=>⟨(i hk hg h0).1,(i hk hg h0).2.1⟩
 | argsGo hs a b i1 i2=>
   intro hg h0 ⟨h1,h2,h3⟩
   have g1:=mem (Suf.tail _) hg
   obtain ⟨h4,h5⟩:=i1 hk g1 (b.ok h0)
   refine i2 hk (mem a.suf g1) h0 ⟨by simp,(wfL_app _ _).2 ⟨h2,h4,trivial⟩,?_⟩
   rw [needL_app]
   simp only [Ex.needL]
   omega
 | argsStop _=>
   intro _ _ ⟨h1,h2,h3⟩
   exact ⟨⟨h1,h2⟩,rfl,rfl,rfl,by simp only [Ex.need];omega⟩
 | anum h=>
   intro hg _
   obtain ⟨h1,h2⟩:=knd_ok h
   have:=gd_num (hg _ (pk_mem (show (pk _).kind ≠ 6 from fun e=>absurd (h2.symm.trans e) (by decide)))) h2
   exact ⟨this,by simp [Ex.needF,Ex.need,Ex.isSum,Ex.isProd];exact hk,by simp [Ex.needA,Ex.bare];exact hk⟩
 | aname _ h=>
   intro hg _
   obtain ⟨h1,h2⟩:=knd_ok h
   have:=gd_name (hg _ (pk_mem (show (pk _).kind ≠ 6 from fun e=>absurd (h2.symm.trans e) (by decide)))) h2
   exact ⟨this,by simp [Ex.needF,Ex.need,Ex.isSum,Ex.isProd];exact hk,by simp [Ex.needA,Ex.bare];exact hk⟩
 | aparen _ _ _ a i=>
   intro hg h0
   obtain ⟨t1,t2,t3⟩:=takeS_ok h0
   obtain ⟨o1,o2,o3,o4⟩:=openS_ok (a.ok t1)
   obtain ⟨h1,h2⟩:=i (by omega) (mem Suf.opn hg) t1
   refine ⟨h1,?_,?_⟩
   · simp only [Ex.needF];split <;> omega
   · simp only [Ex.needA];split <;> omega
 | abad _ _ _=>exact fun _ h=>absurd h (failS_bad (by decide))
end Tx
namespace Tx
def parP (b : Bool) (p : List Pc) : List Pc:=if b then .tk (tMark kLp) :: (p ++ [.tk (tMark kRp)]) else p
mutual
def pcE : Ex → List Pc
 | .none=>[.bl [63]]
 | .num n=>[.tk (tNum n)]
 | .name x=>[.tk (tName x)]
 | .text x=>[.tk (tText x)]
 | .join l=>.tk (tWord kJoin) :: .tk (tMark kLp) :: (pcJ l ++ [.tk (tMark kRp)])
 | .bin o l r=>parP (o == kStar && l.isSum) (pcE l) ++ .bl [32] :: .tk (tMark o) :: .bl [32] :: parP (r.isSum || (o == kStar && r.isProd)) (pcE r)
def pcJ : List Ex → List Pc
 | []=>[]
 | e :: l=>pcE e ++ pcR l
def pcR : List Ex → List Pc
 | []=>[]
 | e :: l=>.tk (tMark kComma) :: .bl [32] :: (pcE e ++ pcR l)
end
theorem sees_mark (x : Bs) (r : List Tk) (xs : List Bs) : sees (tMark x :: r,0) xs = xs.contains x:=by simp [sees,isT,pk,tMark]
theorem sees_word (x : Bs) (r : List Tk) (xs : List Bs) : sees (tWord x :: r,0) xs = xs.contains x:=by simp [sees,isT,pk,tWord]
theorem sees_num (n : Int) (r : List Tk) (xs : List Bs) : sees (tNum n :: r,0) xs = false:=by simp [sees,isT,pk,tNum]
theorem sees_name (x : Bs) (r : List Tk) (xs : List Bs) : sees (tName x :: r,0) xs = false:=by simp [sees,isT,pk,tName]
theorem sees_nil (xs : List Bs) : sees ([],0) xs = false:=by simp [sees,isT,pk,endT]
theorem knd_mark (x : Bs) (r : List Tk) {k : Int} (h : k ≠ 5) : knd (tMark x :: r,0) k = false:=by simp [knd,pk,tMark,h.symm]
theorem knd_word (x : Bs) (r : List Tk) {k : Int} (h : k ≠ 2) : knd (tWord x :: r,0) k = false:=by simp [knd,pk,tWord,h.symm]
theorem knd_num (n : Int) (r : List Tk) (k : Int) : knd (tNum n :: r,0) k = decide (3 = k):=by simp [knd,pk,tNum]
theorem knd_name (x : Bs) (r : List Tk) (k : Int) : knd (tName x :: r,0) k = decide (1 = k):=by simp [knd,pk,tName]
theorem knd_text (x : Bs) (r : List Tk) (k : Int) : knd (tText x :: r,0) k = decide (4 = k):=by simp [knd,pk,tText]
theorem take_mark (x : Bs) (r : List Tk) : takeS (tMark x :: r,0) x = (r,0):=by simp [takeS,isT,pk,tMark]
theorem take_word (x : Bs) (r : List Tk) : takeS (tWord x :: r,0) x = (r,0):=by simp [takeS,isT,pk,tWord]
theorem open_lp {k : Nat} (h : k ≠ 12) (r : List Tk) : openS k (tMark kLp :: r,0) = (r,0):=by
 rw [openS,if_neg (by simp [h]),take_mark]
def tkE (e : Ex) : List Tk:=toks (pcE e)
def tkP (b : Bool) (e : Ex) : List Tk:=toks (parP b (pcE e))
theorem tkP_true (e : Ex) : tkP true e = tMark kLp :: (tkE e ++ [tMark kRp]):=by
 show toks (.tk (tMark kLp) :: (pcE e ++ [.tk (tMark kRp)])) = _
 rw [toks,toks_app];rfl
theorem tkP_false (e : Ex) : tkP false e = tkE e:=rfl
def CX (e : Ex) : Prop:=∀ (k : Nat) (r : List Tk) (e2 : Ex) (s2 : PS),k + e.need ≤ 12 → sees (r,0) [kStar] = false → RunE k (.sum e (r,0)) e2 s2 → RunE k (.expr (tkE e ++ r,0)) e2 s2
def BX (e : Ex) : Prop:=∀ (k : Nat) (r : List Tk) (e2 : Ex) (s2 : PS),k + e.needT ≤ 12 → RunE k (.prod e (r,0)) e2 s2 → RunE k (.term (tkP e.isSum e ++ r,0)) e2 s2
def AX (e : Ex) : Prop:=∀ (k : Nat) (r : List Tk),k + e.needF ≤ 12 → RunE k (.factor (tkP (e.isSum || e.isProd) e ++ r,0)) e (r,0)
def TX (e : Ex) : Prop:=∀ (k : Nat) (r : List Tk),k + e.needA ≤ 12 → RunE k (.atom (tkP (!e.bare) e ++ r,0)) e (r,0)
theorem CX.par {e : Ex} (h : CX e) {k : Nat} (r : List Tk) (hk : k + (1 + e.need) ≤ 12) : RunE k (.atom (tkP true e ++ r,0)) e (r,0):=by
 rw [tkP_true,List.cons_append]
 have h1:=h (k + 1) (tMark kRp :: r) e (tMark kRp :: r,0) (by omega) (by rw [sees_mark];decide) (.sumStop (by rw [sees_mark];decide))
 have h2 : RunE k (.atom (tMark kLp :: (tkE e ++ [tMark kRp] ++ r),0)) e (takeS (tMark kRp :: r,0) kRp):=by
   refine .aparen (by rw [knd_mark _ _ (by decide)]) (by rw [knd_mark _ _ (by decide)]) (by rw [sees_mark];decide) ?_
   rw [open_lp (by omega),List.append_assoc]
   exact h1
 rw [take_mark] at h2
 exact h2
theorem AX.of_par {e : Ex} (h : CX e) (hs : (e.isSum || e.isProd) = true) : AX e:=by
 intro k r hk
 rw [hs]
 simp only [Ex.needF,hs,if_true] at hk
 refine .fatom ?_ ?_ (h.par r (by omega))
 · rw [tkP_true,List.cons_append,knd_mark _ _ (by decide)]
 · rw [tkP_true,List.cons_append,sees_mark];decide
set_option maxRecDepth 100000 in
theorem BX.of_A {e : Ex} (h : AX e) (hp : e.isProd = false) : BX e:=by
 intro k r e2 s2 hk hr
 have h1:=h k r (by simp only [Ex.needF,hp,Bool.or_false];simpa [Ex.needT] using hk)
 rw [hp,Bool.or_false] at h1
 exact .term h1 hr
set_option maxRecDepth 100000 in
theorem CX.of_B {e : Ex} (h : BX e) (hs : e.isSum = false) : CX e:=by
 intro k r e2 s2 hk hr hx
 have h1:=h k r e (r,0) (by simp only [Ex.needT,hs];simpa using hk) (.prodStop hr)
 rw [hs,tkP_false] at h1
 exact .expr h1 hx
theorem TX.of_C {e : Ex} (h : CX e) (hb : e.bare = false) : TX e:=by
 intro k r hk
 rw [hb]
 simp only [Ex.needA,hb,Bool.false_eq_true,if_false] at hk
 exact h.par r hk
def RX (e : Ex) : Prop:=CX e ∧ BX e ∧ AX e ∧ TX e
theorem RX.leaf {e : Ex} (hs : e.isSum = false) (hp : e.isProd = false) (ha : AX e) (ht : CX e → TX e) : RX e:=by
 have hb:=BX.of_A ha hp
 have hc:=CX.of_B hb hs
 exact ⟨hc,hb,ha,ht hc⟩
theorem args_run {k : Nat} (r : List Tk) : ∀ (l acc : List Ex),(∀ e ∈ l,CX e) → k + Ex.needL l ≤ 12 → RunE k (.args acc (toks (pcR l) ++ tMark kRp :: r,0)) (.join (acc ++ l)) (tMark kRp :: r,0)
 | [],acc,_,_=>by
   rw [List.append_nil]
   exact .argsStop (by show sees (tMark kRp :: r,0) _ = false;rw [sees_mark];decide)
 | e :: l,acc,h,hk=>by
   simp only [Ex.needL] at hk
   have ih:=args_run (k:=k) r l (acc ++ [e]) (fun x hx=>h x (by simp [hx])) (by omega)
   rw [List.append_assoc,List.singleton_append] at ih
   have e1 : toks (pcR (e :: l)) ++ tMark kRp :: r = tMark kComma :: (tkE e ++ (toks (pcR l) ++ tMark kRp :: r)):=by
     rw [pcR,toks,toks,toks_app,List.cons_append,List.append_assoc];rfl
   rw [e1]
   have hd : ∀ xs : List Bs,xs.contains kComma = false → xs.contains kRp = false → sees (toks (pcR l) ++ tMark kRp :: r,0) xs = false:=fun xs h1 h2=>by
     cases l with
     | nil=>show sees (tMark kRp :: r,0) xs = false;rw [sees_mark,h2]
     | cons x l=>rw [pcR,toks,List.cons_append,sees_mark,h1]
   refine .argsGo (by rw [sees_mark];decide) (h e (by simp) k _ e (toks (pcR l) ++ tMark kRp :: r,0) (by omega) (hd _ (by decide) (by decide)) (.sumStop (hd _ (by decide) (by decide)))) ih
theorem num_run (n : Int) : RX (.num n):=by
 refine RX.leaf rfl rfl (fun k r hk=>?_) (fun _ k r hk=>?_)
 · exact .fatom (by show knd (tNum n :: r,0) 4 = false;rw [knd_num];decide) (by show sees (tNum n :: r,0) _ = false;rw [sees_num]) (.anum (by show knd (tNum n :: r,0) 3 = true;rw [knd_num];decide))
 · exact .anum (by show knd (tNum n :: r,0) 3 = true;rw [knd_num];decide)
theorem name_run (x : Bs) : RX (.name x):=by
 have a : ∀ (k : Nat) (r : List Tk),RunE k (.atom (tName x :: r,0)) (.name x) (r,0):=fun k r=>.aname (by rw [knd_name];decide) (by rw [knd_name];decide)
 refine RX.leaf rfl rfl (fun k r hk=>?_) (fun _ k r hk=>a k r)
 exact .fatom (by show knd (tName x :: r,0) 4 = false;rw [knd_name];decide) (by show sees (tName x :: r,0) _ = false;rw [sees_name]) (a k r)
theorem text_run (x : Bs) : RX (.text x):=by
 refine RX.leaf rfl rfl (fun k r hk=>?_) (fun h=>TX.of_C h rfl)
 exact .ftext (by show knd (tText x :: r,0) 4 = true;rw [knd_text];decide)
theorem join_run (e : Ex) (l : List Ex) (h : ∀ x ∈ e :: l,CX x) : RX (.join (e :: l)):=by
 refine RX.leaf rfl rfl (fun k r hk=>?_) (fun h=>TX.of_C h rfl)
 simp only [Ex.needF,Ex.isSum,Ex.isProd,Ex.need,Ex.needL,Bool.or_self,Bool.false_eq_true,if_false] at hk
 have e1 : tkP false (.join (e :: l)) ++ r = tWord kJoin :: tMark kLp :: (tkE e ++ (toks (pcR l) ++ tMark kRp :: r)):=by
   show toks (pcE (.join (e :: l))) ++ r = _
   rw [pcE,toks,toks,toks_app,pcJ,toks_app,List.cons_append,List.cons_append,List.append_assoc,List.append_assoc];rfl
 show RunE k (.factor (tkP false (.join (e :: l)) ++ r,0)) _ _
 rw [e1]
 have hd : ∀ xs : List Bs,xs.contains kComma = false → xs.contains kRp = false → sees (toks (pcR l) ++ tMark kRp :: r,0) xs = false:=fun xs h1 h2=>by
   cases l with
   | nil=>show sees (tMark kRp :: r,0) xs = false;rw [sees_mark,h2]
   | cons x l=>rw [pcR,toks,List.cons_append,sees_mark,h1]
 have h1:=h e (by simp) (k + 1) (toks (pcR l) ++ tMark kRp :: r) e (toks (pcR l) ++ tMark kRp :: r,0) (by omega) (hd _ (by decide) (by decide)) (.sumStop (hd _ (by decide) (by decide)))
 have h2:=args_run (k:=k + 1) r l [e] (fun x hx=>h x (by simp [hx])) (by omega)
 have h3 : RunE k (.factor (tWord kJoin :: tMark kLp :: (tkE e ++ (toks (pcR l) ++ tMark kRp :: r)),0)) (.join ([e] ++ l)) (takeS (tMark kRp :: r,0) kRp):=by
   refine .fjoin (by rw [knd_word _ _ (by decide)]) (by rw [sees_word];decide) ?_ h2
   show RunE (k + 1) (.expr (openS k (tMark kLp :: _,0))) e _
   rw [open_lp (by omega)]
   exact h1
 rw [take_mark] at h3
 exact h3
set_option maxRecDepth 100000 in
theorem bin_run {o : Bs} {l r : Ex} (ho : o = kPlus ∨ o = kMinus ∨ o = kStar) (hl : RX l) (hr : RX r) : RX (.bin o l r):=by
 obtain ⟨lC,lB,lA,_⟩:=hl
 obtain ⟨rC,rB,rA,_⟩:=hr
 have e1 : ∀ t : List Tk,tkE (.bin o l r) ++ t = tkP (o == kStar && l.isSum) l ++ tMark o :: (tkP (r.isSum || (o == kStar && r.isProd)) r ++ t):=fun t=>by
   show toks (pcE (.bin o l r)) ++ t = _
   rw [pcE,toks_app,List.append_assoc]
   show _ ++ (toks (.bl [32] :: .tk (tMark o) :: .bl [32] :: _) ++ t) = _
   rw [toks,toks,toks,List.cons_append];rfl
 by_cases hs : o = kStar
 · subst hs
   have hB : BX (.bin kStar l r):=by
     intro k t e2 s2 hk hx
     have hk' : k + l.needT ≤ 12 ∧ k + r.needF ≤ 12:=by
       simp only [Ex.needT,isSum_star,Ex.need,if_true,Bool.false_eq_true,if_false] at hk
       simp only [Ex.needT,Ex.needF]
       omega
     rw [isSum_star,tkP_false,e1]
     simp only [beq_self_eq_true,Bool.true_and]
     refine lB k _ e2 s2 hk'.1 (.prodGo (by rw [sees_mark];decide) (rA k t hk'.2) hx)
   have hC:=CX.of_B hB isSum_star
   exact ⟨hC,hB,AX.of_par hC (by simp [Ex.isProd]),TX.of_C hC rfl⟩
 · have hb : (o == kStar) = false:=by rw [beq_eq_false_iff_ne];exact hs
   have ho2 : o = kPlus ∨ o = kMinus:=by
     rcases ho with h | h | h
     · exact .inl h
     · exact .inr h
     · exact absurd h hs
   have hss : (Ex.bin o l r).isSum = true:=by rcases ho2 with h | h <;> simp [Ex.isSum,h]
   have hpp : (Ex.bin o l r).isProd = false:=hb
   have hsee : [kPlus,kMinus].contains o = true:=by rcases ho2 with h | h <;> rw [h] <;> decide
   have hC : CX (.bin o l r):=by
     intro k t e2 s2 hk hst hx
     have hk' : k + l.need ≤ 12 ∧ k + r.needT ≤ 12:=by
       simp only [Ex.need,if_neg hs] at hk
       simp only [Ex.needT]
       omega
     rw [e1]
     simp only [hb,Bool.false_and,Bool.or_false,tkP_false]
     refine lC k _ e2 s2 hk'.1 (by rw [sees_mark];simpa using fun h=>hs h) (.sumGo (by rw [sees_mark];exact hsee) (rB k t r (t,0) hk'.2 (.prodStop hst)) hx)
   have hA:=AX.of_par hC (by rw [hss];rfl)
   exact ⟨hC,BX.of_A hA hpp,hA,TX.of_C hC rfl⟩
mutual
theorem rtE : ∀ e : Ex,e.wf → RX e
 | .none,h=>h.elim
 | .num n,_=>num_run n
 | .name x,_=>name_run x
 | .text x,_=>text_run x
 | .join [],h=>absurd rfl h.1
 | .join (e :: l),h=>join_run e l fun x hx=>by
     rcases List.mem_cons.1 hx with hx | hx
     · rw [hx];exact (rtE e h.2.1).1
     · exact rtL l h.2.2 x hx
 | .bin _ l r,h=>bin_run h.1 (rtE l h.2.1) (rtE r h.2.2)
theorem rtL : ∀ l : List Ex,Ex.wfL l → ∀ x ∈ l,CX x
 | [],_,x,hx=>by cases hx
 | e :: l,h,x,hx=>by
   rcases List.mem_cons.1 hx with hx | hx
   · rw [hx];exact (rtE e h.1).1
   · exact rtL l h.2 x hx
end
end Tx
namespace Tx
def exW (a : Ex) : Prop:=a.wf ∧ a.need ≤ 12
def oName (x : Bs) : Prop:=x = [] ∨ gName x
inductive LineW : St → Prop where
 | send {a r b t} : exW a → gName r → oName b → oName t → LineW (.mk kSend [] a .none .none [r] b t [] [])
 | split {a r l t} : exW a → gName r → (∀ x ∈ l,gName x) → oName t → LineW (.mk kSplit [] a .none .none (r :: l) [] t [] [])
 | cover {r} : gName r → LineW (.mk kCover [] .none .none .none [r] [] [] [] [])
 | wait {a} : exW a → LineW (.mk kWait [] a .none .none [] [] [] [] [])
 | block {x r} : gName x → gName r → LineW (.mk kBlock x .none .none .none [r] [] [] [] [])
 | retry {a b c r t} : exW a → exW b → exW c → gName r → oName t → LineW (.mk kRetry [] a b c [r] [] t [] [])
 | every {a b r} : exW a → exW b → gName r → LineW (.mk kEvery [] a b .none [r] [] [] [] [])
inductive StW : Nat → St → Prop where
 | line {b t} : LineW t → StW b t
 | after {b a l} : exW a → b < 12 → (∀ t ∈ l,StW (b + 1) t) → StW b (.mk kAfter [] a .none .none [] [] [] l [])
 | rpt {b x a l} : gName x → exW a → b < 12 → (∀ t ∈ l,StW (b + 1) t) → StW b (.mk kRepeat x a .none .none [] [] [] l [])
 | iff {b x l m} : gName x → b < 12 → (∀ t ∈ l,StW (b + 1) t) → (∀ t ∈ m,StW (b + 1) t) → StW b (.mk kIf [] .none .none .none [] [] x l m)
theorem gd_suf {a b : List Tk} (hs : Suf a b) (hg : ∀ t ∈ b,Gd t) : ∀ t ∈ a,Gd t:=fun t ht=>by
 obtain ⟨x,rfl⟩:=hs
 exact hg t (by simp [ht])
theorem refS_suf {s : PS} : Suf (refS s).2.1 s.1:=by
 unfold refS
 split
 · exact .tail _
 · exact Suf.fail
theorem refS_ok {s : PS} (h : (refS s).2.2 = 0) : s.2 = 0 ∧ (pk s.1).kind = 1 ∧ refS s = ((pk s.1).text,nx s):=by
 unfold refS at h ⊢
 by_cases hk : knd s 1 = true
 · rw [if_pos hk]
   exact ⟨(knd_ok hk).1,(knd_ok hk).2,rfl⟩
 · rw [if_neg hk] at h
   exact absurd h (failS_bad (by decide))
theorem refS_gd {s : PS} (hg : ∀ t ∈ s.1,Gd t) (h : (refS s).2.2 = 0) : gName (refS s).1:=by
 obtain ⟨h1,h2,h3⟩:=refS_ok h
 rw [h3]
 exact gd_name (hg _ (pk_mem (fun e=>absurd (h2.symm.trans e) (by decide)))) h2
theorem RunE.fit0 {s s' : PS} {e : Ex} (h : RunE 0 (.expr s) e s') (hg : ∀ t ∈ s.1,Gd t) (h0 : s'.2 = 0) : exW e:=by
 obtain ⟨h1,h2⟩:=h.fit (by decide) hg h0
 exact ⟨h1,by omega⟩
theorem RefsR.suf {l l2 : List Bs} {s s2 : PS} (h : RefsR l s l2 s2) : Suf s2.1 s.1:=by
 induction h with
 | go _ _ i=>exact i.trans (refS_suf.trans (.tail _))
 | stop _=>exact .refl _
theorem RefsR.ok {l l2 : List Bs} {s s2 : PS} (h : RefsR l s l2 s2) : s2.2 = 0 → s.2 = 0:=by
 induction h with
 | go h _ _=>exact fun _=>(sees_ok h).1
 | stop _=>exact id
theorem RefsR.gd {l l2 : List Bs} {s s2 : PS} (h : RefsR l s l2 s2) : (∀ t ∈ s.1,Gd t) → s2.2 = 0 → (∀ x ∈ l,gName x) → ∀ x ∈ l2,gName x:=by
 induction h with
 | go hs a i=>
   intro hg h0 hl
   refine i (gd_suf (refS_suf.trans (.tail _)) hg) h0 fun x hx=>?_
   rcases List.mem_append.1 hx with hx | hx
   · exact hl x hx
   · rw [List.mem_singleton.1 hx]
     exact refS_gd (gd_suf (Suf.tail _) hg) (a.ok h0)
 | stop _=>exact fun _ _ h=>h
theorem RefsR.ext {l l2 : List Bs} {s s2 : PS} (h : RefsR l s l2 s2) : ∃ m,l2 = l ++ m:=by
 induction h with
 | go _ _ i=>obtain ⟨m,e⟩:=i;exact ⟨_,by rw [e,List.append_assoc]⟩
 | stop _=>exact ⟨[],by simp⟩
theorem ViaR.suf {b : Bool} {l : List Bs} {s s2 : PS} (h : ViaR b s l s2) : Suf s2.1 s.1:=by
 cases h with
 | one=>exact refS_suf.trans Suf.take
 | many a=>exact a.suf.trans (refS_suf.trans Suf.take)
theorem ViaR.ok {b : Bool} {l : List Bs} {s s2 : PS} (h : ViaR b s l s2) (h0 : s2.2 = 0) : s.2 = 0:=by
 cases h with
 | one=>exact (takeS_ok (refS_ok h0).1).1
 | many a=>exact (takeS_ok (refS_ok (a.ok h0)).1).1
theorem ViaR.gd {b : Bool} {l : List Bs} {s s2 : PS} (h : ViaR b s l s2) (hg : ∀ t ∈ s.1,Gd t) (h0 : s2.2 = 0) : ∃ r m,l = r :: m ∧ gName r ∧ (∀ x ∈ m,gName x) ∧ (b = false → m = []):=by
 cases h with
 | one=>exact ⟨_,[],rfl,refS_gd (gd_suf Suf.take hg) h0,⟨(fun x hx=>by cases hx),fun _=>rfl⟩⟩
 | many a=>
   have h1:=a.ok h0
   have h2:=refS_gd (gd_suf Suf.take hg) h1
   have h3:=a.gd (gd_suf (refS_suf.trans Suf.take) hg) h0 (fun x hx=>by rw [List.mem_singleton.1 hx];exact h2)
   obtain ⟨m,e⟩:=a.ext
   rw [e] at h3 ⊢
   exact ⟨_,m,rfl,h2,fun x hx=>h3 x (by simp [hx]),fun h=>by cases h⟩
theorem tagS_suf {s : PS} : Suf (tagS s).2.1 s.1:=by
 unfold tagS
 split
 · exact refS_suf.trans (.tail _)
 · exact .refl _
theorem tagS_ok {s : PS} (h : (tagS s).2.2 = 0) : s.2 = 0:=by
 unfold tagS at h
 split at h
 · rename_i hs;exact (sees_ok hs).1
 · exact h
theorem tagS_gd {s : PS} (hg : ∀ t ∈ s.1,Gd t) (h : (tagS s).2.2 = 0) : oName (tagS s).1:=by
 unfold tagS at h ⊢
 split
 · rename_i hs
   rw [if_pos hs] at h
   exact .inr (refS_gd (gd_suf (Suf.tail _) hg) h)
 · exact .inl rfl
theorem withS_suf {s : PS} : Suf (withS s).2.1 s.1:=by
 unfold withS
 split
 · exact refS_suf.trans (.tail _)
 · exact .refl _
theorem withS_ok {s : PS} (h : (withS s).2.2 = 0) : s.2 = 0:=by
 unfold withS at h
 split at h
 · rename_i hs;exact (sees_ok hs).1
 · exact h
theorem withS_gd {s : PS} (hg : ∀ t ∈ s.1,Gd t) (h : (withS s).2.2 = 0) : oName (withS s).1:=by
 unfold withS at h ⊢
 split
 · rename_i hs
   rw [if_pos hs] at h
   exact .inr (refS_gd (gd_suf (Suf.tail _) hg) h)
 · exact .inl rfl
theorem LineR.suf {k : Bs} {s s2 : PS} {t : St} (h : LineR k s t s2) : Suf s2.1 s.1:=by
 cases h with
 | send a b=>exact tagS_suf.trans (withS_suf.trans (b.suf.trans a.suf))
 | split a b=>exact tagS_suf.trans (b.suf.trans a.suf)
 | cover=>exact refS_suf
 | wait a=>exact a.suf
 | block a=>exact a.suf.trans refS_suf
 | retry a b c d=>exact tagS_suf.trans (d.suf.trans (c.suf.trans (Suf.take.trans (b.suf.trans (Suf.take.trans a.suf)))))
 | every a b=>exact refS_suf.trans (Suf.take.trans (b.suf.trans (Suf.take.trans a.suf)))
theorem LineR.ok {k : Bs} {s s2 : PS} {t : St} (h : LineR k s t s2) (h0 : s2.2 = 0) : s.2 = 0:=by
 cases h with
 | send a b=>exact a.ok (b.ok (withS_ok (tagS_ok h0)))
 | split a b=>exact a.ok (b.ok (tagS_ok h0))
 | cover=>exact (refS_ok h0).1
 | wait a=>exact a.ok h0
 | block a=>exact (refS_ok (a.ok h0)).1
 | retry a b c d=>exact a.ok (takeS_ok (b.ok (takeS_ok (c.ok (d.ok (tagS_ok h0)))).1)).1
 | every a b=>exact a.ok (takeS_ok (b.ok (takeS_ok (refS_ok h0).1).1)).1
theorem LineR.fit {k : Bs} {s s2 : PS} {t : St} (h : LineR k s t s2) (hg : ∀ t ∈ s.1,Gd t) (h0 : s2.2 = 0) : LineW t:=by
 cases h with
 | send a b=>
   have h1:=tagS_ok h0
   have h2:=withS_ok h1
   have g1:=gd_suf a.suf hg
   have g2:=gd_suf b.suf g1
   obtain ⟨r,m,e,hr,_,hm⟩:=b.gd g1 h2
   rw [e,hm rfl]
   exact .send (a.fit0 hg (b.ok h2)) hr (withS_gd g2 h1) (tagS_gd (gd_suf withS_suf g2) h0)
 | split a b=>
   have h1:=tagS_ok h0
   have g1:=gd_suf a.suf hg
   have g2:=gd_suf b.suf g1
   obtain ⟨r,m,e,hr,hm,_⟩:=b.gd g1 h1
   rw [e]
   exact .split (a.fit0 hg (b.ok h1)) hr hm (tagS_gd g2 h0)
 | cover=>exact .cover (refS_gd hg h0)
 | wait a=>exact .wait (a.fit0 hg h0)
 | block a=>
   have g1:=gd_suf refS_suf hg
   obtain ⟨r,m,e,hr,_,hm⟩:=a.gd g1 h0
   rw [e,hm rfl]
   exact .block (refS_gd hg (a.ok h0)) hr
 | retry a b c d=>
   have h4:=tagS_ok h0
   have h3:=d.ok h4
   have h3':=(takeS_ok (c.ok h3)).1
   have h2':=(takeS_ok (b.ok h3')).1
   have g1:=gd_suf ((Suf.take (x:=kEvery)).trans a.suf) hg
   have g2:=gd_suf ((Suf.take (x:=kSend)).trans b.suf) g1
   have g3:=gd_suf c.suf g2
   obtain ⟨r,m,e,hr,_,hm⟩:=d.gd g3 h4
   rw [e,hm rfl]
   exact .retry (a.fit0 hg h2') (b.fit0 g1 h3') (c.fit0 g2 h3) hr (tagS_gd (gd_suf d.suf g3) h0)
 | every a b=>
   have h3:=(takeS_ok (refS_ok h0).1).1
   have h2:=(takeS_ok (b.ok h3)).1
   have g1:=gd_suf ((Suf.take (x:=kTimes)).trans a.suf) hg
   have g2:=gd_suf ((Suf.take (x:=kCover)).trans b.suf) g1
   exact .every (a.fit0 hg h2) (b.fit0 g1 h3) (refS_gd g2 h0)
theorem bodyS_ok {b : Nat} {s : PS} (h : (bodyS b s).2 = 0) : s.2 = 0 ∧ isT s.1 [kLb] = true ∧ b ≠ 12 ∧ bodyS b s = nx s:=by
 unfold bodyS at h ⊢
 by_cases hc : (sees s [kLb] && decide (b = 12)) = true
 · rw [if_pos hc] at h
   exact absurd (takeS_ok h).1 (failS_bad (by decide))
 · rw [if_neg hc] at h ⊢
   obtain ⟨a,c,e⟩:=takeS_ok h
   refine ⟨a,c,fun h12=>hc ?_,e⟩
   simp [sees,a,c,h12]
theorem Suf.bdy {b : Nat} {s : PS} : Suf (bodyS b s).1 s.1:=by
 unfold bodyS
 split
 · exact Suf.take.trans Suf.fail
 · exact Suf.take
def CallS.st : CallS → PS
 | .stmt s=>s
 | .stmts _ s=>s
 | .body s=>s
theorem RunS.suf {b : Nat} {c : CallS} {l : List St} {s : PS} (h : RunS b c l s) : Suf s.1 c.st.1:=by
 induction h with
 | bad _=>exact Suf.fail
 | after _ _ a _ i=>exact i.trans (a.suf.trans (.tail _))
 | rpt _ _ a _ i=>exact i.trans (a.suf.trans (refS_suf.trans (.tail _)))
 | ifOne _ _ _ _ i=>exact i.trans (refS_suf.trans (Suf.take.trans (.tail _)))
 | ifTwo _ _ _ _ _ i j=>exact j.trans ((Suf.tail _).trans (i.trans (refS_suf.trans (Suf.take.trans (.tail _)))))
 | line _ _ _ _ a=>exact Suf.take.trans (a.suf.trans (.tail _))
 | body _ i=>exact Suf.take.trans (i.trans Suf.bdy)
 | stmtsGo _ _ _ _ i j=>exact j.trans i
 | stmtsEnd _ _=>exact .refl _
 | stmtsBad _=>exact .refl _
theorem RunS.ok {b : Nat} {c : CallS} {l : List St} {s : PS} (h : RunS b c l s) : s.2 = 0 → c.st.2 = 0:=by
 induction h with
 | bad _=>exact fun h=>absurd h (failS_bad (by decide))
 | after h _ _ _ _=>exact fun _=>(sees_ok h).1
 | rpt h _ _ _ _=>exact fun _=>(sees_ok h).1
 | ifOne h _ _ _ _=>exact fun _=>(sees_ok h).1
 | ifTwo h _ _ _ _ _ _=>exact fun _=>(sees_ok h).1
 | line h _ _ _ _=>exact fun _=>(sees_ok h).1
 | body _ i=>exact fun h=>(bodyS_ok (i (takeS_ok h).1)).1
 | stmtsGo h _ _ _ _ _=>exact fun _=>h
 | stmtsEnd h _=>exact fun _=>h
 | stmtsBad h=>exact fun h'=>absurd h' h
def fitS (b : Nat) : CallS → List St → Prop
 | .stmt _,l=>∀ t ∈ l,StW b t
 | .stmts a _,l=>(∀ t ∈ a,StW b t) → ∀ t ∈ l,StW b t
 | .body _,l=>b < 12 ∧ ∀ t ∈ l,StW (b + 1) t
theorem RunS.fit {b : Nat} {c : CallS} {l : List St} {s : PS} (h : RunS b c l s) (hb : b ≤ 12) : (∀ t ∈ c.st.1,Gd t) → s.2 = 0 → fitS b c l:=by
 induction h with
 | bad _=>exact fun _ h=>absurd h (failS_bad (by decide))
 | @after b s a s1 l s2 h1 h2 a1 b1 i=>
   intro hg h0 t ht
   rw [List.mem_singleton.1 ht]
   have g1 : ∀ t ∈ s1.1,Gd t:=gd_suf (a1.suf.trans (Suf.tail _)) hg
   obtain ⟨h3,h4⟩:=i hb g1 h0
   exact .after (a1.fit0 (gd_suf (Suf.tail _) hg) (b1.ok h0)) h3 h4
 | @rpt b s a s1 l s2 h1 h2 a1 b1 i=>
   intro hg h0 t ht
   rw [List.mem_singleton.1 ht]
   have g0 : ∀ t ∈ (refS (nx s)).2.1,Gd t:=gd_suf (refS_suf.trans (Suf.tail _)) hg
   have g1 : ∀ t ∈ s1.1,Gd t:=gd_suf a1.suf g0
   obtain ⟨h3,h4⟩:=i hb g1 h0
   have k1:=b1.ok h0
   exact .rpt (refS_gd (gd_suf (Suf.tail _) hg) (a1.ok k1)) (a1.fit0 g0 k1) h3 h4
 | @ifOne b s l s1 h1 h2 b1 h4 i=>
   intro hg h0 t ht
   rw [List.mem_singleton.1 ht]
   have g0 : ∀ t ∈ (takeS (nx s) kAcked).1,Gd t:=gd_suf (Suf.take.trans (Suf.tail _)) hg
   obtain ⟨h5,h6⟩:=i hb (gd_suf refS_suf g0) h0
   exact .iff (refS_gd g0 (b1.ok h0)) h5 h6 fun t ht=>by cases ht
 | @ifTwo b s l s1 m s2 h1 h2 b1 h4 b2 i j=>
   intro hg h0 t ht
   rw [List.mem_singleton.1 ht]
   have g0 : ∀ t ∈ (takeS (nx s) kAcked).1,Gd t:=gd_suf (Suf.take.trans (Suf.tail _)) hg
   have k1 : s1.2 = 0:=b2.ok h0
   obtain ⟨h5,h6⟩:=i hb (gd_suf refS_suf g0) k1
   obtain ⟨_,h8⟩:=j hb (gd_suf ((Suf.tail _).trans (b1.suf.trans refS_suf)) g0) h0
   exact .iff (refS_gd g0 (b1.ok k1)) h5 h6 h8
 | @line b s t s1 h1 h2 h3 h4 a=>
   intro hg h0 u hu
   rw [List.mem_singleton.1 hu]
   exact .line (a.fit (gd_suf (Suf.tail _) hg) (takeS_ok h0).1)
 | @body b s l s1 a i=>
   intro hg h0
   have k1:=(takeS_ok h0).1
   obtain ⟨_,_,h3,_⟩:=bodyS_ok (a.ok k1)
   exact ⟨by omega,i (by omega) (gd_suf Suf.bdy hg) k1 fun t ht=>by cases ht⟩
 | @stmtsGo b s l t s1 m s2 h1 h2 a1 a2 i j=>
   intro hg h0 hl
   refine j hb (gd_suf a1.suf hg) h0 fun u hu=>?_
   rcases List.mem_append.1 hu with hu | hu
   · exact hl u hu
   · exact i hb hg (a2.ok h0) u hu
 | stmtsEnd _ _=>exact fun _ _ h=>h
 | stmtsBad h=>exact fun _ h'=>absurd h' h
end Tx
namespace Tx
def sp : Pc:=.bl [32]
def ind (d : Nat) : Pc:=.bl (List.replicate (2 * d) 32)
def pcN (w x : Bs) : List Pc:=if x = [] then [] else [sp,.tk (tWord w),sp,.tk (tName x)]
def pcRs : List Bs → List Pc
 | []=>[]
 | x :: l=>.tk (tMark kComma) :: sp :: .tk (tName x) :: pcRs l
def pcRoutes : List Bs → List Pc
 | []=>[]
 | x :: l=>.tk (tName x) :: pcRs l
def pcVia (l : List Bs) : List Pc:=sp :: .tk (tWord kVia) :: sp :: pcRoutes l
def pcLn (kind name : Bs) (a b c : Ex) (routes : List Bs) (block tag : Bs) : List Pc:=
 if kind = kSend then .tk (tWord kSend) :: sp :: (pcE a ++ (pcVia routes ++ (pcN kWith block ++ pcN kAs tag)))
 else if kind = kSplit then .tk (tWord kSplit) :: sp :: (pcE a ++ (pcVia routes ++ pcN kAs tag))
 else if kind = kCover then .tk (tWord kCover) :: sp :: pcRoutes routes
 else if kind = kWait then .tk (tWord kWait) :: sp :: pcE a
 else if kind = kBlock then .tk (tWord kBlock) :: sp :: .tk (tName name) :: pcVia routes
 else if kind = kRetry then .tk (tWord kRetry) :: sp :: (pcE a ++ (sp :: .tk (tWord kEvery) :: sp :: (pcE b ++ (sp :: .tk (tWord kSend) :: sp :: (pcE c ++ (pcVia routes ++ pcN kAs tag))))))
 else if kind = kEvery then .tk (tWord kEvery) :: sp :: (pcE a ++ (sp :: .tk (tWord kTimes) :: sp :: (pcE b ++ (sp :: .tk (tWord kCover) :: sp :: pcRoutes routes))))
 else [.bl [63]]
mutual
def pcS : Nat → St → List Pc
 | d,.mk kind name a b c routes block tag body els=>
   (if kind = kAfter then .tk (tWord kAfter) :: sp :: (pcE a ++ pcB d body)
   else if kind = kRepeat then .tk (tWord kRepeat) :: sp :: .tk (tName name) :: sp :: (pcE a ++ pcB d body)
   else if kind = kIf then .tk (tWord kIf) :: sp :: .tk (tWord kAcked) :: sp :: .tk (tName tag) :: (pcB d body ++ pcX d els)
   else pcLn kind name a b c routes block tag ++ [.tk (tMark kSemi)]) ++ [.bl [10]]
def pcB : Nat → List St → List Pc
 | d,l=>sp :: .tk (tMark kLb) :: .bl [10] :: (pcL (d + 1) l ++ [ind d,.tk (tMark kRb)])
def pcX : Nat → List St → List Pc
 | _,[]=>[]
 | d,t :: l=>sp :: .tk (tWord kElse) :: pcB d (t :: l)
def pcL : Nat → List St → List Pc
 | _,[]=>[]
 | d,t :: l=>ind d :: (pcS d t ++ pcL d l)
end
theorem toks_sp (l : List Pc) : toks (sp :: l) = toks l:=rfl
theorem toks_ind (d : Nat) (l : List Pc) : toks (ind d :: l) = toks l:=rfl
theorem toks_tk (t : Tk) (l : List Pc) : toks (.tk t :: l) = t :: toks l:=rfl
theorem toks_bl (b : Bs) (l : List Pc) : toks (.bl b :: l) = toks l:=rfl
theorem toks_nil : toks [] = []:=rfl
theorem refS_name (x : Bs) (r : List Tk) : refS (tName x :: r,0) = (x,(r,0)):=by
 rw [refS,if_pos (by rw [knd_name];decide)];rfl
def NoHd (r : List Tk) (xs : List Bs) : Prop:=sees (r,0) xs = false
theorem NoHd.mark {x : Bs} {r : List Tk} {xs : List Bs} (h : xs.contains x = false) : NoHd (tMark x :: r) xs:=by rw [NoHd,sees_mark];exact h
theorem NoHd.word {x : Bs} {r : List Tk} {xs : List Bs} (h : xs.contains x = false) : NoHd (tWord x :: r) xs:=by rw [NoHd,sees_word];exact h
theorem expr_run {e : Ex} (h : exW e) {r : List Tk} (h1 : NoHd r [kStar]) (h2 : NoHd r [kPlus,kMinus]) : RunE 0 (.expr (tkE e ++ r,0)) e (r,0):=
 (rtE e h.1).1 0 r e (r,0) (by have:=h.2;omega) h1 (.sumStop h2)
theorem tk_pcN {w x : Bs} (h : x ≠ []) : toks (pcN w x) = [tWord w,tName x]:=by rw [pcN,if_neg h];rfl
theorem gName_ne {x : Bs} (h : gName x) : x ≠ []:=by
 rcases h with ⟨_,h,_⟩ | ⟨h,_⟩ | ⟨h,_⟩ | ⟨h,_⟩ | ⟨h,_⟩
 · exact ne_of_isL h
 all_goals (have h1 : (1 : Int) = _:=h;exact absurd h1 (by decide))
theorem tag_run {t : Bs} (h : oName t) {r : List Tk} (hr : NoHd r [kAs]) : tagS (toks (pcN kAs t) ++ r,0) = (t,(r,0)):=by
 rcases h with rfl | h
 · rw [pcN,if_pos rfl,toks_nil,List.nil_append,tagS,if_neg (by rw [hr];decide)]
 · rw [tk_pcN (gName_ne h),tagS]
   show (if sees (tWord kAs :: tName t :: r,0) [kAs] = true then refS (nx (tWord kAs :: tName t :: r,0)) else _) = _
   rw [if_pos (by rw [sees_word];decide)]
   exact refS_name t r
theorem with_run {t : Bs} (h : oName t) {r : List Tk} (hr : NoHd r [kWith]) : withS (toks (pcN kWith t) ++ r,0) = (t,(r,0)):=by
 rcases h with rfl | h
 · rw [pcN,if_pos rfl,toks_nil,List.nil_append,withS,if_neg (by rw [hr];decide)]
 · rw [tk_pcN (gName_ne h),withS]
   show (if sees (tWord kWith :: tName t :: r,0) [kWith] = true then refS (nx (tWord kWith :: tName t :: r,0)) else _) = _
   rw [if_pos (by rw [sees_word];decide)]
   exact refS_name t r
theorem hd_pcN {w x : Bs} {r : List Tk} {xs : List Bs} (h : oName x) (hw : xs.contains w = false) (hr : NoHd r xs) : NoHd (toks (pcN w x) ++ r) xs:=by
 rcases h with rfl | h
 · rw [pcN,if_pos rfl];exact hr
 · rw [tk_pcN (gName_ne h)];exact NoHd.word hw
theorem refs_run : ∀ (l acc : List Bs) (r : List Tk),NoHd r [kComma] → RefsR acc (toks (pcRs l) ++ r,0) (acc ++ l) (r,0)
 | [],acc,r,h=>by rw [List.append_nil];exact .stop h
 | x :: l,acc,r,h=>by
   have ih:=refs_run l (acc ++ [x]) r h
   rw [List.append_assoc,List.singleton_append] at ih
   have e : toks (pcRs (x :: l)) ++ r = tMark kComma :: tName x :: (toks (pcRs l) ++ r):=rfl
   rw [e]
   refine .go (by rw [sees_mark];decide) ?_
   have e2 : refS (nx (tMark kComma :: tName x :: (toks (pcRs l) ++ r),0)) = (x,(toks (pcRs l) ++ r,0)):=refS_name x _
   rw [e2]
   exact ih
theorem via_one {x : Bs} (r : List Tk) : ViaR false (toks (pcVia [x]) ++ r,0) [x] (r,0):=by
 have e : takeS (toks (pcVia [x]) ++ r,0) kVia = (tName x :: r,0):=take_word kVia _
 have h:=ViaR.one (s:=(toks (pcVia [x]) ++ r,0))
 rw [e,refS_name] at h
 exact h
theorem via_many {x : Bs} {l : List Bs} {r : List Tk} (h : NoHd r [kComma]) : ViaR true (toks (pcVia (x :: l)) ++ r,0) (x :: l) (r,0):=by
 have e : takeS (toks (pcVia (x :: l)) ++ r,0) kVia = (tName x :: (toks (pcRs l) ++ r),0):=take_word kVia _
 refine .many ?_
 rw [e,refS_name]
 exact refs_run l [x] r h
theorem hd_via {l : List Bs} {r : List Tk} {xs : List Bs} (h : xs.contains kVia = false) : NoHd (toks (pcVia l) ++ r) xs:=NoHd.word h
def St.kind : St → Bs
 | .mk k ..=>k
def pcLine : St → List Pc
 | .mk kind name a b c routes block tag _ _=>pcLn kind name a b c routes block tag
theorem tkE_app (e : Ex) (l : List Pc) (r : List Tk) : toks (pcE e ++ l) ++ r = tkE e ++ (toks l ++ r):=by rw [toks_app,List.append_assoc];rfl
theorem line_run {t : St} (h : LineW t) {r : List Tk} (hr : ∀ xs : List Bs,xs.contains kSemi = false → NoHd r xs) :
   ∃ r',toks (pcLine t) ++ r = tWord t.kind :: r' ∧ LineR t.kind (r',0) t (r,0):=by
 cases h with
 | @send a x b g ha hx hb hg=>
   refine ⟨tkE a ++ (toks (pcVia [x] ++ (pcN kWith b ++ pcN kAs g)) ++ r),?_,?_⟩
   · show toks (pcLn kSend [] a .none .none [x] b g) ++ r = _
     rw [pcLn,if_pos rfl,toks_tk,List.cons_append,toks_sp,tkE_app];rfl
   · have e1 : toks (pcVia [x] ++ (pcN kWith b ++ pcN kAs g)) ++ r = toks (pcVia [x]) ++ (toks (pcN kWith b) ++ (toks (pcN kAs g) ++ r)):=by rw [toks_app,toks_app,List.append_assoc,List.append_assoc]
     rw [e1]
     have a1:=expr_run (r:=toks (pcVia [x]) ++ (toks (pcN kWith b) ++ (toks (pcN kAs g) ++ r))) ha (hd_via (by decide)) (hd_via (by decide))
     have w1:=with_run (r:=toks (pcN kAs g) ++ r) hb (hd_pcN hg (by decide) (hr _ (by decide)))
     have t1:=tag_run (r:=r) hg (hr _ (by decide))
     have l1:=LineR.send a1 (via_one _)
     rw [w1] at l1
     simp only [t1] at l1
     exact l1
 | @split a x l g ha hx hl hg=>
   refine ⟨tkE a ++ (toks (pcVia (x :: l) ++ pcN kAs g) ++ r),?_,?_⟩
   · show toks (pcLn kSplit [] a .none .none (x :: l) [] g) ++ r = _
     rw [pcLn,if_neg (by decide),if_pos rfl,toks_tk,List.cons_append,toks_sp,tkE_app];rfl
   · have e1 : toks (pcVia (x :: l) ++ pcN kAs g) ++ r = toks (pcVia (x :: l)) ++ (toks (pcN kAs g) ++ r):=by rw [toks_app,List.append_assoc]
     rw [e1]
     have a1:=expr_run (r:=toks (pcVia (x :: l)) ++ (toks (pcN kAs g) ++ r)) ha (hd_via (by decide)) (hd_via (by decide))
     have t1:=tag_run (r:=r) hg (hr _ (by decide))
     have l1:=LineR.split a1 (via_many (hd_pcN hg (by decide) (hr _ (by decide))))
     simp only [t1] at l1
     exact l1
 | @cover x hx=>
   refine ⟨tName x :: r,rfl,?_⟩
   have l1:=LineR.cover (s:=(tName x :: r,0))
   rw [refS_name] at l1
   exact l1
 | @wait a ha=>
   refine ⟨tkE a ++ r,?_,.wait (expr_run ha (hr _ (by decide)) (hr _ (by decide)))⟩
   show toks (pcLn kWait [] a .none .none [] [] []) ++ r = _
   rw [pcLn,if_neg (by decide),if_neg (by decide),if_neg (by decide),if_pos rfl];rfl
 | @block y x hy hx=>
   refine ⟨tName y :: (toks (pcVia [x]) ++ r),?_,?_⟩
   · show toks (pcLn kBlock y .none .none .none [x] [] []) ++ r = _
     rw [pcLn,if_neg (by decide),if_neg (by decide),if_neg (by decide),if_neg (by decide),if_pos rfl];rfl
   · have e : refS (tName y :: (toks (pcVia [x]) ++ r),0) = (y,(toks (pcVia [x]) ++ r,0)):=refS_name _ _
     have l1:=LineR.block (s:=(tName y :: (toks (pcVia [x]) ++ r),0)) (l:=[x]) (s2:=(r,0)) (by rw [e];exact via_one r)
     rw [e] at l1
     exact l1
 | @retry a b c x g ha hb hc hx hg=>
   refine ⟨tkE a ++ tWord kEvery :: (tkE b ++ tWord kSend :: (tkE c ++ (toks (pcVia [x]) ++ (toks (pcN kAs g) ++ r)))),?_,?_⟩
   · show toks (pcLn kRetry [] a b c [x] [] g) ++ r = _
     rw [pcLn,if_neg (by decide),if_neg (by decide),if_neg (by decide),if_neg (by decide),if_neg (by decide),if_pos rfl,toks_tk,List.cons_append,toks_sp,tkE_app,toks_sp,toks_tk,toks_sp,List.cons_append,tkE_app,toks_sp,toks_tk,toks_sp,List.cons_append,tkE_app,toks_app,List.append_assoc];rfl
   · have t1:=tag_run (r:=r) hg (hr _ (by decide))
     have a1:=expr_run (r:=tWord kEvery :: (tkE b ++ tWord kSend :: (tkE c ++ (toks (pcVia [x]) ++ (toks (pcN kAs g) ++ r))))) ha (NoHd.word (by decide)) (NoHd.word (by decide))
     have b1:=expr_run (r:=tWord kSend :: (tkE c ++ (toks (pcVia [x]) ++ (toks (pcN kAs g) ++ r)))) hb (NoHd.word (by decide)) (NoHd.word (by decide))
     have c1:=expr_run (r:=toks (pcVia [x]) ++ (toks (pcN kAs g) ++ r)) hc (hd_via (by decide)) (hd_via (by decide))
     have l1:=LineR.retry a1 (by rw [take_word];exact b1) (by rw [take_word];exact c1) (via_one _)
     simp only [t1] at l1
     exact l1
 | @every a b x ha hb hx=>
   refine ⟨tkE a ++ tWord kTimes :: (tkE b ++ tWord kCover :: tName x :: r),?_,?_⟩
   · show toks (pcLn kEvery [] a b .none [x] [] []) ++ r = _
     rw [pcLn,if_neg (by decide),if_neg (by decide),if_neg (by decide),if_neg (by decide),if_neg (by decide),if_neg (by decide),if_pos rfl,toks_tk,List.cons_append,toks_sp,tkE_app,toks_sp,toks_tk,toks_sp,List.cons_append,tkE_app];rfl
   · have a1:=expr_run (r:=tWord kTimes :: (tkE b ++ tWord kCover :: tName x :: r)) ha (NoHd.word (by decide)) (NoHd.word (by decide))
     have b1:=expr_run (r:=tWord kCover :: tName x :: r) hb (NoHd.word (by decide)) (NoHd.word (by decide))
     have l1:=LineR.every a1 (by rw [take_word];exact b1)
     rw [take_word,refS_name] at l1
     exact l1
theorem LineW.kinds {t : St} (h : LineW t) : kinds.contains t.kind = true ∧ t.kind ≠ kAfter ∧ t.kind ≠ kRepeat ∧ t.kind ≠ kIf:=by
 cases h <;> exact ⟨by simp only [St.kind];decide,by simp only [St.kind];decide,by simp only [St.kind];decide,by simp only [St.kind];decide⟩
theorem LineW.body {t : St} (h : LineW t) (d : Nat) : pcS d t = (pcLine t ++ [.tk (tMark kSemi)]) ++ [.bl [10]]:=by
 obtain ⟨_,h1,h2,h3⟩:=h.kinds
 cases t
 simp only [St.kind] at h1 h2 h3
 rw [pcS,if_neg h1,if_neg h2,if_neg h3,pcLine]
theorem StW.head {b : Nat} {t : St} (h : StW b t) (d : Nat) : ∃ r,toks (pcS d t) = tWord t.kind :: r ∧ kinds.contains t.kind = true:=by
 cases h with
 | line h=>
   obtain ⟨r',e,_⟩:=line_run h (r:=[tMark kSemi]) (fun xs hx=>NoHd.mark hx)
   rw [h.body d,toks_app,toks_app]
   refine ⟨r',?_,h.kinds.1⟩
   show toks (pcLine t) ++ [tMark kSemi] ++ [] = _
   rw [List.append_nil];exact e
 | after _ _ _=>exact ⟨_,by rw [pcS,if_pos rfl,List.cons_append,toks_tk];rfl,show kinds.contains kAfter = true by decide⟩
 | rpt _ _ _ _=>exact ⟨_,by rw [pcS,if_neg (by decide),if_pos rfl,List.cons_append,toks_tk];rfl,show kinds.contains kRepeat = true by decide⟩
 | iff _ _ _ _=>exact ⟨_,by rw [pcS,if_neg (by decide),if_neg (by decide),if_pos rfl,List.cons_append,toks_tk];rfl,show kinds.contains kIf = true by decide⟩
set_option maxRecDepth 100000 in
theorem body_run {b d : Nat} (r : List Tk) (hb : b < 12) : ∀ (l acc : List St),(∀ t ∈ l,StW (b + 1) t) → (∀ t ∈ l,∀ (d : Nat) (r : List Tk),NoHd r [kElse] → RunS (b + 1) (.stmt (toks (pcS d t) ++ r,0)) [t] (r,0)) →
   RunS (b + 1) (.stmts acc (toks (pcL d l) ++ tMark kRb :: r,0)) (acc ++ l) (tMark kRb :: r,0)
 | [],acc,_,_=>by
   rw [List.append_nil,pcL,toks_nil,List.nil_append]
   exact .stmtsEnd rfl (by rw [sees_mark];decide)
 | t :: l,acc,hw,hr=>by
   have ih:=body_run (d:=d) r hb l (acc ++ [t]) (fun x hx=>hw x (by simp [hx])) (fun x hx=>hr x (by simp [hx]))
   rw [List.append_assoc,List.singleton_append] at ih
   have e : toks (pcL d (t :: l)) ++ tMark kRb :: r = toks (pcS d t) ++ (toks (pcL d l) ++ tMark kRb :: r):=by rw [pcL,toks_ind,toks_app,List.append_assoc]
   rw [e]
   obtain ⟨r',e2,e3⟩:=(hw t (by simp)).head d
   have hel : ∀ k,kinds.contains k = true → [kElse].contains k = false ∧ [kRb].contains k = false:=by
     intro k hk
     have : ∀ k ∈ kinds,[kElse].contains k = false ∧ [kRb].contains k = false:=by decide
     exact this k (by simpa using hk)
   have hh : NoHd (toks (pcL d l) ++ tMark kRb :: r) [kElse]:=by
     cases l with
     | nil=>rw [pcL,toks_nil,List.nil_append];exact NoHd.mark (by decide)
     | cons u l=>
       obtain ⟨r2,e4,e5⟩:=(hw u (by simp)).head d
       rw [pcL,toks_ind,toks_app,e4]
       exact NoHd.word (hel _ e5).1
   refine .stmtsGo rfl ?_ (hr t (by simp) d _ hh) ih
   rw [e2,List.cons_append,sees_word]
   exact (hel _ e3).2
theorem run_body {b : Nat} {l : List St} (hb : b < 12) (hw : ∀ t ∈ l,StW (b + 1) t) (hr : ∀ t ∈ l,∀ (d : Nat) (r : List Tk),NoHd r [kElse] → RunS (b + 1) (.stmt (toks (pcS d t) ++ r,0)) [t] (r,0)) (d : Nat) (r : List Tk) :
   RunS b (.body (toks (pcB d l) ++ r,0)) l (r,0):=by
 have e : toks (pcB d l) ++ r = tMark kLb :: (toks (pcL (d + 1) l) ++ tMark kRb :: r):=by
   rw [pcB,toks_sp,toks_tk,toks_bl,toks_app,List.cons_append,List.append_assoc];rfl
 have h1:=body_run (d:=d + 1) r hb l [] hw hr
 rw [List.nil_append] at h1
 have e2 : bodyS b (tMark kLb :: (toks (pcL (d + 1) l) ++ tMark kRb :: r),0) = (toks (pcL (d + 1) l) ++ tMark kRb :: r,0):=by
   rw [bodyS,if_neg (by simp;omega),take_mark]
 have h2 : RunS b (.body (tMark kLb :: (toks (pcL (d + 1) l) ++ tMark kRb :: r),0)) l (takeS (tMark kRb :: r,0) kRb):=.body (by rw [e2];exact h1)
 rw [take_mark] at h2
 rw [e]
 exact h2
theorem hd_body {d : Nat} {l : List St} {r : List Tk} {xs : List Bs} (h : xs.contains kLb = false) : NoHd (toks (pcB d l) ++ r) xs:=by
 rw [pcB,toks_sp,toks_tk,List.cons_append]
 exact NoHd.mark h
theorem StW.run {b : Nat} {t : St} (h : StW b t) : ∀ (d : Nat) (r : List Tk),NoHd r [kElse] → RunS b (.stmt (toks (pcS d t) ++ r,0)) [t] (r,0):=by
 induction h with
 | @line b t h=>
   intro d r _
   obtain ⟨r',e,h1⟩:=line_run h (r:=tMark kSemi :: r) (fun xs hx=>NoHd.mark hx)
   obtain ⟨k0,k1,k2,k3⟩:=h.kinds
   have e2 : toks (pcS d t) ++ r = tWord t.kind :: r':=by
     rw [h.body d,toks_app,toks_app,List.append_assoc,List.append_assoc];exact e
   rw [e2]
   have h2 : RunS b (.stmt (tWord t.kind :: r',0)) [t] (takeS (tMark kSemi :: r,0) kSemi):=.line (by rw [sees_word];exact k0) k1 k2 k3 h1
   rw [take_mark] at h2
   exact h2
 | @after b a l ha hb hw i=>
   intro d r hr
   have e : toks (pcS d (.mk kAfter [] a .none .none [] [] [] l [])) ++ r = tWord kAfter :: (tkE a ++ (toks (pcB d l) ++ r)):=by
     rw [pcS,if_pos rfl,toks_app,toks_tk,toks_sp,toks_app,List.cons_append,List.cons_append,List.append_assoc,List.append_assoc];rfl
   rw [e]
   exact .after (by rw [sees_word];decide) rfl (expr_run (r:=toks (pcB d l) ++ r) ha (hd_body (by decide)) (hd_body (by decide))) (run_body hb hw i d r)
 | @rpt b x a l hx ha hb hw i=>
   intro d r hr
   have e : toks (pcS d (.mk kRepeat x a .none .none [] [] [] l [])) ++ r = tWord kRepeat :: tName x :: (tkE a ++ (toks (pcB d l) ++ r)):=by
     rw [pcS,if_neg (by decide),if_pos rfl,toks_app,toks_tk,toks_sp,toks_tk,toks_sp,toks_app,List.cons_append,List.cons_append,List.cons_append,List.cons_append,List.append_assoc,List.append_assoc];rfl
   rw [e]
   have e2 : refS (nx (tWord kRepeat :: tName x :: (tkE a ++ (toks (pcB d l) ++ r)),0)) = (x,(tkE a ++ (toks (pcB d l) ++ r),0)):=refS_name _ _
   have h1:=RunS.rpt (b:=b) (s:=(tWord kRepeat :: tName x :: (tkE a ++ (toks (pcB d l) ++ r)),0)) (a:=a) (s1:=(toks (pcB d l) ++ r,0)) (l:=l) (s2:=(r,0)) (by rw [sees_word];decide) rfl
     (by rw [e2];exact expr_run (r:=toks (pcB d l) ++ r) ha (hd_body (by decide)) (hd_body (by decide))) (run_body hb hw i d r)
   rw [e2] at h1
   exact h1
 | @iff b x l m hx hb hl hm i j=>
   intro d r hr
   have e : toks (pcS d (.mk kIf [] .none .none .none [] [] x l m)) ++ r = tWord kIf :: tWord kAcked :: tName x :: (toks (pcB d l) ++ (toks (pcX d m) ++ r)):=by
     rw [pcS,if_neg (by decide),if_neg (by decide),if_pos rfl,toks_app,toks_tk,toks_sp,toks_tk,toks_sp,toks_tk,toks_app]
     simp only [List.cons_append,List.append_assoc];rfl
   rw [e]
   have e2 : refS (takeS (nx (tWord kIf :: tWord kAcked :: tName x :: (toks (pcB d l) ++ (toks (pcX d m) ++ r)),0)) kAcked) = (x,(toks (pcB d l) ++ (toks (pcX d m) ++ r),0)):=by
     rw [show takeS (nx (tWord kIf :: tWord kAcked :: tName x :: (toks (pcB d l) ++ (toks (pcX d m) ++ r)),0)) kAcked = (tName x :: (toks (pcB d l) ++ (toks (pcX d m) ++ r)),0) from take_word kAcked _,refS_name]
   cases m with
   | nil=>
     have ex : toks (pcX d []) ++ r = r:=by rw [pcX];rfl
     rw [ex] at e2 ⊢
     have h1:=RunS.ifOne (b:=b) (s:=(tWord kIf :: tWord kAcked :: tName x :: (toks (pcB d l) ++ r),0)) (l:=l) (s1:=(r,0)) (by rw [sees_word];decide) rfl
       (by rw [e2];exact run_body hb hl i d r) hr
     rw [e2] at h1
     exact h1
   | cons t m=>
     have e3 : toks (pcX d (t :: m)) ++ r = tWord kElse :: (toks (pcB d (t :: m)) ++ r):=by rw [pcX,toks_sp,toks_tk,List.cons_append]
     have h1:=RunS.ifTwo (b:=b) (s:=(tWord kIf :: tWord kAcked :: tName x :: (toks (pcB d l) ++ (toks (pcX d (t :: m)) ++ r)),0)) (l:=l) (s1:=(tWord kElse :: (toks (pcB d (t :: m)) ++ r),0)) (m:=t :: m) (s2:=(r,0)) (by rw [sees_word];decide) rfl
       (by rw [e2,e3];exact run_body hb hl i d _) (by rw [sees_word];decide) (run_body hb hm j d r)
     rw [e2] at h1
     exact h1
end Tx
namespace Tx
def pcAt (x : Bs) : Ex → List Pc
 | .none=>[]
 | e=>.tk (tMark x) :: parP (!e.bare) (pcE e)
def pcPl (p : Pl) : List Pc:=.tk (tName p.node) :: (pcAt kAt p.delay ++ pcAt kBang p.flags)
def pcPr : List Pl → List Pc
 | []=>[]
 | p :: l=>sp :: .tk (tMark kGt) :: sp :: (pcPl p ++ pcPr l)
def pcPls : List Pl → List Pc
 | []=>[]
 | p :: l=>pcPl p ++ pcPr l
def pcD (d : Dc) : List Pc:=
 (if d.kind = kLet then .tk (tWord kLet) :: sp :: .tk (tName d.name) :: sp :: .tk (tMark kEq) :: sp :: pcE d.value
 else if d.kind = kRoute then .tk (tWord kRoute) :: sp :: .tk (tName d.name) :: sp :: .tk (tMark kEq) :: sp :: pcPls d.places
 else [.bl [63]]) ++ [.tk (tMark kSemi),.bl [10]]
def pcDs : List Dc → List Pc
 | []=>[]
 | d :: l=>pcD d ++ pcDs l
def pcSrc (ds : List Dc) (l : List St) : List Pc:=pcDs ds ++ pcL 0 l
def atW (e : Ex) : Prop:=e = .none ∨ (e.wf ∧ e.needA ≤ 12)
def PlW (p : Pl) : Prop:=gName p.node ∧ atW p.delay ∧ atW p.flags
inductive DcW : Dc → Prop where
 | dlet {x v} : gName x → exW v → DcW ⟨kLet,x,v,[]⟩
 | droute {x p l} : gName x → PlW p → (∀ q ∈ l,PlW q) → DcW ⟨kRoute,x,.none,p :: l⟩
theorem OptA.suf {x : Bs} {s s' : PS} {e : Ex} (h : OptA x s e s') : Suf s'.1 s.1:=by
 cases h with
 | yes _ a=>exact a.suf.trans (.tail _)
 | no _=>exact .refl _
theorem OptA.ok {x : Bs} {s s' : PS} {e : Ex} (h : OptA x s e s') (h0 : s'.2 = 0) : s.2 = 0:=by
 cases h with
 | yes hs _=>exact (sees_ok hs).1
 | no _=>exact h0
theorem OptA.fit {x : Bs} {s s' : PS} {e : Ex} (h : OptA x s e s') (hg : ∀ t ∈ s.1,Gd t) (h0 : s'.2 = 0) : atW e:=by
 cases h with
 | yes hs a=>
   obtain ⟨h1,h2,h3⟩:=a.fit (by decide) (gd_suf (Suf.tail _) hg) h0
   exact .inr ⟨h1,by omega⟩
 | no _=>exact .inl rfl
theorem PlaceR.suf {s s' : PS} {p : Pl} (h : PlaceR s p s') : Suf s'.1 s.1:=by
 cases h with
 | mk a b=>exact b.suf.trans (a.suf.trans refS_suf)
theorem PlaceR.ok {s s' : PS} {p : Pl} (h : PlaceR s p s') (h0 : s'.2 = 0) : s.2 = 0:=by
 cases h with
 | mk a b=>exact (refS_ok (a.ok (b.ok h0))).1
theorem PlaceR.fit {s s' : PS} {p : Pl} (h : PlaceR s p s') (hg : ∀ t ∈ s.1,Gd t) (h0 : s'.2 = 0) : PlW p:=by
 cases h with
 | mk a b=>
   have h1:=b.ok h0
   have g1:=gd_suf refS_suf hg
   exact ⟨refS_gd hg (a.ok h1),a.fit g1 h1,b.fit (gd_suf a.suf g1) h0⟩
theorem PlacesR.suf {l l2 : List Pl} {s s2 : PS} (h : PlacesR l s l2 s2) : Suf s2.1 s.1:=by
 induction h with
 | go _ a _ i=>exact i.trans (a.suf.trans (.tail _))
 | stop _=>exact .refl _
theorem PlacesR.ok {l l2 : List Pl} {s s2 : PS} (h : PlacesR l s l2 s2) : s2.2 = 0 → s.2 = 0:=by
 induction h with
 | go h _ _ _=>exact fun _=>(sees_ok h).1
 | stop _=>exact id
theorem PlacesR.fit {l l2 : List Pl} {s s2 : PS} (h : PlacesR l s l2 s2) : (∀ t ∈ s.1,Gd t) → s2.2 = 0 → (∀ p ∈ l,PlW p) → ∀ p ∈ l2,PlW p:=by
 induction h with
 | @go l s p s1 l2 s2 _ a b i=>
   intro hg h0 hl
   have g1 : ∀ t ∈ (nx s).1,Gd t:=gd_suf (Suf.tail _) hg
   refine i (gd_suf a.suf g1) h0 fun q hq=>?_
   rcases List.mem_append.1 hq with hq | hq
   · exact hl q hq
   · rw [List.mem_singleton.1 hq];exact a.fit g1 (b.ok h0)
 | stop _=>exact fun _ _ h=>h
theorem PlacesR.ext {l l2 : List Pl} {s s2 : PS} (h : PlacesR l s l2 s2) : ∃ m,l2 = l ++ m:=by
 induction h with
 | go _ _ _ i=>obtain ⟨m,e⟩:=i;exact ⟨_,by rw [e,List.append_assoc]⟩
 | stop _=>exact ⟨[],by simp⟩
theorem DeclR.suf {s s' : PS} {d : Dc} (h : DeclR s d s') : Suf s'.1 s.1:=by
 cases h with
 | dlet _ a=>exact Suf.take.trans (a.suf.trans (Suf.take.trans (refS_suf.trans (.tail _))))
 | droute _ a b=>exact Suf.take.trans (b.suf.trans (a.suf.trans (Suf.take.trans (refS_suf.trans (.tail _)))))
set_option maxRecDepth 100000 in
theorem DeclR.fit {s s' : PS} {d : Dc} (h : DeclR s d s') (hs : sees s [kLet,kRoute] = true) (hg : ∀ t ∈ s.1,Gd t) (h0 : s'.2 = 0) : DcW d:=by
 have g0 : ∀ t ∈ (nx s).1,Gd t:=gd_suf (Suf.tail _) hg
 have g1 : ∀ t ∈ (takeS (refS (nx s)).2 kEq).1,Gd t:=gd_suf (Suf.take.trans refS_suf) g0
 cases h with
 | dlet h1 a=>
   have k1:=a.ok (takeS_ok h0).1
   rw [h1]
   exact .dlet (refS_gd g0 (takeS_ok k1).1) (a.fit0 g1 (takeS_ok h0).1)
 | droute h1 a b=>
   have h2 : (pk s.1).text = kRoute:=by
     have:=(sees_ok hs).2
     simp only [isT,Bool.and_eq_true] at this
     have h3 : (pk s.1).text = kLet ∨ (pk s.1).text = kRoute:=by simpa using this.2
     exact h3.resolve_left h1
   have k2:=(takeS_ok h0).1
   have k1:=b.ok k2
   have hp:=a.fit g1 k1
   have hl:=b.fit (gd_suf a.suf g1) k2 (fun q hq=>by rw [List.mem_singleton.1 hq];exact hp)
   obtain ⟨m,e⟩:=b.ext
   rw [h2,e]
   rw [e] at hl
   exact .droute (refS_gd g0 (takeS_ok (a.ok k1)).1) hp fun q hq=>hl q (List.mem_append.2 (.inr hq))
theorem DeclsR.suf {l l2 : List Dc} {s s2 : PS} (h : DeclsR l s l2 s2) : Suf s2.1 s.1:=by
 induction h with
 | go _ a _ i=>exact i.trans a.suf
 | stop _=>exact .refl _
theorem DeclsR.ok {l l2 : List Dc} {s s2 : PS} (h : DeclsR l s l2 s2) : s2.2 = 0 → s.2 = 0:=by
 induction h with
 | go h _ _ _=>exact fun _=>(sees_ok h).1
 | stop _=>exact id
theorem DeclsR.fit {l l2 : List Dc} {s s2 : PS} (h : DeclsR l s l2 s2) : (∀ t ∈ s.1,Gd t) → s2.2 = 0 → (∀ d ∈ l,DcW d) → ∀ d ∈ l2,DcW d:=by
 induction h with
 | go hs a b i=>
   intro hg h0 hl
   refine i (gd_suf a.suf hg) h0 fun q hq=>?_
   rcases List.mem_append.1 hq with hq | hq
   · exact hl q hq
   · rw [List.mem_singleton.1 hq];exact a.fit hs hg (b.ok h0)
 | stop _=>exact fun _ _ h=>h
theorem TopR.ok {l l2 : List St} {s s2 : PS} (h : TopR l s l2 s2) : s2.2 = 0 → s.2 = 0:=by
 cases h with
 | go h _ _ _=>exact fun _=>h
 | fin h _=>exact fun _=>h
 | bad h=>exact fun h'=>absurd h' h
theorem TopR.fit {l l2 : List St} {s s2 : PS} (h : TopR l s l2 s2) : (∀ t ∈ s.1,Gd t) → s2.2 = 0 → (∀ t ∈ l,StW 0 t) → ∀ t ∈ l2,StW 0 t:=by
 induction h with
 | go _ _ a b i=>
   intro hg h0 hl
   refine i (gd_suf a.suf hg) h0 fun q hq=>?_
   rcases List.mem_append.1 hq with hq | hq
   · exact hl q hq
   · exact a.fit (by decide) hg (b.ok h0) q hq
 | fin _ _=>exact fun _ _ h=>h
 | bad _=>exact fun _ _ h=>h
theorem SrcR.fit {r : List Tk} {ds : List Dc} {l : List St} {s : PS} (h : SrcR r ds l s) (hg : ∀ t ∈ r,Gd t) (h0 : s.2 = 0) : (∀ d ∈ ds,DcW d) ∧ ∀ t ∈ l,StW 0 t:=by
 cases h with
 | mk a b=>
   have k1:=b.ok h0
   exact ⟨a.fit hg k1 fun d hd=>(by cases hd),b.fit (gd_suf a.suf hg) h0 fun t ht=>(by cases ht)⟩
theorem at_run {x : Bs} {e : Ex} (h : atW e) {r : List Tk} (hr : NoHd r [x]) : OptA x (toks (pcAt x e) ++ r,0) e (r,0):=by
 rcases h with rfl | ⟨h1,h2⟩
 · exact .no hr
 · have e1 : pcAt x e = .tk (tMark x) :: parP (!e.bare) (pcE e):=by
     cases e with
     | none=>exact h1.elim
     | _=>rfl
   rw [e1,toks_tk,List.cons_append]
   exact .yes (by rw [sees_mark];simp) ((rtE e h1).2.2.2 0 r (by omega))
theorem hd_at {x : Bs} {e : Ex} {r : List Tk} {xs : List Bs} (h : atW e) (hx : xs.contains x = false) (hr : NoHd r xs) : NoHd (toks (pcAt x e) ++ r) xs:=by
 rcases h with rfl | ⟨h1,h2⟩
 · exact hr
 · have e1 : pcAt x e = .tk (tMark x) :: parP (!e.bare) (pcE e):=by
     cases e with
     | none=>exact h1.elim
     | _=>rfl
   rw [e1,toks_tk,List.cons_append]
   exact NoHd.mark hx
theorem place_run {p : Pl} (h : PlW p) {r : List Tk} (h1 : NoHd r [kAt]) (h2 : NoHd r [kBang]) : PlaceR (toks (pcPl p) ++ r,0) p (r,0):=by
 obtain ⟨node,delay,flags⟩:=p
 obtain ⟨_,hd,hf⟩:=h
 have e : toks (pcPl ⟨node,delay,flags⟩) ++ r = tName node :: (toks (pcAt kAt delay) ++ (toks (pcAt kBang flags) ++ r)):=by
   rw [pcPl,toks_tk,toks_app,List.cons_append,List.append_assoc]
 rw [e]
 have hh:=PlaceR.mk (s:=(tName node :: (toks (pcAt kAt delay) ++ (toks (pcAt kBang flags) ++ r)),0)) (d:=delay) (s1:=(toks (pcAt kBang flags) ++ r,0)) (f:=flags) (s2:=(r,0))
   (by rw [refS_name];exact at_run hd (hd_at hf (by decide) h1)) (at_run hf h2)
 rw [refS_name] at hh
 exact hh
theorem places_run : ∀ (l acc : List Pl) (r : List Tk),(∀ q ∈ l,PlW q) → PlacesR acc (toks (pcPr l) ++ tMark kSemi :: r,0) (acc ++ l) (tMark kSemi :: r,0)
 | [],acc,r,_=>by
   rw [List.append_nil]
   exact .stop (by show sees (tMark kSemi :: r,0) _ = false;rw [sees_mark];decide)
 | p :: l,acc,r,h=>by
   have ih:=places_run l (acc ++ [p]) r fun q hq=>h q (by simp [hq])
   rw [List.append_assoc,List.singleton_append] at ih
   have e : toks (pcPr (p :: l)) ++ tMark kSemi :: r = tMark kGt :: (toks (pcPl p) ++ (toks (pcPr l) ++ tMark kSemi :: r)):=by
     rw [pcPr,toks_sp,toks_tk,toks_sp,toks_app,List.cons_append,List.append_assoc]
   rw [e]
   have hd : ∀ xs : List Bs,xs.contains kGt = false → xs.contains kSemi = false → NoHd (toks (pcPr l) ++ tMark kSemi :: r) xs:=fun xs h1 h2=>by
     cases l with
     | nil=>exact NoHd.mark h2
     | cons q l=>rw [pcPr,toks_sp,toks_tk,List.cons_append];exact NoHd.mark h1
   exact .go (by rw [sees_mark];decide) (place_run (h p (by simp)) (hd _ (by decide) (by decide)) (hd _ (by decide) (by decide))) ih
theorem decl_run {d : Dc} (h : DcW d) (r : List Tk) : DeclR (toks (pcD d) ++ r,0) d (r,0) ∧ ∃ r',toks (pcD d) ++ r = tWord d.kind :: r' ∧ [kLet,kRoute].contains d.kind = true:=by
 cases h with
 | @dlet x v hx hv=>
   have e : toks (pcD ⟨kLet,x,v,[]⟩) ++ r = tWord kLet :: tName x :: tMark kEq :: (tkE v ++ tMark kSemi :: r):=by
     rw [pcD,if_pos rfl,toks_app,toks_tk,toks_sp,toks_tk,toks_sp,toks_tk,toks_sp,toks_tk,toks_bl,toks_nil]
     simp only [List.cons_append,List.append_assoc,List.nil_append];rfl
   refine ⟨?_,_,e,show [kLet,kRoute].contains kLet = true by decide⟩
   rw [e]
   have e2 : takeS (refS (nx (tWord kLet :: tName x :: tMark kEq :: (tkE v ++ tMark kSemi :: r),0))).2 kEq = (tkE v ++ tMark kSemi :: r,0):=by
     rw [show refS (nx (tWord kLet :: tName x :: tMark kEq :: (tkE v ++ tMark kSemi :: r),0)) = (x,(tMark kEq :: (tkE v ++ tMark kSemi :: r),0)) from refS_name _ _]
     exact take_mark _ _
   have h1:=DeclR.dlet (s:=(tWord kLet :: tName x :: tMark kEq :: (tkE v ++ tMark kSemi :: r),0)) (v:=v) (s2:=(tMark kSemi :: r,0)) rfl (by rw [e2];exact expr_run hv (NoHd.mark (by decide)) (NoHd.mark (by decide)))
   rw [take_mark] at h1
   have e3 : (refS (nx (tWord kLet :: tName x :: tMark kEq :: (tkE v ++ tMark kSemi :: r),0))).1 = x:=by
     rw [show refS (nx (tWord kLet :: tName x :: tMark kEq :: (tkE v ++ tMark kSemi :: r),0)) = (x,(tMark kEq :: (tkE v ++ tMark kSemi :: r),0)) from refS_name _ _]
   rw [e3] at h1
   exact h1
 | @droute x p l hx hp hl=>
   have e : toks (pcD ⟨kRoute,x,.none,p :: l⟩) ++ r = tWord kRoute :: tName x :: tMark kEq :: (toks (pcPl p) ++ (toks (pcPr l) ++ tMark kSemi :: r)):=by
     rw [pcD,if_neg (show kRoute ≠ kLet by decide),if_pos rfl,toks_app,toks_tk,toks_sp,toks_tk,toks_sp,toks_tk,toks_sp,pcPls,toks_app,toks_tk,toks_bl,toks_nil]
     simp only [List.cons_append,List.append_assoc,List.nil_append]
   refine ⟨?_,_,e,show [kLet,kRoute].contains kRoute = true by decide⟩
   rw [e]
   have hd : ∀ xs : List Bs,xs.contains kGt = false → xs.contains kSemi = false → NoHd (toks (pcPr l) ++ tMark kSemi :: r) xs:=fun xs h1 h2=>by
     cases l with
     | nil=>exact NoHd.mark h2
     | cons q l=>rw [pcPr,toks_sp,toks_tk,List.cons_append];exact NoHd.mark h1
   have er : refS (nx (tWord kRoute :: tName x :: tMark kEq :: (toks (pcPl p) ++ (toks (pcPr l) ++ tMark kSemi :: r)),0)) = (x,(tMark kEq :: (toks (pcPl p) ++ (toks (pcPr l) ++ tMark kSemi :: r)),0)):=refS_name _ _
   have e2 : takeS (refS (nx (tWord kRoute :: tName x :: tMark kEq :: (toks (pcPl p) ++ (toks (pcPr l) ++ tMark kSemi :: r)),0))).2 kEq = (toks (pcPl p) ++ (toks (pcPr l) ++ tMark kSemi :: r),0):=by
     rw [er];exact take_mark _ _
   have h1:=DeclR.droute (s:=(tWord kRoute :: tName x :: tMark kEq :: (toks (pcPl p) ++ (toks (pcPr l) ++ tMark kSemi :: r)),0)) (p:=p) (s1:=(toks (pcPr l) ++ tMark kSemi :: r,0)) (l:=p :: l) (s2:=(tMark kSemi :: r,0)) (show kRoute ≠ kLet by decide)
     (by rw [e2];exact place_run hp (hd _ (by decide) (by decide)) (hd _ (by decide) (by decide))) (places_run l [p] r hl)
   rw [take_mark,er] at h1
   exact h1
theorem decls_run (r : List Tk) (hr : NoHd r [kLet,kRoute]) : ∀ (ds acc : List Dc),(∀ d ∈ ds,DcW d) → DeclsR acc (toks (pcDs ds) ++ r,0) (acc ++ ds) (r,0)
 | [],acc,_=>by rw [List.append_nil];exact .stop hr
 | d :: ds,acc,h=>by
   have ih:=decls_run r hr ds (acc ++ [d]) fun x hx=>h x (by simp [hx])
   rw [List.append_assoc,List.singleton_append] at ih
   obtain ⟨h1,r',e,hk⟩:=decl_run (h d (by simp)) (toks (pcDs ds) ++ r)
   have e2 : toks (pcDs (d :: ds)) ++ r = toks (pcD d) ++ (toks (pcDs ds) ++ r):=by rw [pcDs,toks_app,List.append_assoc]
   rw [e2]
   refine .go ?_ h1 ih
   rw [e,sees_word];exact hk
set_option maxRecDepth 100000 in
theorem top_run (d : Nat) : ∀ (l acc : List St),(∀ t ∈ l,StW 0 t) → TopR acc (toks (pcL d l),0) (acc ++ l) ([],0)
 | [],acc,_=>by rw [List.append_nil,pcL];exact .fin rfl rfl
 | t :: l,acc,h=>by
   have ih:=top_run d l (acc ++ [t]) fun x hx=>h x (by simp [hx])
   rw [List.append_assoc,List.singleton_append] at ih
   have e : toks (pcL d (t :: l)) = toks (pcS d t) ++ toks (pcL d l):=by rw [pcL,toks_ind,toks_app]
   rw [e]
   obtain ⟨r',e2,_⟩:=(h t (by simp)).head d
   have hh : NoHd (toks (pcL d l)) [kElse]:=by
     cases l with
     | nil=>rw [pcL];exact sees_nil _
     | cons u l=>
       obtain ⟨r2,e4,e5⟩:=(h u (by simp)).head d
       have hel : ∀ k ∈ kinds,[kElse].contains k = false:=by decide
       rw [pcL,toks_ind,toks_app,e4]
       exact NoHd.word (hel _ (by simpa using e5))
   exact .go rfl (by show (pk (toks (pcS d t) ++ _)).kind ≠ 6;rw [e2];show (2 : Int) ≠ 6;decide) ((h t (by simp)).run d _ hh) ih
set_option maxRecDepth 100000 in
theorem src_run {ds : List Dc} {l : List St} (hd : ∀ d ∈ ds,DcW d) (hl : ∀ t ∈ l,StW 0 t) : SrcR (toks (pcSrc ds l)) ds l ([],0):=by
 have hh : NoHd (toks (pcL 0 l)) [kLet,kRoute]:=by
   cases l with
   | nil=>rw [pcL];exact sees_nil _
   | cons u l=>
     obtain ⟨r2,e4,e5⟩:=(hl u (by simp)).head 0
     have hel : ∀ k ∈ kinds,[kLet,kRoute].contains k = false:=by decide
     rw [pcL,toks_ind,toks_app,e4]
     exact NoHd.word (hel _ (by simpa using e5))
 have h1:=decls_run (toks (pcL 0 l)) hh ds [] hd
 have h2:=top_run 0 l [] hl
 rw [List.nil_append] at h1 h2
 refine .mk (s1:=(toks (pcL 0 l),0)) ?_ h2
 rw [pcSrc,toks_app]
 exact h1
end Tx
namespace Tx
theorem ok_app {p : Bool} {a b : List Pc} (ha : okP p a) (hb : ∀ q,okP q b) : okP p (a ++ b):=(okP_app p a b).2 ⟨ha,hb _⟩
theorem okSp {p : Bool} {l : List Pc} (h : okP false l) : okP p (sp :: l):=⟨rfl,by rw [show (p && List.isEmpty ([32] : Bs)) = false by cases p <;> rfl];exact h⟩
theorem okNl {p : Bool} {l : List Pc} (h : okP false l) : okP p (.bl [10] :: l):=⟨by decide,by rw [show (p && List.isEmpty ([10] : Bs)) = false by cases p <;> rfl];exact h⟩
theorem okInd {d : Nat} {l : List Pc} (h : okP false l) : okP false (ind d :: l):=by
 refine ⟨?_,h⟩
 induction 2 * d with
 | zero=>rfl
 | succ n ih=>rw [List.replicate_succ,List.all_cons,ih];decide
theorem okM {c : UInt8} (hc : marks.contains c = true) {p : Bool} {l : List Pc} (h : okP false l) : okP p (.tk (tMark [c]) :: l):=
 ⟨.inr (.inr (.inr (.inr ⟨rfl,rfl,c,rfl,hc⟩))),by rw [show wordy (tMark [c]) = false by simp [wordy,tMark],Bool.and_false],by rw [show wordy (tMark [c]) = false by simp [wordy,tMark]];exact h⟩
theorem okW {x : Bs} (hx : reserved x = true) {l : List Pc} (h : okP true l) : okP false (.tk (tWord x) :: l):=
 ⟨.inr (.inl ⟨rfl,hx,rfl⟩),rfl,by rw [show wordy (tWord x) = true from rfl];exact h⟩
theorem okN {x : Bs} (hx : gName x) {l : List Pc} (h : okP true l) : okP false (.tk (tName x) :: l):=
 ⟨hx,rfl,by rw [show wordy (tName x) = true from rfl];exact h⟩
theorem ok_par {b : Bool} {x : List Pc} (h : okP false x) : okP false (parP b x):=by
 cases b with
 | false=>exact h
 | true=>exact okM (by decide) (ok_app h fun q=>okM (by decide) trivial)
theorem op_mark {o : Bs} (h : o = kPlus ∨ o = kMinus ∨ o = kStar) : ∃ c,o = [c] ∧ marks.contains c = true:=by
 rcases h with rfl | rfl | rfl
 · exact ⟨43,rfl,by decide⟩
 · exact ⟨45,rfl,by decide⟩
 · exact ⟨42,rfl,by decide⟩
mutual
theorem okE : ∀ e : Ex,e.wf → okP false (pcE e)
 | .none,h=>h.elim
 | .num n,h=>by
   rw [pcE]
   exact ⟨tNum_gd h.1 h.2,rfl,trivial⟩
 | .name x,h=>by rw [pcE];exact okN h trivial
 | .text x,_=>by rw [pcE];exact ⟨.inr (.inr (.inr (.inl ⟨rfl,rfl⟩))),rfl,trivial⟩
 | .join [],h=>absurd rfl h.1
 | .join (e :: l),h=>by
   rw [pcE,pcJ]
   exact okW (by decide) (okM (by decide) (ok_app (ok_app (okE e h.2.1) (okRs l h.2.2)) fun q=>okM (by decide) trivial))
 | .bin o l r,h=>by
   obtain ⟨c,rfl,hc⟩:=op_mark h.1
   rw [pcE]
   exact ok_app (ok_par (okE l h.2.1)) fun q=>okSp (okM hc (okSp (ok_par (okE r h.2.2))))
theorem okRs : ∀ l : List Ex,Ex.wfL l → ∀ q,okP q (pcR l)
 | [],_,_=>by rw [pcR];trivial
 | e :: l,h,q=>by
   rw [pcR]
   exact okM (by decide) (okSp (ok_app (okE e h.1) (okRs l h.2)))
end
theorem ok_pcN {w x : Bs} (hw : reserved w = true) (hx : oName x) (q : Bool) : okP q (pcN w x):=by
 unfold pcN
 split
 · trivial
 · rename_i h
   exact okSp (okW hw (okSp (okN (hx.resolve_left h) trivial)))
theorem ok_pcRs : ∀ (l : List Bs),(∀ x ∈ l,gName x) → ∀ q,okP q (pcRs l)
 | [],_,_=>trivial
 | x :: l,h,q=>okM (by decide) (okSp (okN (h x (by simp)) (ok_pcRs l (fun y hy=>h y (by simp [hy])) true)))
theorem ok_routes {x : Bs} {l : List Bs} (hx : gName x) (h : ∀ y ∈ l,gName y) : okP false (pcRoutes (x :: l)):=okN hx (ok_pcRs l h true)
theorem ok_via {x : Bs} {l : List Bs} (hx : gName x) (h : ∀ y ∈ l,gName y) (q : Bool) : okP q (pcVia (x :: l)):=okSp (okW (by decide) (okSp (ok_routes hx h)))
theorem no_names : ∀ y ∈ ([] : List Bs),gName y:=fun y hy=>by cases hy
theorem ok_line {t : St} (h : LineW t) : okP false (pcLine t):=by
 cases h with
 | send ha hx hb hg=>
   rw [pcLine,pcLn,if_pos rfl]
   exact okW (by decide) (okSp (ok_app (okE _ ha.1) fun q=>ok_app (ok_via hx no_names q) fun q=>ok_app (ok_pcN (by decide) hb q) fun q=>ok_pcN (by decide) hg q))
 | split ha hx hl hg=>
   rw [pcLine,pcLn,if_neg (by decide),if_pos rfl]
   exact okW (by decide) (okSp (ok_app (okE _ ha.1) fun q=>ok_app (ok_via hx hl q) fun q=>ok_pcN (by decide) hg q))
 | cover hx=>
   rw [pcLine,pcLn,if_neg (by decide),if_neg (by decide),if_pos rfl]
   exact okW (by decide) (okSp (ok_routes hx no_names))
 | wait ha=>
   rw [pcLine,pcLn,if_neg (by decide),if_neg (by decide),if_neg (by decide),if_pos rfl]
   exact okW (by decide) (okSp (okE _ ha.1))
 | block hy hx=>
   rw [pcLine,pcLn,if_neg (by decide),if_neg (by decide),if_neg (by decide),if_neg (by decide),if_pos rfl]
   exact okW (by decide) (okSp (okN hy (ok_via hx no_names true)))
 | retry ha hb hc hx hg=>
   rw [pcLine,pcLn,if_neg (by decide),if_neg (by decide),if_neg (by decide),if_neg (by decide),if_neg (by decide),if_pos rfl]
   exact okW (by decide) (okSp (ok_app (okE _ ha.1) fun q=>okSp (okW (by decide) (okSp (ok_app (okE _ hb.1) fun q=>okSp (okW (by decide) (okSp (ok_app (okE _ hc.1) fun q=>ok_app (ok_via hx no_names q) fun q=>ok_pcN (by decide) hg q))))))))
 | every ha hb hx=>
   rw [pcLine,pcLn,if_neg (by decide),if_neg (by decide),if_neg (by decide),if_neg (by decide),if_neg (by decide),if_neg (by decide),if_pos rfl]
   exact okW (by decide) (okSp (ok_app (okE _ ha.1) fun q=>okSp (okW (by decide) (okSp (ok_app (okE _ hb.1) fun q=>okSp (okW (by decide) (okSp (ok_routes hx no_names))))))))
theorem out_nl (p : Bool) (a : List Pc) : outP p (a ++ [.bl [10]]) = false:=by
 rw [outP_app]
 show (outP p a && List.isEmpty ([10] : Bs)) = false
 cases outP p a <;> rfl
theorem out_pcS (p : Bool) (d : Nat) (t : St) : outP p (pcS d t) = false:=by
 cases t
 rw [pcS]
 exact out_nl _ _
theorem out_pcL : ∀ (d : Nat) (l : List St),outP false (pcL d l) = false
 | d,[]=>by rw [pcL];rfl
 | d,t :: l=>by
   rw [pcL]
   show outP _ (pcS d t ++ pcL d l) = false
   rw [outP_app,out_pcS]
   exact out_pcL d l
theorem ok_pcL (d : Nat) : ∀ (l : List St),(∀ t ∈ l,okP false (pcS d t)) → okP false (pcL d l)
 | [],_=>by rw [pcL];trivial
 | t :: l,h=>by
   rw [pcL]
   exact okInd ((okP_app _ _ _).2 ⟨h t (by simp),by rw [out_pcS];exact ok_pcL d l fun u hu=>h u (by simp [hu])⟩)
theorem ok_pcB {d : Nat} {l : List St} (h : ∀ t ∈ l,okP false (pcS (d + 1) t)) (q : Bool) : okP q (pcB d l):=by
 rw [pcB]
 refine okSp (okM (by decide) (okNl ((okP_app _ _ _).2 ⟨ok_pcL _ l h,?_⟩)))
 rw [out_pcL]
 exact okInd (okM (by decide) trivial)
theorem StW.okS {b : Nat} {t : St} (h : StW b t) : ∀ d,okP false (pcS d t):=by
 induction h with
 | line h=>
   intro d
   rw [h.body d]
   exact ok_app (ok_app (ok_line h) fun q=>okM (by decide) trivial) fun q=>okNl trivial
 | after ha _ _ i=>
   intro d
   rw [pcS,if_pos rfl]
   exact ok_app (okW (by decide) (okSp (ok_app (okE _ ha.1) (ok_pcB fun t ht=>i t ht _)))) fun q=>okNl trivial
 | rpt hx ha _ _ i=>
   intro d
   rw [pcS,if_neg (by decide),if_pos rfl]
   exact ok_app (okW (by decide) (okSp (okN hx (okSp (ok_app (okE _ ha.1) (ok_pcB fun t ht=>i t ht _)))))) fun q=>okNl trivial
 | @iff b x l m hx _ _ _ i j=>
   intro d
   rw [pcS,if_neg (by decide),if_neg (by decide),if_pos rfl]
   refine ok_app (okW (by decide) (okSp (okW (by decide) (okSp (okN hx (ok_app (ok_pcB (fun t ht=>i t ht _) true) fun q=>?_)))))) fun q=>okNl trivial
   cases m with
   | nil=>rw [pcX];trivial
   | cons t m=>rw [pcX];exact okSp (okW (by decide) (ok_pcB (fun t ht=>j t ht _) true))
theorem ok_at {x : UInt8} (hx : marks.contains x = true) {e : Ex} (h : atW e) (q : Bool) : okP q (pcAt [x] e):=by
 rcases h with rfl | ⟨h1,_⟩
 · trivial
 · have e1 : pcAt [x] e = .tk (tMark [x]) :: parP (!e.bare) (pcE e):=by
     cases e with
     | none=>exact h1.elim
     | _=>rfl
   rw [e1]
   exact okM hx (ok_par (okE e h1))
theorem ok_pl {p : Pl} (h : PlW p) : okP false (pcPl p):=okN h.1 (ok_app (ok_at (by decide) h.2.1 true) fun q=>ok_at (by decide) h.2.2 q)
theorem ok_pr : ∀ (l : List Pl),(∀ p ∈ l,PlW p) → ∀ q,okP q (pcPr l)
 | [],_,_=>trivial
 | p :: l,h,q=>okSp (okM (by decide) (okSp (ok_app (ok_pl (h p (by simp))) (ok_pr l fun x hx=>h x (by simp [hx])))))
theorem DcW.okD {d : Dc} (h : DcW d) : okP false (pcD d):=by
 cases h with
 | dlet hx hv=>
   rw [pcD,if_pos rfl]
   exact ok_app (okW (by decide) (okSp (okN hx (okSp (okM (by decide) (okSp (okE _ hv.1))))))) fun q=>okM (by decide) (okNl trivial)
 | droute hx hp hl=>
   rw [pcD,if_neg (show kRoute ≠ kLet by decide),if_pos rfl,pcPls]
   exact ok_app (okW (by decide) (okSp (okN hx (okSp (okM (by decide) (okSp (ok_app (ok_pl hp) (ok_pr _ hl)))))))) fun q=>okM (by decide) (okNl trivial)
theorem out_pcD (p : Bool) (d : Dc) : outP p (pcD d) = false:=by
 rw [pcD,outP_app]
 show (wordy (tMark kSemi) && List.isEmpty ([10] : Bs)) = false
 simp
theorem out_pcDs : ∀ (l : List Dc),outP false (pcDs l) = false
 | []=>rfl
 | d :: l=>by rw [pcDs,outP_app,out_pcD];exact out_pcDs l
theorem ok_pcDs : ∀ (l : List Dc),(∀ d ∈ l,DcW d) → okP false (pcDs l)
 | [],_=>trivial
 | d :: l,h=>by
   rw [pcDs]
   exact (okP_app _ _ _).2 ⟨(h d (by simp)).okD,by rw [out_pcD];exact ok_pcDs l fun x hx=>h x (by simp [hx])⟩
theorem ok_src {ds : List Dc} {l : List St} (hd : ∀ d ∈ ds,DcW d) (hl : ∀ t ∈ l,StW 0 t) : okP false (pcSrc ds l):=by
 rw [pcSrc]
 exact (okP_app _ _ _).2 ⟨ok_pcDs ds hd,by rw [out_pcDs];exact ok_pcL 0 l fun t ht=>(hl t ht).okS 0⟩
def txSrc (ds : List Dc) (l : List St) : Bs:=rend (pcSrc ds l)
theorem print_law {s : Bs} {ts : List Tk} {ds : List Dc} {l : List St} {st : PS} (h : ScR s ts none) (h2 : SrcR ts ds l st) (h0 : st.2 = 0) :
   ∃ us,ScR (txSrc ds l) us none ∧ SrcR us ds l ([],0):=by
 obtain ⟨hd,hl⟩:=h2.fit h.gd h0
 exact ⟨toks (pcSrc ds l),scan_rend false _ (ok_src hd hl),src_run hd hl⟩
end Tx
