/-
  Over any program: the moves of a drawn region's walk with their side conditions filled by themselves. No statement of the seat is proved here.
-/
import Derived.Shelf.Lays
import Derived.Shelf.LaysM
import Derived.Shelf.Small.Strs
import Derived.Shelf.Slices.Turned
import Derived.Shelf.Strings.OnBuilder
import Derived.Shelf.Strings.Repeat
import Derived.Shelf.Strconv.Itoa0
import Derived.Shelf.Strconv.Itoa1
import Derived.Shelf.Strconv.Itoa2
import Derived.Shelf.Strconv.Itoa3
import Derived.Shelf.Strconv.Itoa4
import Derived.Lib.AppendIntMem
import Derived.Lib.SlicesS
import Derived.Test.YtgmjpnnblhkbpaaDoorProg
import Derived.Test.YtgmjpnnblhkbpaaDoorWordsM
import Derived.Test.YtgmjpnnblhkbpaaDoorTxOkM
import Derived.Deep.MidRow
import Derived.Laws.Rows
import Derived.Great.BuildSlice
import Derived.Deep.RegionHeld3
import Derived.Deep.DeepCutAuto
import Derived.StillTailTactics
import Derived.StillTail
import Derived.OrdersHeld
import Derived.KernelRfl
namespace Go.Proofs.YtgmjpnnblhkbpaaDoor
open Go Go.Shelf Go.RowKit Go.Sh
def lays137_ren : Go.Shelf.Ren:=⟨fun | 137=>40 | 217=>59 | 266=>76 | n=>n,fun | 9=>9 | 5=>5 | 3=>3 | n=>n,fun | n=>n⟩
theorem lays137 : Go.Proofs.Lays.n137 Tryd.prog lays137_ren:={
 mixed:=by kernel_rfl
 f137:=Tryd.func40.trans (congrArg some (by kernel_rfl))
 f217:=Tryd.func59.trans (congrArg some (by kernel_rfl))
 f266:=Tryd.func76.trans (congrArg some (by kernel_rfl))
 t3:=Tryd.underlying3
 a3:=Tryd.isAgg3
 z3:=Tryd.sizeOf3
 v3:=Tryd.zeroValue3
 t5:=Tryd.underlying5
 a5:=Tryd.isAgg5
 z5:=Tryd.sizeOf5
 v5:=Tryd.zeroValue5
 t9:=Tryd.underlying9
 a9:=Tryd.isAgg9
 z9:=Tryd.sizeOf9
 v9:=Tryd.zeroValue9 }
def lays110_ren : Go.Shelf.Ren:=⟨fun | 110=>53 | 109=>72 | n=>n,fun | 31=>71 | 9=>9 | 4=>4 | 3=>3 | 0=>0 | n=>n,fun | n=>n⟩
theorem lays110 : Go.Proofs.Lays.n110 Tryd.prog lays110_ren:={
 mixed:=by kernel_rfl
 f109:=Tryd.func72.trans (congrArg some (by kernel_rfl))
 f110:=Tryd.func53.trans (congrArg some (by kernel_rfl))
 t0:=Tryd.underlying0
 a0:=Tryd.isAgg0
 z0:=Tryd.sizeOf0
 v0:=Tryd.zeroValue0
 t3:=Tryd.underlying3
 a3:=Tryd.isAgg3
 z3:=Tryd.sizeOf3
 v3:=Tryd.zeroValue3
 t4:=Tryd.underlying4
 a4:=Tryd.isAgg4
 z4:=Tryd.sizeOf4
 v4:=Tryd.zeroValue4
 t9:=Tryd.underlying9
 a9:=Tryd.isAgg9
 z9:=Tryd.sizeOf9
 v9:=Tryd.zeroValue9
 t31:=Tryd.underlying71
 a31:=Tryd.isAgg71
 z31:=Tryd.sizeOf71
 v31:=Tryd.zeroValue71 }
def lays156_ren : Go.Shelf.Ren:=⟨fun | 156=>22 | 165=>46 | 166=>47 | 169=>25 | 240=>63 | 241=>64 | 276=>77 | 277=>78 | n=>n,fun | 31=>71 | 9=>9 | 3=>3 | 4=>4 | 0=>0 | 20=>20 | 72=>79 | 76=>107 | 70=>77 | 37=>75 | 75=>106 | 127=>114 | 164=>127 | 5=>5 | 80=>84 | n=>n,fun | n=>n⟩
theorem lays156 : Go.Proofs.Lays.n156 Tryd.prog lays156_ren:={
 mixed:=by kernel_rfl
 f156:=Tryd.func22.trans (congrArg some (by kernel_rfl))
 f165:=Tryd.func46.trans (congrArg some (by kernel_rfl))
 f166:=Tryd.func47.trans (congrArg some (by kernel_rfl))
 f169:=Tryd.func25.trans (congrArg some (by kernel_rfl))
 f240:=Tryd.func63.trans (congrArg some (by kernel_rfl))
 f241:=Tryd.func64.trans (congrArg some (by kernel_rfl))
 f276:=Tryd.func77.trans (congrArg some (by kernel_rfl))
 f277:=Tryd.func78.trans (congrArg some (by kernel_rfl))
 t0:=Tryd.underlying0
 a0:=Tryd.isAgg0
 z0:=Tryd.sizeOf0
 v0:=Tryd.zeroValue0
 t3:=Tryd.underlying3
 a3:=Tryd.isAgg3
 z3:=Tryd.sizeOf3
 v3:=Tryd.zeroValue3
 t4:=Tryd.underlying4
 a4:=Tryd.isAgg4
 z4:=Tryd.sizeOf4
 v4:=Tryd.zeroValue4
 t9:=Tryd.underlying9
 a9:=Tryd.isAgg9
 z9:=Tryd.sizeOf9
 v9:=Tryd.zeroValue9
 t20:=Tryd.underlying20
 a20:=Tryd.isAgg20
 z20:=Tryd.sizeOf20
 v20:=Tryd.zeroValue20
 t31:=Tryd.underlying71
 a31:=Tryd.isAgg71
 z31:=Tryd.sizeOf71
 v31:=Tryd.zeroValue71
 t37:=Tryd.underlying75
 a37:=Tryd.isAgg75
 z37:=Tryd.sizeOf75
 v37:=Tryd.zeroValue75
 t70:=Tryd.underlying77
 a70:=Tryd.isAgg77
 z70:=Tryd.sizeOf77
 v70:=Tryd.zeroValue77
 t72:=Tryd.underlying79
 a72:=Tryd.isAgg79
 z72:=Tryd.sizeOf79
 v72:=Tryd.zeroValue79
 t75:=Tryd.underlying106
 a75:=Tryd.isAgg106
 z75:=Tryd.sizeOf106
 v75:=Tryd.zeroValue106
 t76:=Tryd.underlying107
 a76:=Tryd.isAgg107
 z76:=Tryd.sizeOf107
 v76:=Tryd.zeroValue107
 t127:=Tryd.underlying114
 a127:=Tryd.isAgg114
 z127:=Tryd.sizeOf114
 v127:=Tryd.zeroValue114
 t164:=Tryd.underlying127
 a164:=Tryd.isAgg127
 z164:=Tryd.sizeOf127
 v164:=Tryd.zeroValue127 }
def lays105_ren : Go.Shelf.Ren:=⟨fun | 105=>69 | 212=>80 | 99=>81 | 165=>46 | 166=>47 | 170=>82 | 169=>25 | 263=>87 | 264=>88 | 206=>89 | 240=>63 | 241=>64 | 276=>77 | 277=>78 | n=>n,fun | 9=>9 | 3=>3 | 4=>4 | 20=>20 | 0=>0 | 46=>103 | 109=>130 | 5=>5 | 72=>79 | 76=>107 | 51=>136 | 146=>137 | 53=>139 | 148=>140 | 70=>77 | 37=>75 | 75=>106 | 127=>114 | 164=>127 | 80=>84 | n=>n,fun | n=>n⟩
theorem lays105 : Go.Proofs.Lays.n105 Tryd.prog lays105_ren:={
 mixed:=by kernel_rfl
 f99:=Tryd.func81.trans (congrArg some (by kernel_rfl))
 f105:=Tryd.func69.trans (congrArg some (by kernel_rfl))
 f165:=Tryd.func46.trans (congrArg some (by kernel_rfl))
 f166:=Tryd.func47.trans (congrArg some (by kernel_rfl))
 f169:=Tryd.func25.trans (congrArg some (by kernel_rfl))
 f170:=Tryd.func82.trans (congrArg some (by kernel_rfl))
 f206:=Tryd.func89.trans (congrArg some (by kernel_rfl))
 f212:=Tryd.func80.trans (congrArg some (by kernel_rfl))
 f240:=Tryd.func63.trans (congrArg some (by kernel_rfl))
 f241:=Tryd.func64.trans (congrArg some (by kernel_rfl))
 f263:=Tryd.func87.trans (congrArg some (by kernel_rfl))
 f264:=Tryd.func88.trans (congrArg some (by kernel_rfl))
 f276:=Tryd.func77.trans (congrArg some (by kernel_rfl))
 f277:=Tryd.func78.trans (congrArg some (by kernel_rfl))
 t0:=Tryd.underlying0
 a0:=Tryd.isAgg0
 z0:=Tryd.sizeOf0
 v0:=Tryd.zeroValue0
 t3:=Tryd.underlying3
 a3:=Tryd.isAgg3
 z3:=Tryd.sizeOf3
 v3:=Tryd.zeroValue3
 t4:=Tryd.underlying4
 a4:=Tryd.isAgg4
 z4:=Tryd.sizeOf4
 v4:=Tryd.zeroValue4
 t5:=Tryd.underlying5
 a5:=Tryd.isAgg5
 z5:=Tryd.sizeOf5
 v5:=Tryd.zeroValue5
 t9:=Tryd.underlying9
 a9:=Tryd.isAgg9
 z9:=Tryd.sizeOf9
 v9:=Tryd.zeroValue9
 t20:=Tryd.underlying20
 a20:=Tryd.isAgg20
 z20:=Tryd.sizeOf20
 v20:=Tryd.zeroValue20
 t37:=Tryd.underlying75
 a37:=Tryd.isAgg75
 z37:=Tryd.sizeOf75
 v37:=Tryd.zeroValue75
 t46:=Tryd.underlying103
 a46:=Tryd.isAgg103
 z46:=Tryd.sizeOf103
 v46:=Tryd.zeroValue103
 t51:=Tryd.underlying136
 a51:=Tryd.isAgg136
 z51:=Tryd.sizeOf136
 v51:=Tryd.zeroValue136
 t53:=Tryd.underlying139
 a53:=Tryd.isAgg139
 z53:=Tryd.sizeOf139
 v53:=Tryd.zeroValue139
 t70:=Tryd.underlying77
 a70:=Tryd.isAgg77
 z70:=Tryd.sizeOf77
 v70:=Tryd.zeroValue77
 t72:=Tryd.underlying79
 a72:=Tryd.isAgg79
 z72:=Tryd.sizeOf79
 v72:=Tryd.zeroValue79
 t75:=Tryd.underlying106
 a75:=Tryd.isAgg106
 z75:=Tryd.sizeOf106
 v75:=Tryd.zeroValue106
 t76:=Tryd.underlying107
 a76:=Tryd.isAgg107
 z76:=Tryd.sizeOf107
 v76:=Tryd.zeroValue107
 t109:=Tryd.underlying130
 a109:=Tryd.isAgg130
 z109:=Tryd.sizeOf130
 v109:=Tryd.zeroValue130
 t127:=Tryd.underlying114
 a127:=Tryd.isAgg114
 z127:=Tryd.sizeOf114
 v127:=Tryd.zeroValue114
 t146:=Tryd.underlying137
 a146:=Tryd.isAgg137
 z146:=Tryd.sizeOf137
 v146:=Tryd.zeroValue137
 t148:=Tryd.underlying140
 a148:=Tryd.isAgg140
 z148:=Tryd.sizeOf140
 v148:=Tryd.zeroValue140
 t164:=Tryd.underlying127
 a164:=Tryd.isAgg127
 z164:=Tryd.sizeOf127
 v164:=Tryd.zeroValue127 }
def laysM171_ren : Go.Shelf.Ren:=⟨fun | 171=>65 | 243=>79 | 246=>86 | 283=>90 | 284=>91 | 285=>92 | 286=>93 | 129=>95 | 317=>94 | 318=>96 | 319=>97 | 320=>98 | 337=>99 | 338=>100 | n=>n,fun | 3=>3 | 9=>9 | 2=>2 | 4=>4 | 171=>142 | 0=>0 | 53=>139 | 37=>75 | 5=>5 | 173=>145 | 212=>149 | 51=>136 | 20=>20 | 213=>150 | 46=>103 | 232=>153 | 233=>154 | n=>n,fun | 17=>1 | 18=>2 | 19=>3 | n=>n⟩
theorem laysM171 : Go.Proofs.LaysM.n171 Tryd.prog laysM171_ren:={
 mixed:=by kernel_rfl
 f129:=Tryd.func95.trans (congrArg some (by kernel_rfl))
 f171:=Tryd.func65.trans (congrArg some (by kernel_rfl))
 f243:=Tryd.func79.trans (congrArg some (by kernel_rfl))
 f246:=Tryd.func86.trans (congrArg some (by kernel_rfl))
 f283:=Tryd.func90.trans (congrArg some (by kernel_rfl))
 f284:=Tryd.func91.trans (congrArg some (by kernel_rfl))
 f285:=Tryd.func92.trans (congrArg some (by kernel_rfl))
 f286:=Tryd.func93.trans (congrArg some (by kernel_rfl))
 f317:=Tryd.func94.trans (congrArg some (by kernel_rfl))
 f318:=Tryd.func96.trans (congrArg some (by kernel_rfl))
 f319:=Tryd.func97.trans (congrArg some (by kernel_rfl))
 f320:=Tryd.func98.trans (congrArg some (by kernel_rfl))
 f337:=Tryd.func99.trans (congrArg some (by kernel_rfl))
 f338:=Tryd.func100.trans (congrArg some (by kernel_rfl))
 t0:=Tryd.underlying0
 a0:=Tryd.isAgg0
 z0:=Tryd.sizeOf0
 v0:=Tryd.zeroValue0
 t2:=Tryd.underlying2
 a2:=Tryd.isAgg2
 z2:=Tryd.sizeOf2
 v2:=Tryd.zeroValue2
 t3:=Tryd.underlying3
 a3:=Tryd.isAgg3
 z3:=Tryd.sizeOf3
 v3:=Tryd.zeroValue3
 t4:=Tryd.underlying4
 a4:=Tryd.isAgg4
 z4:=Tryd.sizeOf4
 v4:=Tryd.zeroValue4
 t5:=Tryd.underlying5
 a5:=Tryd.isAgg5
 z5:=Tryd.sizeOf5
 v5:=Tryd.zeroValue5
 t9:=Tryd.underlying9
 a9:=Tryd.isAgg9
 z9:=Tryd.sizeOf9
 v9:=Tryd.zeroValue9
 t20:=Tryd.underlying20
 a20:=Tryd.isAgg20
 z20:=Tryd.sizeOf20
 v20:=Tryd.zeroValue20
 t37:=Tryd.underlying75
 a37:=Tryd.isAgg75
 z37:=Tryd.sizeOf75
 v37:=Tryd.zeroValue75
 t46:=Tryd.underlying103
 a46:=Tryd.isAgg103
 z46:=Tryd.sizeOf103
 v46:=Tryd.zeroValue103
 t51:=Tryd.underlying136
 a51:=Tryd.isAgg136
 z51:=Tryd.sizeOf136
 v51:=Tryd.zeroValue136
 t53:=Tryd.underlying139
 a53:=Tryd.isAgg139
 z53:=Tryd.sizeOf139
 v53:=Tryd.zeroValue139
 t171:=Tryd.underlying142
 a171:=Tryd.isAgg142
 z171:=Tryd.sizeOf142
 v171:=Tryd.zeroValue142
 t173:=Tryd.underlying145
 a173:=Tryd.isAgg145
 z173:=Tryd.sizeOf145
 v173:=Tryd.zeroValue145
 t212:=Tryd.underlying149
 a212:=Tryd.isAgg149
 z212:=Tryd.sizeOf149
 v212:=Tryd.zeroValue149
 t213:=Tryd.underlying150
 a213:=Tryd.isAgg150
 z213:=Tryd.sizeOf150
 t232:=Tryd.underlying153
 a232:=Tryd.isAgg153
 z232:=Tryd.sizeOf153
 v232:=Tryd.zeroValue153
 t233:=Tryd.underlying154
 a233:=Tryd.isAgg154
 z233:=Tryd.sizeOf154
 v233:=Tryd.zeroValue154
 g17:=by kernel_rfl
 g18:=by kernel_rfl
 g19:=by kernel_rfl
 i0:=by kernel_rfl
 i2:=by kernel_rfl
 i3:=by kernel_rfl
 i4:=by kernel_rfl
 i5:=by kernel_rfl
 i9:=by kernel_rfl
 i20:=by kernel_rfl
 i37:=by kernel_rfl
 i46:=by kernel_rfl
 i51:=by kernel_rfl
 i53:=by kernel_rfl
 i171:=by kernel_rfl
 i173:=by kernel_rfl
 i212:=by kernel_rfl
 i232:=by kernel_rfl
 i233:=by kernel_rfl
 m17:=by kernel_rfl
 m18:=by kernel_rfl
 m19:=by kernel_rfl }
set_option maxRecDepth 100000 in
theorem extra156 : Builder.Extra Tryd.prog lays156_ren:={
 sizeBuilder:=by kernel_rfl
 liesBuilder:=by kernel_rfl
 t5:=Tryd.underlying5
 a5:=Tryd.isAgg5
 z5:=Tryd.sizeOf5
 v5:=Tryd.zeroValue5
 infoByte:=by kernel_rfl
 cellsByte:=by kernel_rfl
 sizeByte:=by kernel_rfl
 neB5:=by decide }
set_option maxRecDepth 100000 in
theorem extra105 : Builder.Extra Tryd.prog lays105_ren:={
 sizeBuilder:=by kernel_rfl
 liesBuilder:=by kernel_rfl
 t5:=Tryd.underlying5
 a5:=Tryd.isAgg5
 z5:=Tryd.sizeOf5
 v5:=Tryd.zeroValue5
 infoByte:=by kernel_rfl
 cellsByte:=by kernel_rfl
 sizeByte:=by kernel_rfl
 neB5:=by decide }
theorem IndexByte_any (s : ByteArray) (c : UInt8) (w : World) : Calls Tryd.prog 40 #[.string s,.int .u8 (c.toNat : Int)] w fun e w'=>e = .returned (.int .i64 (Lib.indexByte s.data.toList c)) ∧ w' = w:=by
 have h:=Any.strings_IndexByte lays137 s (c.toNat : Int) w
 rw [show ((c.toNat : Int)).toNat.toUInt8 = c by simp] at h
 exact h
theorem Repeat_any (s : ByteArray) (c : Nat) (w : World) (hc : c ≤ 9223372036854775807) (hlen : s.size * c ≤ 140737488355328) :
   Calls Tryd.prog 69 #[.string s,.int .i64 c] w fun e w'=>e = .returned (.string ⟨(Lib.repeatL s.data.toList c).toArray⟩) ∧ Below w.heap.size w w':=Any.strings_Repeat lays105 extra105 s c w hc hlen
theorem Join_any (bk o c : Nat) (xs : List ByteArray) (sep : ByteArray) (w : World)
   (hcells : ∀ (j : Nat) x,xs[j]? = some x → w.cell? ⟨bk,o + j,none⟩ = some (.string x))
   (hbk : bk < w.heap.size) (hN : xs.length ≤ 140737488355328) (hcap : xs.length ≤ c)
   (hlen : (Lib.join (xs.map (·.data.toList)) sep.data.toList).length ≤ 140737488355328) :
   Calls Tryd.prog 22 #[.slice (some ⟨bk,o,none⟩) xs.length c,.string sep] w fun e w'=>e = .returned (.string ⟨(Lib.join (xs.map (·.data.toList)) sep.data.toList).toArray⟩) ∧ Below w.heap.size w w':=Any.strings_Join lays156 extra156 bk o c xs sep w hcells hbk hN hcap hlen
theorem Join_none (a : Option Addr) (c : Nat) (sep : ByteArray) (w : World) :
   Calls Tryd.prog 22 #[.slice a 0 c,.string sep] w fun e w'=>e = .returned (.string ⟨#[]⟩) ∧ w' = w:=Any.strings_Join_none lays156 extra156 a c sep w
theorem Contains_any (b off n c : Nat) (zs : List ByteArray) (x : ByteArray) (w : World) (hz : n ≤ zs.length) (hbig : n ≤ 9223372036854775807) (hc : ∀ j,j < zs.length → w.cell? ⟨b,off + j,none⟩ = some (.string (zs.getD j ByteArray.empty))) :
   Calls Tryd.prog 53 #[.slice (some ⟨b,off,none⟩) n c,.string x] w fun e w'=>e = .returned (.bool (Lib.containsS (zs.take n) x)) ∧ w' = w:=Any.slices_Contains_string lays110 b off n c zs x w hz hbig hc
open Go.Sort in
theorem Itoa_any (n : Int) (h0 : -9223372036854775808 ≤ n) (h1 : n ≤ 9223372036854775807) (w : World) (htab : Lib.TabIs Tryd.prog w "internal/strconv.uint64pow10" .u64 Lib.pow10Tab) :
   Calls Tryd.prog 65 #[.int .i64 n] w fun e w'=>e = .returned (.string ⟨(Lib.itoa n).toArray⟩) ∧ ∃ k os,w' = grow (w.drewN k) os:=Any.strconv_Itoa laysM171 n h0 h1 w htab
end Go.Proofs.YtgmjpnnblhkbpaaDoor
namespace Go.Sh
open Go Go.RowKit
theorem wl_load_mid {P : Program} {ops : Array Oper} {rest : List Oper} {op : Oper} {a : Act} {w : World} {Q : Exit → Act → World → Prop} (hw : Region.wanted op (yielded ops a.tmps) = true) (ty : TypeId) (x : Operand) (ho : op.op = .load ty x)
   (b o : Nat) (hx : a.eval x = .pointer (some ⟨b,o,none⟩)) (cs : List Value) (d : TypeDesc) (hc : w.rangeAt b o cs)
   (hu : P.underlying ty = some d) (hd : d.isRow = true) (hi : (P.info? ty).map (·.size) = some cs.length)
   (h : wpList P ops Q rest (a.put op.dst (.agg cs.toArray)) w) : wpList P ops Q (op :: rest) a w:=
 wl_step hw fun _ hK=>wp_load_mid ty x ho b o hx cs d hc hu hd hi (hK _ _ h)
set_option maxRecDepth 100000 in
theorem wl_store_blk {P : Program} {ops : Array Oper} {rest : List Oper} {op : Oper} {a : Act} {w : World} {Q : Exit → Act → World → Prop} (hw : Region.wanted op (yielded ops a.tmps) = true) (ty : TypeId) (x y : Operand) (ho : op.op = .store ty x y)
   (b o : Nat) (cells : Array Value) (hx : a.eval x = .pointer (some ⟨b,o,none⟩)) (hy : a.eval y = .agg cells) (cs : Array Value) (t : TypeId) (hg : w.heap[b]? = some (.cells cs t (0,0))) (hfit : o + cells.size ≤ cs.size)
   (hi : (P.info? ty).map (·.size) = some cells.size) (h1 : ∀ v ∈ cells.toList,v.oneCell' = true)
   (h : wpList P ops Q rest (a.put op.dst undef) (w.setRow b (cs.toList.take o ++ cells.toList ++ cs.toList.drop (o + cells.size)).toArray)) : wpList P ops Q (op :: rest) a w:=by
 refine wl_step hw fun K hK=>?_
 have hst:=run_storeCells_at P b o t cells.toList 0 cs w hg (by simpa using hfit) h1
 have hrun : (storeVar ty ⟨b,o,none⟩ (.agg cells)).run P w = .ok () (w.setRow b (cs.toList.take o ++ cells.toList ++ cs.toList.drop (o + cells.size)).toArray):=by
   cases hq : P.info? ty with
   | none=>simp [hq] at hi
   | some i=>
     have hs : cells.size = i.size:=by simp [hq] at hi;omega
     simp only [Nat.add_zero,Array.length_toList] at hst
     simp [storeVar,sizeOf,typeInfo,hq,Value.cells,hs,hst]
 unfold Oper.wp execOp
 simp only [ho,hx,hy,Instr.storeAt,Instr.sureAddr,Sem.run_bind,Sem.run_pure,Result.andThen_ok,hrun]
 exact hK _ _ h
theorem blk_set {w : World} {p i : Nat} {cs : Array Value} {t : TypeId} {fr : Nat × Nat} (h : w.heap[p]? = some (.cells cs t fr)) (v : Value) : (w.setCell ⟨p,i,none⟩ v).heap[p]? = some (.cells (cs.setIfInBounds i v) t fr):=by
 simp [World.setCell,Array.getElem?_modify,h]
theorem blk_cell {w : World} {p i : Nat} {cs : Array Value} {t : TypeId} {fr : Nat × Nat} (h : w.heap[p]? = some (.cells cs t fr)) : w.cell? ⟨p,i,none⟩ = cs[i]?:=cell_of_row w p i cs t fr h
set_option maxRecDepth 100000 in
theorem blk_range {w : World} {p : Nat} {l : List Value} {t : TypeId} {fr : Nat × Nat} (h : w.heap[p]? = some (.cells l.toArray t fr)) : w.rangeAt p 0 l:=fun j v hv=>by
 rw [blk_cell h]
 simpa using hv
set_option maxRecDepth 100000 in
theorem alloc_setRow (w : World) (zc cells : Array Value) (t : TypeId) : (w.alloc (.cells zc t)).setRow w.heap.size cells = w.alloc (.cells cells t):=by
 unfold World.setRow World.alloc
 congr 1
 apply Array.ext
 · simp
 · intro i h1 h2
   rw [Array.getElem_modify]
   simp only [Array.getElem_push]
   by_cases h : w.heap.size = i
   · subst h;simp
   · have hlt : i < w.heap.size:=by
       have : i < w.heap.size + 1:=by simpa using h2
       omega
     rw [if_neg h,dif_pos hlt,dif_pos hlt]
set_option maxRecDepth 100000 in
theorem run_store_blk {P : Program} (w : World) (b o : Nat) (ty : TypeId) (cells cs : Array Value) (t : TypeId) (hg : w.heap[b]? = some (.cells cs t (0,0))) (hfit : o + cells.size ≤ cs.size)
   (hi : (P.info? ty).map (·.size) = some cells.size) (h1 : ∀ v ∈ cells.toList,v.oneCell' = true) :
   (Instr.storeAt ty (.pointer (some ⟨b,o,none⟩)) (.agg cells)).run P w = .ok () (w.setRow b (cs.toList.take o ++ cells.toList ++ cs.toList.drop (o + cells.size)).toArray):=by
 have hst:=run_storeCells_at P b o t cells.toList 0 cs w hg (by simpa using hfit) h1
 cases hq : P.info? ty with
 | none=>simp [hq] at hi
 | some i=>
   have hs : cells.size = i.size:=by simp [hq] at hi;omega
   simp only [Nat.add_zero,Array.length_toList] at hst
   simp [Instr.storeAt,Instr.sureAddr,storeVar,sizeOf,typeInfo,hq,Value.cells,hs,hst]
theorem run_cells_whole {P : Program} (w : World) (b : Nat) (cells cs : Array Value) (t : TypeId) (hg : w.heap[b]? = some (.cells cs t (0,0))) (hs : cells.size = cs.size) (h1 : ∀ v ∈ cells.toList,v.oneCell' = true) :
   (storeCells ⟨b,0,none⟩ cells.toList).run P w = .ok () (w.setRow b cells):=by
 have h:=run_storeCells_at P b 0 t cells.toList 0 cs w hg (by simp;omega) h1
 simp only [Nat.add_zero,Nat.zero_add] at h
 rw [List.take_zero,List.nil_append,List.drop_eq_nil_of_le (by simp;omega),List.append_nil,Array.toArray_toList] at h
 exact h
theorem run_store_new {P : Program} (w : World) (ty : TypeId) (cells zc : Array Value) (hs : cells.size = zc.size) (hi : (P.info? ty).map (·.size) = some cells.size) (h1 : ∀ v ∈ cells.toList,v.oneCell' = true) :
   (Instr.storeAt ty (.pointer (some ⟨w.heap.size,0,none⟩)) (.agg cells)).run P (w.alloc (.cells zc ty)) = .ok () (w.alloc (.cells cells ty)):=by
 have h:=run_store_blk (P:=P) (w.alloc (.cells zc ty)) w.heap.size 0 ty cells zc ty (heap_alloc_new w _) (by omega) hi h1
 rw [List.take_zero,List.nil_append,List.drop_eq_nil_of_le (by simp;omega),List.append_nil,Array.toArray_toList,alloc_setRow] at h
 exact h
theorem run_store_whole {P : Program} (w : World) (b : Nat) (ty : TypeId) (cells cs : Array Value) (t : TypeId) (hg : w.heap[b]? = some (.cells cs t (0,0))) (hs : cells.size = cs.size) (hi : (P.info? ty).map (·.size) = some cells.size) (h1 : ∀ v ∈ cells.toList,v.oneCell' = true) :
   (Instr.storeAt ty (.pointer (some ⟨b,0,none⟩)) (.agg cells)).run P w = .ok () (w.setRow b cells):=by
 have h:=run_store_blk (P:=P) w b 0 ty cells cs t hg (by omega) hi h1
 rw [List.take_zero,List.nil_append,List.drop_eq_nil_of_le (by simp;omega),List.append_nil,Array.toArray_toList] at h
 exact h
end Go.Sh
namespace Go.Sh
open Go Go.RowKit
def RR (w : World) (B size : Nat) (A : Option Addr) (n : Nat) (css : List (List Value)) : Prop:=
 css.length = n ∧ (∀ cs ∈ css,cs.length = size) ∧ (css = [] ∨ ∃ b off,A = some ⟨b,off,none⟩ ∧ b < B ∧ ∀ (i : Nat) (cs : List Value),css[i]? = some cs → w.rangeAt b (off + i * size) cs)
set_option maxRecDepth 100000 in
theorem flat_at {css : List (List Value)} {size : Nat} (h : ∀ cs ∈ css,cs.length = size) : ∀ (i : Nat) (cs : List Value),css[i]? = some cs → ∀ j v,cs[j]? = some v → css.flatten[i * size + j]? = some v:=by
 induction css with
 | nil=>intro i c hc;simp at hc
 | cons d css ih=>
   intro i c hc j v hv
   have hd:=h d (by simp)
   rw [List.flatten_cons]
   cases i with
   | zero=>
     obtain rfl : d = c:=by simpa using hc
     have hj:=(List.getElem?_eq_some_iff.1 hv).1
     rw [Nat.zero_mul,Nat.zero_add,List.getElem?_append_left hj]
     exact hv
   | succ i=>
     rw [List.getElem?_append_right (by rw [hd,Nat.add_mul];omega),hd,show (i + 1) * size + j - size = i * size + j by rw [Nat.add_mul];omega]
     exact ih (fun c hc=>h c (by simp [hc])) i c (by simpa using hc) j v hv
section
variable {w w' : World} {B B' size n : Nat} {A : Option Addr} {css : List (List Value)}
theorem RR.len (h : RR w B size A n css) : css.length = n:=h.1
theorem RR.below (h : RR w B size A n css) (hb : Below B w w') : RR w' B size A n css:=by
 obtain ⟨h1,h2,h3⟩:=h
 refine ⟨h1,h2,h3.imp id ?_⟩
 rintro ⟨b,off,e,hbB,hr⟩
 exact ⟨b,off,e,hbB,fun i cs hc j v hv=>(hb.cell (p:=⟨b,off + i * size + j,none⟩) hbB).trans (hr i cs hc j v hv)⟩
theorem RR.at_ (h : RR w B size A n css) {k : Nat} (hk : k < n) : ∃ b off cs,A = some ⟨b,off,none⟩ ∧ b < B ∧ css[k]? = some cs ∧ cs.length = size ∧ w.rangeAt b (off + k * size) cs:=by
 obtain ⟨h1,h2,h3⟩:=h
 obtain ⟨c,hc⟩ : ∃ c,css[k]? = some c:=⟨_,List.getElem?_eq_getElem (by omega)⟩
 rcases h3 with rfl | ⟨b,off,rfl,hb,hr⟩
 · simp at hc
 · exact ⟨b,off,c,rfl,hb,hc,h2 c (List.mem_of_getElem? hc),hr k c hc⟩
end
theorem fill_cons {place : Nat → Option (Nat × Nat)} {cells : Array Value} {i off size : Nat} {v : Value} {rest : List (Nat × Value)} (hp : place i = some (off,size)) (hs : v.cells.size = size) (hle : off + size ≤ cells.size) :
   Instr.fill place cells ((i,v) :: rest) = Instr.fill place (cells.toList.take off ++ v.cells.toList ++ cells.toList.drop (off + size)).toArray rest:=by
 have e : Array.foldl (fun cs (x : Value × Nat)=>cs.setIfInBounds (off + x.2) x.1) cells v.cells.zipIdx 0 v.cells.zipIdx.size = (cells.toList.take off ++ v.cells.toList ++ cells.toList.drop (off + size)).toArray:=by
   rw [← Array.foldl_toList,Array.toList_zipIdx]
   obtain ⟨h1,h2⟩:=Great.foldl_set off v.cells.toList 0 cells
   apply Array.ext_getElem?
   intro k
   rw [h2 k]
   have hl : v.cells.toList.length = size:=by rw [Array.length_toList,hs]
   have hcl : cells.toList.length = cells.size:=Array.length_toList
   have key : (cells.toList.take off ++ v.cells.toList ++ cells.toList.drop (off + size)).toArray[k]? = (cells.toList.take off ++ v.cells.toList ++ cells.toList.drop (off + size))[k]?:=List.getElem?_toArray
   rw [key]
   by_cases ha : k < off
   · rw [if_neg (by omega),List.append_assoc,List.getElem?_append_left (by rw [List.length_take];omega),List.getElem?_take,if_pos ha,Array.getElem?_toList]
   · by_cases hb : k < off + size
     · rw [if_pos (by omega),List.append_assoc,List.getElem?_append_right (by rw [List.length_take];omega),List.getElem?_append_left (by rw [List.length_take];omega),List.length_take,show min off cells.toList.length = off by omega,Nat.add_zero]
     · rw [if_neg (by omega),List.getElem?_append_right (by rw [List.length_append,List.length_take];omega),List.getElem?_drop,List.length_append,List.length_take,show off + size + (k - (min off cells.toList.length + v.cells.toList.length)) = k by omega,Array.getElem?_toList]
 rw [Instr.fill]
 simp only [hp]
 rw [if_neg (by simp [hs];omega)]
 exact congrArg (fun c=>Instr.fill place c rest) e
theorem fill_nil (place : Nat → Option (Nat × Nat)) (cells : Array Value) : Instr.fill place cells [] = some cells:=rfl
theorem fill_one {place : Nat → Option (Nat × Nat)} {cells : Array Value} {size : Nat} {v : Value} (hp : place 0 = some (0,size)) (hs : v.cells.size = size) (hc : cells.size = size) :
   Instr.fill place cells [(0,v)] = some v.cells:=by
 rw [fill_cons hp hs (by omega),fill_nil,List.take_zero,List.nil_append,List.drop_eq_nil_of_le (by rw [Array.length_toList];omega),List.append_nil,Array.toArray_toList]
theorem wl_bs1 {P : Program} {t e : TypeId} {z : Value} {size bytes : Nat} (T : STy P t e z size bytes) {ops : Array Oper} {rest : List Oper} {o : Oper} {a : Act} {w : World} {Q : Exit → Act → World → Prop} (hg : o.guard = none) (x : Operand) (ho : o.op = .buildSlice t 1 #[(0,x)])
   (cells : Array Value) (hx : a.eval x = .agg cells) (hs : cells.size = size) (hsm : size ≤ 16777216)
   (h : wpList P ops Q rest (a.put o.dst (.slice (some ⟨w.heap.size,0,none⟩) 1 1)) (w.alloc (.cells cells e))) : wpList P ops Q (o :: rest) a w:=by
 obtain ⟨i,hi,hz,hsize,hby⟩:=info_parts T.info
 have hpos:=T.pos
 refine wpList_buildSlice hg t e 1 #[(0,x)] ho cells i z T.und hi hz (by rw [hsize];omega) (by rw [hsize];omega) ?_ h
 have : (#[(0,x)].map fun (i,x)=>(i,a.eval x)).toList = [(0,Value.agg cells)]:=by simp [hx]
 rw [this]
 exact fill_one (v:=.agg cells) (size:=size) (by simp [hsize]) hs (by simp [hsize])
set_option maxRecDepth 100000 in
theorem wl_lit {P : Program} {ops : Array Oper} {rest : List Oper} {o : Oper} {a : Act} {w : World} {Q : Exit → Act → World → Prop} (hw : Region.wanted o (yielded ops a.tmps) = true) (t : TypeId) (parts : List (Nat × Operand)) (ho : o.op = .build t parts.toArray)
   (vals : List (Nat × Value)) (hv : (parts.map fun (i,x)=>(i,a.eval x)) = vals) (cells : Array Value) (hc : P.built t vals = some cells) (h : wpList P ops Q rest (a.put o.dst (.agg cells)) w) : wpList P ops Q (o :: rest) a w:=by
 refine wl_step hw fun K hK=>?_
 subst hv
 have hc' : P.built t (parts.toArray.map fun (i,x)=>(i,a.eval x)).toList = some cells:=by simpa using hc
 refine wp_build t parts.toArray ho (by rw [hc'];rfl) ?_
 rw [hc']
 exact hK _ _ h
end Go.Sh
namespace Go.Proofs.YtgmjpnnblhkbpaaDoor
open Go Go.RowKit Go.Sh Tx
open Go.Lib (hid)
def sb (l : Bs) : ByteArray:=⟨l.toArray⟩
theorem sb_list (l : Bs) : (sb l).data.toList = l:=rfl
theorem sb_size (l : Bs) : (sb l).size = l.length:=by show l.toArray.size = _;simp
set_option maxRecDepth 100000 in
theorem sb_inj {a b : Bs} (h : sb a = sb b) : a = b:=by
 have:=congrArg (fun x : ByteArray=>x.data.toList) h
 simpa [sb] using this
def bk (l : Bs) (k : Nat) : UInt8:=l.getD k 0
theorem bk_drop (l : Bs) (k : Nat) : (l.drop k).headD 0 = bk l k:=by
 unfold bk
 rw [List.headD_eq_head?_getD,List.head?_drop,List.getD_eq_getElem?_getD]
theorem index_sb (l : Bs) (k : Nat) (hk : k < l.length) (W : World) : (Instr.index 9 (.string (sb l)) (.int .i64 (k : Int))).run Tryd.prog W = .ok (.int .u8 ((bk l k).toNat : Int)) W:=by
 have h0 : (sb l).size = l.length:=sb_size l
 have h1 : bk l k = (sb l)[k]'(by rw [h0];exact hk):=by
   unfold bk
   rw [List.getD_eq_getElem?_getD,List.getElem?_eq_getElem hk,Option.getD_some]
   rfl
 rw [h1]
 simp [Instr.index,run_underlying Tryd.underlying9,asIntOf,h0,hk]
theorem slice_sb (l : Bs) (a b : Nat) (h : a ≤ b) (hb : b ≤ l.length) (W : World) : (Instr.slice 9 (.string (sb l)) (some (.int .i64 (a : Int))) (some (.int .i64 (b : Int))) none).run Tryd.prog W = .ok (.string (sb ((l.drop a).take (b - a)))) W:=by
 have h0 : (sb l).size = l.length:=sb_size l
 have h1 : (sb l).extract a b = sb ((l.drop a).take (b - a)):=by
   apply ByteArray.ext
   rw [ByteArray.data_extract]
   apply Array.ext'
   simp [sb,List.extract_eq_take_drop]
 rw [← h1]
 simp [Instr.slice,Instr.sliceBounds,Instr.sliceBound,run_underlying Tryd.underlying9,asIntOf,h0,h,hb]
set_option maxHeartbeats 1000000 in
set_option maxRecDepth 100000 in
theorem letter_any (c : UInt8) (w : World) : Calls Tryd.prog 41 #[.int .u8 (c.toNat : Int)] w fun e w'=>e = .returned (.bool (isL c)) ∧ w' = w:=by
 obtain ⟨x,hx⟩ : ∃ x,c.toNat = x:=⟨_,rfl⟩
 have HB:=hid (show isL c = (decide (97 ≤ x) && decide (x ≤ 122)) by rw [← hx];rfl)
 rw [HB.out,hx]
 clear HB hx
 by_cases h1 : 97 ≤ x
 · by_cases h2 : x ≤ 122
   · have i1 : (97 : Int) ≤ (x : Int):=by omega
     have i2 : (x : Int) ≤ 122:=by omega
     rw [decide_eq_true h1,decide_eq_true h2]
     clear h1 h2
     go_enter Tryd.func41,Tryd.ntmps41
     go_wp2_with fail
     go_ret
     exact ⟨rfl,rfl⟩
   · have i1 : (97 : Int) ≤ (x : Int):=by omega
     have i2 : ¬ (x : Int) ≤ 122:=by omega
     rw [decide_eq_true h1,decide_eq_false h2]
     clear h1 h2
     go_enter Tryd.func41,Tryd.ntmps41
     go_wp2_with fail
     go_ret
     exact ⟨rfl,rfl⟩
 · have i1 : ¬ (97 : Int) ≤ (x : Int):=by omega
   rw [decide_eq_false h1,Bool.false_and]
   clear h1
   go_enter Tryd.func41,Tryd.ntmps41
   go_wp2_with fail
   go_ret
   exact ⟨rfl,rfl⟩
set_option maxHeartbeats 1000000 in
set_option maxRecDepth 100000 in
theorem digit_any (c : UInt8) (w : World) : Calls Tryd.prog 43 #[.int .u8 (c.toNat : Int)] w fun e w'=>e = .returned (.bool (isD c)) ∧ w' = w:=by
 obtain ⟨x,hx⟩ : ∃ x,c.toNat = x:=⟨_,rfl⟩
 have HB:=hid (show isD c = (decide (48 ≤ x) && decide (x ≤ 57)) by rw [← hx];rfl)
 rw [HB.out,hx]
 clear HB hx
 by_cases h1 : 48 ≤ x
 · by_cases h2 : x ≤ 57
   · have i1 : (48 : Int) ≤ (x : Int):=by omega
     have i2 : (x : Int) ≤ 57:=by omega
     rw [decide_eq_true h1,decide_eq_true h2]
     clear h1 h2
     go_enter Tryd.func43,Tryd.ntmps43
     go_wp2_with fail
     go_ret
     exact ⟨rfl,rfl⟩
   · have i1 : (48 : Int) ≤ (x : Int):=by omega
     have i2 : ¬ (x : Int) ≤ 57:=by omega
     rw [decide_eq_true h1,decide_eq_false h2]
     clear h1 h2
     go_enter Tryd.func43,Tryd.ntmps43
     go_wp2_with fail
     go_ret
     exact ⟨rfl,rfl⟩
 · have i1 : ¬ (48 : Int) ≤ (x : Int):=by omega
   rw [decide_eq_false h1,Bool.false_and]
   clear h1
   go_enter Tryd.func43,Tryd.ntmps43
   go_wp2_with fail
   go_ret
   exact ⟨rfl,rfl⟩
def runP (b : Bool) (c : UInt8) : Bool:=isD c || (b && isL c)
theorem runP_true : runP true = isA:=by funext c;simp [runP,isA]
theorem runP_false : runP false = isD:=by funext c;simp [runP]
def runE (l : Bs) (b : Bool) (k : Nat) : Nat:=k + ((l.drop k).takeWhile (runP b)).length
theorem runE_go {l : Bs} {b : Bool} {k : Nat} (hk : k < l.length) (h : runP b (bk l k) = true) : runE l b (k + 1) = runE l b k:=by
 unfold runE
 have e : l.drop k = bk l k :: l.drop (k + 1):=by
   rw [List.drop_eq_getElem_cons hk]
   congr 1
   rw [bk,List.getD_eq_getElem?_getD,List.getElem?_eq_getElem hk];rfl
 rw [e,List.takeWhile_cons,if_pos h,List.length_cons];omega
theorem runE_stop {l : Bs} {b : Bool} {k : Nat} (hk : k < l.length) (h : runP b (bk l k) = false) : runE l b k = k:=by
 unfold runE
 have e : l.drop k = bk l k :: l.drop (k + 1):=by
   rw [List.drop_eq_getElem_cons hk]
   congr 1
   rw [bk,List.getD_eq_getElem?_getD,List.getElem?_eq_getElem hk];rfl
 rw [e,List.takeWhile_cons,if_neg (by rw [h];decide)];rfl
theorem runE_end {l : Bs} {b : Bool} {k : Nat} (hk : l.length ≤ k) : runE l b k = k:=by
 unfold runE
 rw [List.drop_eq_nil_of_le hk];rfl
set_option maxHeartbeats 2000000 in
set_option maxRecDepth 100000 in
theorem run_any (q : Nat) (l : Bs) (k : Nat) (b : Bool) (w : World) (hc : w.cell? ⟨q,0,none⟩ = some (.string (sb l))) (hk : k ≤ l.length) (hl : l.length ≤ 8000) :
   Calls Tryd.prog 60 #[.pointer (some ⟨q,0,none⟩),.int .i64 (k : Int),.bool b] w fun e w'=>e = .returned (.int .i64 ((runE l b k : Nat) : Int)) ∧ w' = w:=by
 have hsz : (sb l).size = l.length:=sb_size l
 have HIX:=hid (index_sb l)
 have HLE:=hid (fun c W=>letter_any c W)
 have HDI:=hid (fun c W=>digit_any c W)
 obtain ⟨R,hR⟩ : ∃ R,runE l b k = R:=⟨_,rfl⟩
 rw [hR]
 have HR:=hid hR
 clear hR
 generalize hS : sb l = S at *
 clear hS
 go_enter Tryd.func60,Tryd.ntmps60
 go_wp2_with fail
 go_loopw [1] (fun i wr=>∃ j : Nat,j ≤ l.length ∧ i = .int .i64 (j : Int) ∧ wr = w ∧ runE l b j = R) (fun i _=>l.length - (intOf i).toNat)
 case atStart=>exact ⟨k,hk,rfl,rfl,HR.out⟩
 case round=>
   obtain ⟨j,hj,rfl,rfl,hr⟩:=hrel
   have HRJ:=hid hr
   clear hr
   by_cases hlt : j < l.length
   · have hix:=HIX.out j hlt
     have hD:=HDI.out (bk l j) wr
     have hL:=HLE.out (bk l j) wr
     have HGO:=hid (runE_go (b:=b) hlt)
     have HST:=hid (runE_stop (b:=b) hlt)
     generalize bk l j = c at *
     have hji : (j : Int) < (l.length : Int):=by omega
     have HD:=hid hD
     have HL:=hid hL
     clear hD hL
     cases hd : isD c with
     | true=>
       rw [hd] at HD
       have HN:=hid (HGO.out (by rw [runP,hd];rfl))
       clear hd HL HST HGO
       go_wp2_with (go_at_call 43;refine HD.out.mono ?_;rintro e w' ⟨rfl,rfl⟩)
       exact ⟨⟨j + 1,by omega,by go_num,by first | rfl | trivial,by rw [HN.out];exact HRJ.out⟩,by simp [intOf];omega⟩
     | false=>
       rw [hd] at HD
       cases b with
       | false=>
         have HN:=hid (HST.out (by rw [runP,hd];rfl))
         clear hd HL HST HGO
         go_wp2_with (go_at_call 43;refine HD.out.mono ?_;rintro e w' ⟨rfl,rfl⟩)
         go_ret
         exact ⟨by rw [← HRJ.out,HN.out];rfl,rfl⟩
       | true=>
         cases hl2 : isL c with
         | true=>
           rw [hl2] at HL
           have HN:=hid (HGO.out (by rw [runP,hd,hl2];rfl))
           clear hd hl2 HST HGO
           go_wp2_with (first | (go_at_call 43;refine HD.out.mono ?_;rintro e w' ⟨rfl,rfl⟩) | (go_at_call 41;refine HL.out.mono ?_;rintro e w' ⟨rfl,rfl⟩))
           exact ⟨⟨j + 1,by omega,by go_num,by first | rfl | trivial,by rw [HN.out];exact HRJ.out⟩,by simp [intOf];omega⟩
         | false=>
           rw [hl2] at HL
           have HN:=hid (HST.out (by rw [runP,hd,hl2];rfl))
           clear hd hl2 HST HGO
           go_wp2_with (first | (go_at_call 43;refine HD.out.mono ?_;rintro e w' ⟨rfl,rfl⟩) | (go_at_call 41;refine HL.out.mono ?_;rintro e w' ⟨rfl,rfl⟩))
           go_ret
           exact ⟨by rw [← HRJ.out,HN.out];rfl,rfl⟩
   · have hji : ¬ (j : Int) < (l.length : Int):=by omega
     have HN:=hid (runE_end (l:=l) (b:=b) (k:=j) (by omega))
     go_wp2_with fail
     go_ret
     exact ⟨by rw [← HRJ.out,HN.out];rfl,rfl⟩
end Go.Proofs.YtgmjpnnblhkbpaaDoor
namespace Go.Sh
open Go Go.RowKit
section
variable {P : Program} {ops : Array Oper} {Q : Exit → Act → World → Prop} {md : Region.Mode} {S : World → Prop}
def wpAnyU (P : Program) (md : Region.Mode) (ops : Array Oper) (Q : Exit → Act → World → Prop) (S : World → Prop) (c : Nat) : Nat → Array Bool → Act → World → Prop
 | 0,listed,a,w=>Region.ready md ops listed = [] ∧ Q .normal a w
 | fuel + 1,listed,a,w=>
   (Region.ready md ops listed = [] → Q .normal a w) ∧
   ∀ i ∈ Region.ready md ops listed,wpOp P ops Q i (fun a' w'=>if i = c then wpAny P md ops Q fuel (listed.setIfInBounds i true) a' w' else S w' ∧ wpAnyU P md ops Q S c fuel (listed.setIfInBounds i true) a' w') a w
theorem wpAny_of_until {c : Nat} : ∀ (fuel : Nat) (listed : Array Bool) (a : Act) (w : World),wpAnyU P md ops Q S c fuel listed a w → wpAny P md ops Q fuel listed a w
 | 0,_,_,_,h=>h
 | fuel + 1,_,_,_,h=>⟨h.1,fun i hi=>wpOp_mono (fun a' w' h'=>by
     by_cases hic : i = c
     · rw [if_pos hic] at h';exact h'
     · rw [if_neg hic] at h';exact wpAny_of_until fuel _ a' w' h'.2) (h.2 i hi)⟩
theorem free_next {i j : Nat} {oi : Oper} {listed : Array Bool} (hjun : listed.getD j true = false)
   (hfree : ∀ j oj,ops[j]? = some oj → j ≠ i → listed.getD j true = false → (∀ e ∈ oj.after,Region.binds md e = true → e.on ≠ i) → oi.apart ops oj = true) :
   ∀ k ok,ops[k]? = some ok → k ≠ i → (listed.setIfInBounds j true).getD k true = false → (∀ e ∈ ok.after,Region.binds md e = true → e.on ≠ i) → oi.apart ops ok = true:=fun k ok hk hki hun hno=>by
 refine hfree k ok hk hki ?_ hno
 by_cases hjk : j = k
 · subst hjk;exact hjun
 · rw [getD_set_ne true hjk] at hun;exact hun
theorem waits_not {i : Nat} {oj : Oper} {listed : Array Bool} (hr : i ∈ Region.ready md ops listed) (hall : ∀ e ∈ oj.after,Region.binds md e = true → listed.getD e.on false = true) :
   ∀ e ∈ oj.after,Region.binds md e = true → e.on ≠ i:=fun e he hb heq=>by
 have h1:=hall e he hb
 have h0:=(mem_ready.1 hr).1
 rw [heq] at h1
 rcases Nat.lt_or_ge i listed.size with h' | h'
 · simp [h'] at h0 h1;rw [h0] at h1;cases h1
 · simp [Array.getElem?_eq_none h'] at h1
theorem wpAnyU_firstW {c i : Nat} {oi : Oper} {v : Value} (hi : ops[i]? = some oi) (hsel : ∀ (j : Nat) (o : Oper) cs b,ops[j]? = some o → o.op ≠ .select cs b)
   (hQ : ∀ c a w,Q (.panic c) (a.put oi.dst v) w → Q (.panic c) a w) (hci : c ≠ i) (hw : Region.waitsFor md ops c i = true) :
   ∀ (fuel : Nat) (listed : Array Bool) (a : Act) (w : World),
     (∀ j oj,ops[j]? = some oj → j ≠ i → listed.getD j true = false → (∀ e ∈ oj.after,Region.binds md e = true → e.on ≠ i) → oi.apart ops oj = true) →
     i ∈ Region.ready md ops listed → YieldsIf P ops S oi v a → S w →
     wpAnyU P md ops Q S c fuel (listed.setIfInBounds i true) (a.put oi.dst v) w → wpAnyU P md ops Q S c (fuel + 1) listed a w:=by
 intro fuel
 induction fuel with
 | zero=>
   intro listed a w _ hr hy hS H
   refine ⟨fun h=>(by rw [h] at hr;cases hr),fun j hj=>?_⟩
   by_cases hji : j = i
   · subst hji;exact hy.wpOp hi hS (by rw [if_neg (Ne.symm hci)];exact ⟨hS,H⟩)
   · have:=ready_mono hj hji
     rw [H.1] at this
     cases this
 | succ fuel ih=>
   intro listed a w hfree hr hy hS H
   refine ⟨fun h=>(by rw [h] at hr;cases hr),fun j hj=>?_⟩
   by_cases hji : j = i
   · subst hji;exact hy.wpOp hi hS (by rw [if_neg (Ne.symm hci)];exact ⟨hS,H⟩)
   · have h1:=H.2 j (ready_mono hj hji)
     obtain ⟨hjun,oj,hoj,hall⟩:=mem_ready.1 hj
     have hnot:=waits_not hr hall
     have hjc : j ≠ c:=by
       rintro rfl
       obtain ⟨oc,hoc,e,he,hb,heq⟩:=Region.waitsFor_spec hw
       obtain rfl:=Option.some.inj (hoj.symm.trans hoc)
       exact hnot e he hb heq
     simp only [if_neg hjc] at h1 ⊢
     have h2:=wpOp_putIf hoj (hfree j oj hoj hji hjun hnot) (fun cs b=>hsel i oi cs b hi) (fun cs b=>hsel j oj cs b hoj) hQ hy h1
     refine wpOp_mono (fun a' w' h3=>⟨h3.2.1,ih (listed.setIfInBounds j true) a' w' (free_next hjun hfree) (ready_mono hr (Ne.symm hji)) h3.1 h3.2.1 ?_⟩) h2
     rw [Array.setIfInBounds_comm _ _ hji]
     exact h3.2.2
theorem wpAnyU_firstY {c i : Nat} {oi : Oper} {v : Value} (hi : ops[i]? = some oi) (hsel : ∀ (j : Nat) (o : Oper) cs b,ops[j]? = some o → o.op ≠ .select cs b)
   (hQ : ∀ c a w,Q (.panic c) (a.put oi.dst v) w → Q (.panic c) a w) (hci : c ≠ i) :
   ∀ (fuel : Nat) (listed : Array Bool) (a : Act) (w : World),
     (∀ j oj,ops[j]? = some oj → j ≠ i → listed.getD j true = false → (∀ e ∈ oj.after,Region.binds md e = true → e.on ≠ i) → oi.apart ops oj = true) →
     i ∈ Region.ready md ops listed → Yields P ops oi v a → S w →
     wpAnyU P md ops Q S c fuel (listed.setIfInBounds i true) (a.put oi.dst v) w → wpAnyU P md ops Q S c (fuel + 1) listed a w:=by
 intro fuel
 induction fuel with
 | zero=>
   intro listed a w _ hr hy hS H
   refine ⟨fun h=>(by rw [h] at hr;cases hr),fun j hj=>?_⟩
   by_cases hji : j = i
   · subst hji;exact hy.wpOp hi (by rw [if_neg (Ne.symm hci)];exact ⟨hS,H⟩)
   · have:=ready_mono hj hji
     rw [H.1] at this
     cases this
 | succ fuel ih=>
   intro listed a w hfree hr hy hS H
   refine ⟨fun h=>(by rw [h] at hr;cases hr),fun j hj=>?_⟩
   by_cases hji : j = i
   · subst hji;exact hy.wpOp hi (by rw [if_neg (Ne.symm hci)];exact ⟨hS,H⟩)
   · have h1:=H.2 j (ready_mono hj hji)
     obtain ⟨hjun,oj,hoj,hall⟩:=mem_ready.1 hj
     have hnot:=waits_not hr hall
     have h2:=wpOp_put hoj (hfree j oj hoj hji hjun hnot) (fun cs b=>hsel i oi cs b hi) (fun cs b=>hsel j oj cs b hoj) hQ hy h1
     by_cases hjc : j = c
     · simp only [if_pos hjc] at h2 ⊢
       refine wpOp_mono (fun a' w' h3=>wpAny_first hi hsel hQ fuel (listed.setIfInBounds j true) a' w' (free_next hjun hfree) (ready_mono hr (Ne.symm hji)) h3.1 ?_) h2
       rw [Array.setIfInBounds_comm _ _ hji]
       exact h3.2
     · simp only [if_neg hjc] at h2 ⊢
       refine wpOp_mono (fun a' w' h3=>⟨h3.2.1,ih (listed.setIfInBounds j true) a' w' (free_next hjun hfree) (ready_mono hr (Ne.symm hji)) h3.1 h3.2.1 ?_⟩) h2
       rw [Array.setIfInBounds_comm _ _ hji]
       exact h3.2.2
set_option maxRecDepth 100000 in
theorem wpAnyU_takeW {c i : Nat} {oi : Oper} {v : Value} {fuel : Nat} {listed : Array Bool} {a : Act} {w : World} (hi : ops[i]? = some oi) (hc : (c != i && Region.waitsFor md ops c i && Region.noSelect ops && Region.free md ops listed i && (Region.ready md ops listed).contains i) = true)
   (hQ : ∀ c a w,Q (.panic c) (a.put oi.dst v) w → Q (.panic c) a w) (hy : YieldsIf P ops S oi v a) (hS : S w)
   (h : wpAnyU P md ops Q S c fuel (listed.setIfInBounds i true) (a.put oi.dst v) w) : wpAnyU P md ops Q S c (fuel + 1) listed a w:=by
 simp only [Bool.and_eq_true,bne_iff_ne] at hc
 obtain ⟨⟨⟨⟨h1,h2⟩,h3⟩,h4⟩,h5⟩:=hc
 exact wpAnyU_firstW hi (Region.noSelect_spec h3) hQ h1 h2 fuel listed a w (Region.free_spec hi h4) (by simpa using h5) hy hS h
set_option maxRecDepth 100000 in
theorem wpAnyU_takeY {c i : Nat} {oi : Oper} {v : Value} {fuel : Nat} {listed : Array Bool} {a : Act} {w : World} (hi : ops[i]? = some oi) (hc : (c != i && Region.noSelect ops && Region.free md ops listed i && (Region.ready md ops listed).contains i) = true)
   (hQ : ∀ c a w,Q (.panic c) (a.put oi.dst v) w → Q (.panic c) a w) (hy : Yields P ops oi v a) (hS : S w)
   (h : wpAnyU P md ops Q S c fuel (listed.setIfInBounds i true) (a.put oi.dst v) w) : wpAnyU P md ops Q S c (fuel + 1) listed a w:=by
 simp only [Bool.and_eq_true,bne_iff_ne] at hc
 obtain ⟨⟨⟨h1,h3⟩,h4⟩,h5⟩:=hc
 exact wpAnyU_firstY hi (Region.noSelect_spec h3) hQ h1 fuel listed a w (Region.free_spec hi h4) (by simpa using h5) hy hS h
theorem wpAnyU_at {c : Nat} {o : Oper} {fuel : Nat} {listed : Array Bool} {a : Act} {w : World} (ho : ops[c]? = some o) (hr : Region.ready md ops listed = [c]) (hw : Region.wanted o (yielded ops a.tmps) = true)
   (h : ∀ K : Act → World → Prop,(∀ a' w',wpAny P md ops Q fuel (listed.setIfInBounds c true) a' w' → K a' w') → o.wp P a w K Q) : wpAnyU P md ops Q S c (fuel + 1) listed a w:=by
 refine ⟨fun h0=>(by rw [hr] at h0;cases h0),fun i hi=>?_⟩
 rw [hr] at hi
 obtain rfl:=List.mem_singleton.1 hi
 simp only [if_true]
 unfold wpOp
 simp only [ho,hw,if_true]
 exact .inl (h _ fun _ _ h=>h)
theorem wp_region_until {id : Nat} {a : Act} {w : World} (c : Nat) (hm : P.follows .mixedOrders = true) (hS : S w.drew)
   (h : S w.drew → wpAnyU P .any ops Q S c ops.size (Array.replicate ops.size false) a w.drew) : (Code.region id ops true).wp P Q a w:=
 wp_region_any hm (wpAny_of_until _ _ _ _ (h hS))
end
end Go.Sh
namespace Go.Sh
open Go Go.RowKit
section
variable {P : Program} {ops : Array Oper} {Q : Exit → Act → World → Prop} {md : Region.Mode} {S : World → Prop}
set_option maxRecDepth 100000 in
theorem tkH (i : Nat) {oi : Oper} {v : Value} {fuel : Nat} {listed l' : Array Bool} {a a' : Act} {w : World} (hi : ops[i]? = some oi:=by rfl)
   (hs : Region.noSelect ops = true:=by kernel_rfl) (hf : Region.free md ops listed i = true:=by kernel_rfl) (hr : (Region.ready md ops listed).contains i = true:=by kernel_rfl)
   (hQ : ∀ c a w,Q (.panic c) (a.put oi.dst v) w → Q (.panic c) a w:=by exact fun _ _ _ h=>h) (hw : Region.wanted oi (yielded ops a.tmps) = true:=by rfl)
   (hy : ∀ w,S w → (execOp a.eval oi).run P w = .ok (.value v) w:=by intro w hSw;(try dsimp only at hSw);first | (go_simp;done) | (go_simp;with_reducible rfl)) (hS : S w:=by assumption)
   (hl : listed.setIfInBounds i true = l':=by (try simp only [List.setIfInBounds_toArray,List.set_cons_zero,List.set_cons_succ]);with_reducible rfl)
   (ha : a.put oi.dst v = a':=by (try simp only [List.getElem_toArray,List.getElem_cons_zero,List.getElem_cons_succ,Act.put,List.setIfInBounds_toArray,List.set_cons_zero,List.set_cons_succ]);with_reducible rfl)
   (h : wpAnyH P md ops Q S fuel l' a' w) : wpAnyH P md ops Q S (fuel + 1) listed a w:=by
 subst hl ha
 exact wpAnyH_take hi hs hf hr hQ (.inl ⟨hw,hy⟩) hS h
set_option maxRecDepth 100000 in
theorem tkN (i : Nat) {oi : Oper} {fuel : Nat} {listed l' : Array Bool} {a a' : Act} {w : World} (hi : ops[i]? = some oi:=by rfl)
   (hs : Region.noSelect ops = true:=by kernel_rfl) (hf : Region.free md ops listed i = true:=by kernel_rfl) (hr : (Region.ready md ops listed).contains i = true:=by kernel_rfl)
   (hQ : ∀ c a w,Q (.panic c) (a.put oi.dst undef) w → Q (.panic c) a w:=by exact fun _ _ _ h=>h) (hw : Region.wanted oi (yielded ops a.tmps) = false:=by rfl) (hS : S w:=by assumption)
   (hl : listed.setIfInBounds i true = l':=by (try simp only [List.setIfInBounds_toArray,List.set_cons_zero,List.set_cons_succ]);with_reducible rfl)
   (ha : a.put oi.dst undef = a':=by (try simp only [List.getElem_toArray,List.getElem_cons_zero,List.getElem_cons_succ,Act.put,List.setIfInBounds_toArray,List.set_cons_zero,List.set_cons_succ]);with_reducible rfl)
   (h : wpAnyH P md ops Q S fuel l' a' w) : wpAnyH P md ops Q S (fuel + 1) listed a w:=by
 subst hl ha
 exact wpAnyH_take hi hs hf hr hQ (.inr ⟨hw,rfl⟩) hS h
set_option maxRecDepth 100000 in
theorem tkY {c : Nat} (i : Nat) {oi : Oper} {v : Value} {fuel : Nat} {listed l' : Array Bool} {a a' : Act} {w : World} (hi : ops[i]? = some oi:=by rfl)
   (hc : (c != i && Region.noSelect ops && Region.free md ops listed i && (Region.ready md ops listed).contains i) = true:=by kernel_rfl)
   (hQ : ∀ c a w,Q (.panic c) (a.put oi.dst v) w → Q (.panic c) a w:=by exact fun _ _ _ h=>h) (hw : Region.wanted oi (yielded ops a.tmps) = true:=by rfl)
   (hy : ∀ w,(execOp a.eval oi).run P w = .ok (.value v) w:=by intro w;first | (go_simp;done) | (go_simp;with_reducible rfl)) (hS : S w:=by assumption)
   (hl : listed.setIfInBounds i true = l':=by (try simp only [List.setIfInBounds_toArray,List.set_cons_zero,List.set_cons_succ]);with_reducible rfl)
   (ha : a.put oi.dst v = a':=by (try simp only [List.getElem_toArray,List.getElem_cons_zero,List.getElem_cons_succ,Act.put,List.setIfInBounds_toArray,List.set_cons_zero,List.set_cons_succ]);with_reducible rfl)
   (h : wpAnyU P md ops Q S c fuel l' a' w) : wpAnyU P md ops Q S c (fuel + 1) listed a w:=by
 subst hl ha
 exact wpAnyU_takeY hi hc hQ (.inl ⟨hw,hy⟩) hS h
set_option maxRecDepth 100000 in
theorem tkW {c : Nat} (i : Nat) {oi : Oper} {v : Value} {fuel : Nat} {listed l' : Array Bool} {a a' : Act} {w : World} (hi : ops[i]? = some oi:=by rfl)
   (hc : (c != i && Region.waitsFor md ops c i && Region.noSelect ops && Region.free md ops listed i && (Region.ready md ops listed).contains i) = true:=by kernel_rfl)
   (hQ : ∀ c a w,Q (.panic c) (a.put oi.dst v) w → Q (.panic c) a w:=by exact fun _ _ _ h=>h) (hw : Region.wanted oi (yielded ops a.tmps) = true:=by rfl)
   (hy : ∀ w,S w → (execOp a.eval oi).run P w = .ok (.value v) w:=by intro w hSw;(try dsimp only at hSw);first | (go_simp;done) | (go_simp;with_reducible rfl)) (hS : S w:=by assumption)
   (hl : listed.setIfInBounds i true = l':=by (try simp only [List.setIfInBounds_toArray,List.set_cons_zero,List.set_cons_succ]);with_reducible rfl)
   (ha : a.put oi.dst v = a':=by (try simp only [List.getElem_toArray,List.getElem_cons_zero,List.getElem_cons_succ,Act.put,List.setIfInBounds_toArray,List.set_cons_zero,List.set_cons_succ]);with_reducible rfl)
   (h : wpAnyU P md ops Q S c fuel l' a' w) : wpAnyU P md ops Q S c (fuel + 1) listed a w:=by
 subst hl ha
 exact wpAnyU_takeW hi hc hQ (.inl ⟨hw,hy⟩) hS h
end
abbrev zS : Array Value:=#[.string ⟨#[]⟩,.int .i64 0,.string ⟨#[]⟩,.int .i64 0,.string ⟨#[]⟩,.int .i64 0,.string ⟨#[]⟩,.int .i64 0,.slice none 0 0,.string ⟨#[]⟩,.int .i64 0,.string ⟨#[]⟩,.int .i64 0,.slice none 0 0,.string ⟨#[]⟩,.int .i64 0,.string ⟨#[]⟩,.int .i64 0,.slice none 0 0,.slice none 0 0,.string ⟨#[]⟩,.int .i64 0,.string ⟨#[]⟩,.int .i64 0,.slice none 0 0,.slice none 0 0]
abbrev kS : Array Value:=#[.string ⟨#[115,101,110,100]⟩,.string ⟨#[115,112,108,105,116]⟩,.string ⟨#[99,111,118,101,114]⟩,.string ⟨#[119,97,105,116]⟩,.string ⟨#[98,108,111,99,107]⟩,.string ⟨#[97,102,116,101,114]⟩,.string ⟨#[114,101,112,101,97,116]⟩,.string ⟨#[114,101,116,114,121]⟩,.string ⟨#[101,118,101,114,121]⟩,.string ⟨#[105,102]⟩]
end Go.Sh
