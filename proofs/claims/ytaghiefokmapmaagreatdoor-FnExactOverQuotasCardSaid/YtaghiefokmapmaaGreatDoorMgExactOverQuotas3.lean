/- Written by merge.py: Shelf, Mx, Wo, Qt, Nu, Ap2, Ne, Ve, Rp, Dm, STag, Vt, Heap2, Dr2, Dr3, Av, R3, Ss, Fb, Ht, Rh. -/
import Derived.Shelf.Strings.Builder1
import Derived.Shelf.Strings.Builder2
import Derived.Shelf.Strings.OnBuilder
import Derived.Shelf.Small.Wraps
import Derived.Shelf.Strings.BuilderF
import Derived.Shelf.Strings.BuilderK
import Derived.Shelf.Utf8.RuneCount
import Derived.Shelf.Strings.Builder2Cap
import Derived.Shelf.Strings.Search1
import Derived.Shelf.Strings.Search2
import Derived.Shelf.Strings.Search3
import Derived.Shelf.Strings.Cut
import Derived.Shelf.Strings.Count
import Derived.Shelf.LaysM
import Derived.Shelf.Strings.Shaped
import Derived.Shelf.Strings.Prefix
import Derived.Shelf.Strings.Split
import Derived.Shelf.Strings.SplitShaped
import Derived.Shelf.Unicode.Decode
import Derived.Shelf.Strings.RuneCount
import Derived.Shelf.Strings.Explode
import Derived.Shelf.Unicode.DecodeSlow
import Derived.Shelf.Unicode.DecodeAny
import Derived.Shelf.Strings.BuilderCap
import Derived.Test.YtaghiefokmapmaaGreatDoorProg
import Derived.Laws.AppendOwnNone
import Derived.Laws.StructEq
import Derived.RegionTactic
import Derived.Deep.RegionLaw
import Derived.Deep.RegionHeld3
import Derived.Test.YtaghiefokmapmaaGreatDoorMgExactOverQuotas2
/- The library's contracts at this dump, in plain words: written by the kit's tools lay-shelf, lay-plain; kept: strings_Cut, strings_CutPrefix, strings_SplitN, strings_Join, strings_Join_none, strings_Join_one, strings_Split and what they lean on. -/
set_option linter.unusedVariables false
namespace Go.Proofs
open Go.Shelf
def Tryz.lays156_ren : Go.Shelf.Ren := ⟨fun | 156 => 157 | 165 => 193 | 166 => 194 | 169 => 195 | 240 => 219 | 241 => 220 | 276 => 239 | 277 => 240 | n => n, fun | 31 => 26 | 9 => 9 | 3 => 3 | 4 => 4 | 0 => 0 | 20 => 20 | 72 => 180 | 76 => 184 | 70 => 178 | 37 => 56 | 75 => 183 | 127 => 208 | 164 => 218 | 5 => 5 | 80 => 186 | n => n, fun | n => n⟩
theorem Tryz.lays156 : Go.Proofs.Lays.n156 Tryz.prog Tryz.lays156_ren := {
  mixed := by kernel_rfl
  f156 := Tryz.func157.trans (congrArg some (by kernel_rfl))
  f165 := Tryz.func193.trans (congrArg some (by kernel_rfl))
  f166 := Tryz.func194.trans (congrArg some (by kernel_rfl))
  f169 := Tryz.func195.trans (congrArg some (by kernel_rfl))
  f240 := Tryz.func219.trans (congrArg some (by kernel_rfl))
  f241 := Tryz.func220.trans (congrArg some (by kernel_rfl))
  f276 := Tryz.func239.trans (congrArg some (by kernel_rfl))
  f277 := Tryz.func240.trans (congrArg some (by kernel_rfl))
  t0 := Tryz.underlying0
  a0 := Tryz.isAgg0
  z0 := Tryz.sizeOf0
  v0 := Tryz.zeroValue0
  t3 := Tryz.underlying3
  a3 := Tryz.isAgg3
  z3 := Tryz.sizeOf3
  v3 := Tryz.zeroValue3
  t4 := Tryz.underlying4
  a4 := Tryz.isAgg4
  z4 := Tryz.sizeOf4
  v4 := Tryz.zeroValue4
  t9 := Tryz.underlying9
  a9 := Tryz.isAgg9
  z9 := Tryz.sizeOf9
  v9 := Tryz.zeroValue9
  t20 := Tryz.underlying20
  a20 := Tryz.isAgg20
  z20 := Tryz.sizeOf20
  v20 := Tryz.zeroValue20
  t31 := Tryz.underlying26
  a31 := Tryz.isAgg26
  z31 := Tryz.sizeOf26
  v31 := Tryz.zeroValue26
  t37 := Tryz.underlying56
  a37 := Tryz.isAgg56
  z37 := Tryz.sizeOf56
  v37 := Tryz.zeroValue56
  t70 := Tryz.underlying178
  a70 := Tryz.isAgg178
  z70 := Tryz.sizeOf178
  v70 := Tryz.zeroValue178
  t72 := Tryz.underlying180
  a72 := Tryz.isAgg180
  z72 := Tryz.sizeOf180
  v72 := Tryz.zeroValue180
  t75 := Tryz.underlying183
  a75 := Tryz.isAgg183
  z75 := Tryz.sizeOf183
  v75 := Tryz.zeroValue183
  t76 := Tryz.underlying184
  a76 := Tryz.isAgg184
  z76 := Tryz.sizeOf184
  v76 := Tryz.zeroValue184
  t127 := Tryz.underlying208
  a127 := Tryz.isAgg208
  z127 := Tryz.sizeOf208
  v127 := Tryz.zeroValue208
  t164 := Tryz.underlying218
  a164 := Tryz.isAgg218
  z164 := Tryz.sizeOf218
  v164 := Tryz.zeroValue218 }
theorem Tryz.Builder_Extra_156 : Builder.Extra Tryz.prog Tryz.lays156_ren := {
  sizeBuilder := by kernel_rfl
  liesBuilder := by kernel_rfl
  t5 := Tryz.underlying5
  a5 := Tryz.isAgg5
  z5 := Tryz.sizeOf5
  v5 := Tryz.zeroValue5
  infoByte := by kernel_rfl
  cellsByte := by kernel_rfl
  sizeByte := by kernel_rfl
  neB5 := by decide }
open Go.RowKit in
theorem Tryz.strings_Join_none (a : Option Addr) (c : Nat) (sep : ByteArray) (w : World) :
    Calls Tryz.prog 157 #[.slice a 0 c, .string sep] w fun e w' => e = .returned (.string ⟨#[]⟩) ∧ w' = w := Any.strings_Join_none Tryz.lays156 Tryz.Builder_Extra_156 a c sep w
open Go.RowKit in
theorem Tryz.strings_Join (bk o c : Nat) (xs : List ByteArray) (sep : ByteArray) (w : World) (hcells : ∀ (j : Nat) x, xs[j]? = some x → w.cell? ⟨bk, o + j, none⟩ = some (.string x)) (hbk : bk < w.heap.size) (hN : xs.length ≤ 140737488355328) (hcap : xs.length ≤ c) (hlen : (Lib.join (xs.map (·.data.toList)) sep.data.toList).length ≤ 140737488355328) :
    Calls Tryz.prog 157 #[.slice (some ⟨bk, o, none⟩) xs.length c, .string sep] w fun e w' => e = .returned (.string ⟨(Lib.join (xs.map (·.data.toList)) sep.data.toList).toArray⟩) ∧ Below w.heap.size w w' := Any.strings_Join Tryz.lays156 Tryz.Builder_Extra_156 bk o c xs sep w hcells hbk hN hcap hlen
def Tryz.lays103_ren : Go.Shelf.Ren := ⟨fun | 103 => 170 | 210 => 201 | 206 => 223 | n => n, fun | 9 => 9 | 4 => 4 | 24 => 68 | 3 => 3 | n => n, fun | n => n⟩
theorem Tryz.lays103 : Go.Proofs.Lays.n103 Tryz.prog Tryz.lays103_ren := {
  mixed := by kernel_rfl
  f103 := Tryz.func170.trans (congrArg some (by kernel_rfl))
  f206 := Tryz.func223.trans (congrArg some (by kernel_rfl))
  f210 := Tryz.func201.trans (congrArg some (by kernel_rfl))
  t3 := Tryz.underlying3
  a3 := Tryz.isAgg3
  z3 := Tryz.sizeOf3
  v3 := Tryz.zeroValue3
  t4 := Tryz.underlying4
  a4 := Tryz.isAgg4
  z4 := Tryz.sizeOf4
  v4 := Tryz.zeroValue4
  t9 := Tryz.underlying9
  a9 := Tryz.isAgg9
  z9 := Tryz.sizeOf9
  v9 := Tryz.zeroValue9
  t24 := Tryz.underlying68
  a24 := Tryz.isAgg68
  z24 := Tryz.sizeOf68
  v24 := Tryz.zeroValue68 }
open Go.RowKit in
theorem Tryz.strings_CutPrefix (s p : ByteArray) (w : World) :
    Calls Tryz.prog 170 #[.string s, .string p] w fun e w' => e = .returned (.tuple #[.string ⟨(Lib.trimPrefix s.data.toList p.data.toList).toArray⟩, .bool (Lib.hasPrefix s.data.toList p.data.toList)]) ∧ w' = w := Any.strings_CutPrefix Tryz.lays103 s p w
def Tryz.lays145_ren : Go.Shelf.Ren := ⟨fun | 145 => 198 | 220 => 222 | 219 => 215 | 217 => 234 | 225 => 235 | 224 => 236 | 267 => 237 | 266 => 245 | 314 => 246 | n => n, fun | 9 => 9 | 4 => 4 | 59 => 188 | 3 => 3 | 5 => 5 | 46 => 210 | 146 => 227 | 51 => 215 | n => n, fun | 1 => 1 | n => n⟩
theorem Tryz.lays145 : Go.Proofs.Lays.n145 Tryz.prog Tryz.lays145_ren := {
  mixed := by kernel_rfl
  f145 := Tryz.func198.trans (congrArg some (by kernel_rfl))
  f217 := Tryz.func234.trans (congrArg some (by kernel_rfl))
  f219 := Tryz.func215.trans (congrArg some (by kernel_rfl))
  f220 := Tryz.func222.trans (congrArg some (by kernel_rfl))
  f224 := Tryz.func236.trans (congrArg some (by kernel_rfl))
  f225 := Tryz.func235.trans (congrArg some (by kernel_rfl))
  f266 := Tryz.func245.trans (congrArg some (by kernel_rfl))
  f267 := Tryz.func237.trans (congrArg some (by kernel_rfl))
  f314 := Tryz.func246.trans (congrArg some (by kernel_rfl))
  t3 := Tryz.underlying3
  a3 := Tryz.isAgg3
  z3 := Tryz.sizeOf3
  v3 := Tryz.zeroValue3
  t4 := Tryz.underlying4
  a4 := Tryz.isAgg4
  z4 := Tryz.sizeOf4
  v4 := Tryz.zeroValue4
  t5 := Tryz.underlying5
  a5 := Tryz.isAgg5
  z5 := Tryz.sizeOf5
  v5 := Tryz.zeroValue5
  t9 := Tryz.underlying9
  a9 := Tryz.isAgg9
  z9 := Tryz.sizeOf9
  v9 := Tryz.zeroValue9
  t46 := Tryz.underlying210
  a46 := Tryz.isAgg210
  z46 := Tryz.sizeOf210
  v46 := Tryz.zeroValue210
  t51 := Tryz.underlying215
  a51 := Tryz.isAgg215
  z51 := Tryz.sizeOf215
  v51 := Tryz.zeroValue215
  t59 := Tryz.underlying188
  a59 := Tryz.isAgg188
  z59 := Tryz.sizeOf188
  v59 := Tryz.zeroValue188
  t146 := Tryz.underlying227
  a146 := Tryz.isAgg227
  z146 := Tryz.sizeOf227
  v146 := Tryz.zeroValue227
  g1 := by kernel_rfl }
open Go.RowKit Go.Lib in
theorem Tryz.strings_Cut (s sep : ByteArray) (m : Int) (w : World) (hs : s.size < 4294967281) (hm : w.cell? ⟨1, 0, none⟩ = some (.int .i64 m)) :
    Calls Tryz.prog 198 #[.string s, .string sep] w fun e w' => e = .returned (.tuple #[.string ⟨(Lib.cut s.data.toList sep.data.toList).1.toArray⟩, .string ⟨(Lib.cut s.data.toList sep.data.toList).2.1.toArray⟩, .bool (Lib.cut s.data.toList sep.data.toList).2.2]) ∧ ∃ n, w' = w.drewN n := Any.strings_Cut Tryz.lays145 s sep m w hs hm
def Tryz.lays146_ren : Go.Shelf.Ren := ⟨fun | 146 => 174 | 221 => 152 | 268 => 186 | 138 => 187 | 143 => 188 | 195 => 212 | 197 => 213 | 218 => 214 | 219 => 215 | 260 => 233 | 217 => 234 | 225 => 235 | 224 => 236 | 267 => 237 | 266 => 245 | 314 => 246 | n => n, fun | 9 => 9 | 31 => 26 | 3 => 3 | 4 => 4 | 0 => 0 | 105 => 203 | 21 => 21 | 5 => 5 | 46 => 210 | 119 => 223 | 139 => 226 | 138 => 225 | 146 => 227 | 51 => 215 | n => n, fun | 1 => 1 | 3 => 2 | 4 => 3 | n => n⟩
theorem Tryz.lays146 : Go.Proofs.Lays.n146 Tryz.prog Tryz.lays146_ren := {
  mixed := by kernel_rfl
  f138 := Tryz.func187.trans (congrArg some (by kernel_rfl))
  f143 := Tryz.func188.trans (congrArg some (by kernel_rfl))
  f146 := Tryz.func174.trans (congrArg some (by kernel_rfl))
  f195 := Tryz.func212.trans (congrArg some (by kernel_rfl))
  f197 := Tryz.func213.trans (congrArg some (by kernel_rfl))
  f217 := Tryz.func234.trans (congrArg some (by kernel_rfl))
  f218 := Tryz.func214.trans (congrArg some (by kernel_rfl))
  f219 := Tryz.func215.trans (congrArg some (by kernel_rfl))
  f221 := Tryz.func152.trans (congrArg some (by kernel_rfl))
  f224 := Tryz.func236.trans (congrArg some (by kernel_rfl))
  f225 := Tryz.func235.trans (congrArg some (by kernel_rfl))
  f260 := Tryz.func233.trans (congrArg some (by kernel_rfl))
  f266 := Tryz.func245.trans (congrArg some (by kernel_rfl))
  f267 := Tryz.func237.trans (congrArg some (by kernel_rfl))
  f268 := Tryz.func186.trans (congrArg some (by kernel_rfl))
  f314 := Tryz.func246.trans (congrArg some (by kernel_rfl))
  t0 := Tryz.underlying0
  a0 := Tryz.isAgg0
  z0 := Tryz.sizeOf0
  v0 := Tryz.zeroValue0
  t3 := Tryz.underlying3
  a3 := Tryz.isAgg3
  z3 := Tryz.sizeOf3
  v3 := Tryz.zeroValue3
  t4 := Tryz.underlying4
  a4 := Tryz.isAgg4
  z4 := Tryz.sizeOf4
  v4 := Tryz.zeroValue4
  t5 := Tryz.underlying5
  a5 := Tryz.isAgg5
  z5 := Tryz.sizeOf5
  v5 := Tryz.zeroValue5
  t9 := Tryz.underlying9
  a9 := Tryz.isAgg9
  z9 := Tryz.sizeOf9
  v9 := Tryz.zeroValue9
  t21 := Tryz.underlying21
  a21 := Tryz.isAgg21
  z21 := Tryz.sizeOf21
  v21 := Tryz.zeroValue21
  t31 := Tryz.underlying26
  a31 := Tryz.isAgg26
  z31 := Tryz.sizeOf26
  v31 := Tryz.zeroValue26
  t46 := Tryz.underlying210
  a46 := Tryz.isAgg210
  z46 := Tryz.sizeOf210
  v46 := Tryz.zeroValue210
  t51 := Tryz.underlying215
  a51 := Tryz.isAgg215
  z51 := Tryz.sizeOf215
  v51 := Tryz.zeroValue215
  t105 := Tryz.underlying203
  a105 := Tryz.isAgg203
  z105 := Tryz.sizeOf203
  v105 := Tryz.zeroValue203
  t119 := Tryz.underlying223
  a119 := Tryz.isAgg223
  z119 := Tryz.sizeOf223
  t138 := Tryz.underlying225
  a138 := Tryz.isAgg225
  z138 := Tryz.sizeOf225
  v138 := Tryz.zeroValue225
  t139 := Tryz.underlying226
  a139 := Tryz.isAgg226
  z139 := Tryz.sizeOf226
  v139 := Tryz.zeroValue226
  t146 := Tryz.underlying227
  a146 := Tryz.isAgg227
  z146 := Tryz.sizeOf227
  v146 := Tryz.zeroValue227
  g1 := by kernel_rfl
  g3 := by kernel_rfl
  g4 := by kernel_rfl }
open Go.RowKit Go.Lib in
theorem Tryz.strings_Split (s sep : ByteArray) (m : Int) (w : World) (hs : s.size < 4294967281) (hm : w.cell? ⟨1, 0, none⟩ = some (.int .i64 m)) (h1 : 1 ≤ sep.size) :
    Calls Tryz.prog 174 #[.string s, .string sep] w fun e w' =>
      e = .returned (.slice (some ⟨w.heap.size, 0, none⟩) (Lib.countB s sep + 1) (Lib.countB s sep + 1)) ∧ w' = w.alloc (.cells ((Lib.splitB sep 0 (Lib.countB s sep) s).map Value.string).toArray 9) := Any.strings_Split Tryz.lays146 (by kernel_rfl) s sep m w hs hm h1
def Tryz.lays147_ren : Go.Shelf.Ren := ⟨fun | 147 => 88 | 221 => 152 | 268 => 186 | 138 => 187 | 143 => 188 | 195 => 212 | 197 => 213 | 218 => 214 | 219 => 215 | 260 => 233 | 217 => 234 | 225 => 235 | 224 => 236 | 267 => 237 | 266 => 245 | 314 => 246 | n => n, fun | 9 => 9 | 3 => 3 | 31 => 26 | 4 => 4 | 0 => 0 | 105 => 203 | 21 => 21 | 5 => 5 | 46 => 210 | 119 => 223 | 139 => 226 | 138 => 225 | 146 => 227 | 51 => 215 | n => n, fun | 1 => 1 | 3 => 2 | 4 => 3 | n => n⟩
theorem Tryz.lays147 : Go.Proofs.Lays.n147 Tryz.prog Tryz.lays147_ren := {
  mixed := by kernel_rfl
  f138 := Tryz.func187.trans (congrArg some (by kernel_rfl))
  f143 := Tryz.func188.trans (congrArg some (by kernel_rfl))
  f147 := Tryz.func88.trans (congrArg some (by kernel_rfl))
  f195 := Tryz.func212.trans (congrArg some (by kernel_rfl))
  f197 := Tryz.func213.trans (congrArg some (by kernel_rfl))
  f217 := Tryz.func234.trans (congrArg some (by kernel_rfl))
  f218 := Tryz.func214.trans (congrArg some (by kernel_rfl))
  f219 := Tryz.func215.trans (congrArg some (by kernel_rfl))
  f221 := Tryz.func152.trans (congrArg some (by kernel_rfl))
  f224 := Tryz.func236.trans (congrArg some (by kernel_rfl))
  f225 := Tryz.func235.trans (congrArg some (by kernel_rfl))
  f260 := Tryz.func233.trans (congrArg some (by kernel_rfl))
  f266 := Tryz.func245.trans (congrArg some (by kernel_rfl))
  f267 := Tryz.func237.trans (congrArg some (by kernel_rfl))
  f268 := Tryz.func186.trans (congrArg some (by kernel_rfl))
  f314 := Tryz.func246.trans (congrArg some (by kernel_rfl))
  t0 := Tryz.underlying0
  a0 := Tryz.isAgg0
  z0 := Tryz.sizeOf0
  v0 := Tryz.zeroValue0
  t3 := Tryz.underlying3
  a3 := Tryz.isAgg3
  z3 := Tryz.sizeOf3
  v3 := Tryz.zeroValue3
  t4 := Tryz.underlying4
  a4 := Tryz.isAgg4
  z4 := Tryz.sizeOf4
  v4 := Tryz.zeroValue4
  t5 := Tryz.underlying5
  a5 := Tryz.isAgg5
  z5 := Tryz.sizeOf5
  v5 := Tryz.zeroValue5
  t9 := Tryz.underlying9
  a9 := Tryz.isAgg9
  z9 := Tryz.sizeOf9
  v9 := Tryz.zeroValue9
  t21 := Tryz.underlying21
  a21 := Tryz.isAgg21
  z21 := Tryz.sizeOf21
  v21 := Tryz.zeroValue21
  t31 := Tryz.underlying26
  a31 := Tryz.isAgg26
  z31 := Tryz.sizeOf26
  v31 := Tryz.zeroValue26
  t46 := Tryz.underlying210
  a46 := Tryz.isAgg210
  z46 := Tryz.sizeOf210
  v46 := Tryz.zeroValue210
  t51 := Tryz.underlying215
  a51 := Tryz.isAgg215
  z51 := Tryz.sizeOf215
  v51 := Tryz.zeroValue215
  t105 := Tryz.underlying203
  a105 := Tryz.isAgg203
  z105 := Tryz.sizeOf203
  v105 := Tryz.zeroValue203
  t119 := Tryz.underlying223
  a119 := Tryz.isAgg223
  z119 := Tryz.sizeOf223
  t138 := Tryz.underlying225
  a138 := Tryz.isAgg225
  z138 := Tryz.sizeOf225
  v138 := Tryz.zeroValue225
  t139 := Tryz.underlying226
  a139 := Tryz.isAgg226
  z139 := Tryz.sizeOf226
  v139 := Tryz.zeroValue226
  t146 := Tryz.underlying227
  a146 := Tryz.isAgg227
  z146 := Tryz.sizeOf227
  v146 := Tryz.zeroValue227
  g1 := by kernel_rfl
  g3 := by kernel_rfl
  g4 := by kernel_rfl }
open Go.RowKit Go.Lib in
theorem Tryz.strings_SplitN (s sep : ByteArray) (n : Nat) (m : Int) (w : World) (hs : s.size < 4294967281) (hm : w.cell? ⟨1, 0, none⟩ = some (.int .i64 m)) (h1 : 1 ≤ sep.size) (hn : 1 ≤ n) (hn63 : n ≤ 9223372036854775807) :
    Calls Tryz.prog 88 #[.string s, .string sep, .int .i64 n] w fun e w' =>
      e = .returned (.slice (some ⟨w.heap.size, 0, none⟩) (Lib.splitB sep 0 (min n (s.size + 1) - 1) s).length (min n (s.size + 1))) ∧ w' = w.alloc (.cells (Lib.cellsOf (Lib.splitB sep 0 (min n (s.size + 1) - 1) s) (min n (s.size + 1))) 9) := Any.strings_SplitN Tryz.lays147 (by kernel_rfl) s sep n m w hs hm h1 hn hn63
end Go.Proofs

/- The library's variable MaxLen. -/
set_option linter.unusedVariables false
namespace Go.Proofs.YtaghiefokmapmaaGreatDoor
open Go.RowKit
/-- The library's own variable holds some number. -/
def MaxL (w : World) : Prop := ∃ m, w.cell? ⟨1, 0, none⟩ = some (.int .i64 m)
theorem MaxL.below {w w' : World} (h : MaxL w) (hb : Below w.heap.size w w') : MaxL w' := by
  obtain ⟨m, hm⟩ := h; exact ⟨m, Below_cells hb _ _ _ hm⟩
theorem MaxL.lt {w : World} (h : MaxL w) : 1 < w.heap.size := by
  obtain ⟨m, hm⟩ := h; exact World.block_lt_of_cell? w _ hm
end Go.Proofs.YtaghiefokmapmaaGreatDoor

/- Words of a text, walked. -/
set_option linter.unusedVariables false
namespace Go.Proofs.YtaghiefokmapmaaGreatDoor
open Go.RowKit

def spB : ByteArray := ⟨#[32]⟩
def SplitR (s : ByteArray) (w : World) (e : Ending) (w' : World) : Prop :=
  ∃ A c, e = .returned (.slice A (spl [] (bs s)).length c) ∧ Sl w' encS 1 A ((spl [] (bs s)).map mk) ∧ Below w.heap.size w w'
theorem SplitSp_any (s : ByteArray) (w : World) (hs : s.size ≤ 16777216) (hm : MaxL w) : Calls Tryz.prog 174 #[.string s, .string ⟨#[32]⟩] w (SplitR s w) := by
  obtain ⟨m, hm⟩ := hm
  refine (Tryz.strings_Split s ⟨#[32]⟩ m w (by omega) hm (by decide)).mono fun e w' ⟨h1, h2⟩ => ?_
  refine ⟨_, _, by rw [h1, countB_spl], ?_, by rw [h2]; exact (Below.refl _ _).alloc (Nat.le_refl _) _⟩
  intro _
  refine ⟨w.heap.size, 0, rfl, fun j u hu => ?_⟩
  rw [h2, splitB_spl, cell_of_row _ _ _ _ _ (0, 0) (heap_alloc_new w _)]
  rw [Nat.zero_add]
  have e : flat encS ((spl [] (bs s)).map mk) = ((spl [] (bs s)).map mk).map Value.string := by
    unfold flat
    induction (spl [] (bs s)).map mk with
    | nil => rfl
    | cons x r ih => rw [List.flatMap_cons, ih]; rfl
  rw [e] at hu
  simpa using hu
theorem hasS_map (l : List Bs) (q : Bs) : hasS (l.map mk) (mk q) = l.contains q := by
  unfold hasS
  rw [List.any_map]
  rw [Bool.eq_iff_iff]
  simp only [List.any_eq_true, List.contains_eq_mem, decide_eq_true_eq]
  constructor
  · rintro ⟨y, hy, h⟩
    have h2 : (q == y) = true := h
    rw [beq_iff_eq] at h2; rw [h2]; exact hy
  · intro h
    refine ⟨q, h, ?_⟩
    show (q == q) = true
    exact beq_self_eq_true q
def wordsB (s : ByteArray) : List ByteArray := (wordsOf (bs s)).map mk
theorem wordsB_len (s : ByteArray) : (wordsB s).length ≤ 61 := by unfold wordsB; rw [List.length_map]; exact wordsOf_len _
theorem addW_no {l : List Bs} {q : Bs} (h : wordV q = false ∨ l.contains q = true) : addW l q = l := by
  unfold addW
  rcases h with h | h
  · rw [h]; rfl
  · rw [h]; simp
theorem addW_yes {l : List Bs} {q : Bs} (h : wordV q = true) (h2 : l.contains q = false) : addW l q = l ++ [q] := by
  unfold addW; rw [h, h2]; rfl
theorem foldl_take {ps : List Bs} {k : Nat} (h : k < ps.length) : (ps.take (k + 1)).foldl addW [] = addW ((ps.take k).foldl addW []) ps[k] := by
  rw [List.take_succ_eq_append_getElem h, List.foldl_append]; rfl
theorem map_at {l : List Bs} {k : Nat} (h : k < l.length) : (l.map mk)[k]'(by rw [List.length_map]; exact h) = mk l[k] := by simp
set_option maxHeartbeats 4000000 in
set_option maxRecDepth 100000 in
theorem iWordsOf_any (s : ByteArray) (w : World) (hs : s.size ≤ 16777216) (hm : MaxL w) :
    Calls Tryz.prog 115 #[.string s] w (OwnRes 9 1 encS (wordsB s) w) := by
  have HM := Lib.hid hm
  clear hm
  have hTV := fun w => iTextValid_any s w hs
  cases hv : textV (bs s)
  · have e : wordsB s = [] := by unfold wordsB wordsOf; rw [hv]; rfl
    rw [e]
    rw [hv] at hTV
    have HTV := Lib.hid hTV
    clear hTV hv e
    go_enter Tryz.func115, Tryz.ntmps115
    go_wp2_with (go_at_call 120; refine (HTV.out _).mono ?_; rintro e w' ⟨rfl, rfl⟩)
    go_ret
    exact ⟨_, rfl, Own.nil, Below.refl _ _⟩
  · have e : wordsB s = ((spl [] (bs s)).foldl addW []).map mk := by unfold wordsB wordsOf; rw [hv, if_pos rfl]
    rw [e]
    have hsz : s.size ≤ 60 := textV_size hv
    have hcnt : (spl [] (bs s)).length ≤ 61 := by have := spl_len (bs s) []; have := size_bs s; omega
    have hshort := spl_short (bs s) []
    rw [hv] at hTV
    have HTV := Lib.hid hTV
    have HSP := Lib.hid (fun w h => SplitSp_any s w hs h)
    unfold SplitR at HSP
    generalize hps : spl [] (bs s) = ps at *
    have HSH := Lib.hid (show ∀ p ∈ ps, p.length ≤ 60 from fun p hp => by have h1 := hshort p hp; have h2 := size_bs s; rw [List.length_nil] at h1; omega)
    clear hTV hv e hps hshort
    go_enter Tryz.func115, Tryz.ntmps115
    go_wp2_with (go_at_call 120; refine (HTV.out _).mono ?_; rintro e w' ⟨rfl, rfl⟩)
    refine (HSP.out _ HM.out).mono ?_
    rintro e w1 ⟨A, c, rfl, hs1, hb1⟩
    have HS1 := Lib.hid hs1
    have HB1 := Lib.hid hb1
    clear hs1 hb1
    go_wp2_with fail
    go_loopw [3, 12] (fun v i wr => ∃ (k : Nat) (acc : List Bs) (ab : List ByteArray), k ≤ ps.length ∧ i = .int .i64 k ∧ ab.length ≤ k ∧ Hid (acc = (ps.take k).foldl addW []) ∧ Hid (ab = acc.map mk) ∧ Own wr w1.heap.size 9 1 encS v ab ∧ Below w1.heap.size w1 wr) (fun _ i _ => ps.length - (intOf i).toNat)
    case atStart => exact ⟨0, [], [], Nat.zero_le _, rfl, Nat.le_refl _, rfl, rfl, Own.nil, Below.refl _ _⟩
    case round =>
      obtain ⟨k, acc, ab, hk, rfl, hak, hh, hab, hown, hb⟩ := hrel
      obtain ⟨X, d, rfl, _, hsx, _⟩ := hown.sl
      by_cases hlt : k < ps.length
      · obtain ⟨b, o, rfl, hc⟩ := (HS1.out.below hb).getS (k := k) (by rw [List.length_map]; exact hlt)
        rw [map_at hlt] at hc
        have hft := foldl_take hlt
        rw [← hh.out] at hft
        have hq60 := HSH.out ps[k] (by simp)
        generalize ps[k] = q at *
        have hqs : (mk q).size ≤ 16777216 := by rw [mk_size]; omega
        have hWV := fun w => iWordValid_any (mk q) w hqs
        have hbq : bs (mk q) = q := rfl
        rw [hbq] at hWV
        have hCN := fun w h => ContainsS_any X d ab (mk q) w h (by omega)
        have hhs : hasS ab (mk q) = acc.contains q := by rw [hab.out, hasS_map]
        rw [hhs] at hCN
        have HW := Lib.hid hown
        have HSX := Lib.hid hsx
        have HFT := Lib.hid hft
        have HB := Lib.hid hb
        have HBQ := Lib.hid hqs
        clear hown hsx hft hb hbq hqs hhs
        cases hwv : wordV q
        · rw [hwv] at hWV
          have HWV := Lib.hid hWV
          have HNO := Lib.hid (addW_no (l := acc) (.inl hwv))
          clear hWV hCN hwv
          go_wp2_with (go_at_call 102; refine (HWV.out _).mono ?_; rintro e w' ⟨rfl, rfl⟩)
          go_roundw
          case rel => exact ⟨k + 1, acc, ab, by omega, by go_num, by omega, by show _ = _; rw [HFT.out, HNO.out], hab, HW.out, HB.out⟩
          case measure => simp [intOf]; omega
        · rw [hwv] at hWV
          have HWV := Lib.hid hWV
          clear hWV
          cases hcn : acc.contains q
          · rw [hcn] at hCN
            have HCN := Lib.hid hCN
            have HYES := Lib.hid (addW_yes hwv hcn)
            clear hCN hwv hcn
            have hl1 : ab.length ≤ 16777216 := by omega
            go_wp2_with (first
              | (go_at_call 102; refine (HWV.out _).mono ?_; rintro e w' ⟨rfl, rfl⟩)
              | (go_at_call 114; refine (HCN.out _ HSX.out).mono ?_; rintro e w' ⟨rfl, rfl⟩)
              | (at_builtin; refine app_str (w0 := w1) rfl rfl rfl rfl HW.out HB.out hl1 ?_; intro v1 w2 hown2 hb2; have HW2 := Lib.hid hown2; have HB2 := Lib.hid hb2; clear hown2 hb2))
            go_roundw
            case rel => exact ⟨k + 1, acc ++ [q], ab ++ [mk q], by omega, by go_num, by simp; omega, by show _ = _; rw [HFT.out, HYES.out], by show _ = _; rw [hab.out, List.map_append]; rfl, HW2.out, HB2.out⟩
            case measure => simp [intOf]; omega
          · rw [hcn] at hCN
            have HCN := Lib.hid hCN
            have HNO := Lib.hid (addW_no (l := acc) (q := q) (.inr hcn))
            clear hCN hwv hcn
            go_wp2_with (first
              | (go_at_call 102; refine (HWV.out _).mono ?_; rintro e w' ⟨rfl, rfl⟩)
              | (go_at_call 114; refine (HCN.out _ HSX.out).mono ?_; rintro e w' ⟨rfl, rfl⟩))
            go_roundw
            case rel => exact ⟨k + 1, acc, ab, by omega, by go_num, by omega, by show _ = _; rw [HFT.out, HNO.out], hab, HW.out, HB.out⟩
            case measure => simp [intOf]; omega
      · have HW := Lib.hid hown
        have HB := Lib.hid hb
        clear hown hb
        go_wp2
        go_ret
        refine ⟨_, rfl, ?_, Below_then HB1.out HB.out (Nat.le_refl _)⟩
        have e : ps.foldl addW [] = acc := by rw [hh.out, List.take_of_length_le (by omega)]
        rw [e, ← hab.out]
        exact HW.out.mono HB1.out.size
end Go.Proofs.YtaghiefokmapmaaGreatDoor

/- Quotas: rows, plain. -/
set_option linter.unusedVariables false
namespace Go.Proofs.YtaghiefokmapmaaGreatDoor
open Go.RowKit
theorem Sl.getQ {w : World} {A : Option Addr} {l : List Qt} {k : Nat} (h : Sl w encQ 2 A l) (hk : k < l.length) :
    ∃ b o, A = some ⟨b, o, none⟩ ∧ w.cell? ⟨b, o + k * 2, none⟩ = some (.string l[k].1) ∧ w.cell? ⟨b, o + k * 2 + 1, none⟩ = some (.int .i64 l[k].2) := by
  obtain ⟨b, o, e, hc⟩ := h.get (fun _ => rfl) hk
  exact ⟨b, o, e, by simpa using hc 0 _ (by omega) rfl, by simpa [Nat.add_assoc] using hc 1 _ (by omega) rfl⟩
def FitQ (l : List Qt) : Prop := ∀ p ∈ l, p.1.size ≤ 1048576
theorem quoV_no {l : List Qt} {k : Nat} (hk : k < l.length) (h : quoAt l k = false) : quoV l = false := by
  unfold quoV
  rw [Bool.and_eq_false_iff]; right
  rw [List.all_eq_false]
  exact ⟨k, List.mem_range.2 hk, by rw [h]; simp⟩
theorem quoV_long {l : List Qt} (h : ¬ l.length ≤ 6) : quoV l = false := by
  unfold quoV; rw [decide_eq_false h]; rfl
theorem quoV_all {l : List Qt} (h : ∀ k, k < l.length → quoAt l k = true) : quoV l = decide (l.length ≤ 6) := by
  unfold quoV
  rw [show (List.range l.length).all (quoAt l) = true from List.all_eq_true.2 fun k hk => h k (List.mem_range.1 hk), Bool.and_true]
theorem quoAt_path {l : List Qt} {k : Nat} (hk : k < l.length) (h : (pathP (bs l[k].1)).isSome = false) : quoAt l k = false := by
  unfold quoAt; rw [List.getElem?_eq_getElem hk]; simp only [tx]; rw [h]; rfl
theorem quoAt_most {l : List Qt} {k : Nat} (hk : k < l.length) (h : inI l[k].2 0 1000 = false) : quoAt l k = false := by
  unfold quoAt; rw [List.getElem?_eq_getElem hk]; simp only; rw [h]; simp
theorem quoAt_twice {l : List Qt} {k j : Nat} (hk : k < l.length) (hj : j < k) (h : bs l[j].1 = bs l[k].1) : quoAt l k = false := by
  unfold quoAt; rw [List.getElem?_eq_getElem hk]; simp only
  rw [show ((l.take k).any fun o => tx o.1 == tx l[k].1) = true from List.any_eq_true.2 ⟨l[j], List.mem_take_iff_getElem.2 ⟨j, by omega, rfl⟩, by simpa [tx] using h⟩]
  simp
theorem quoAt_yes {l : List Qt} {k : Nat} (hk : k < l.length) (h1 : (pathP (bs l[k].1)).isSome = true) (h2 : inI l[k].2 0 1000 = true) (h3 : ∀ j (hj : j < l.length), j < k → bs l[j].1 ≠ bs l[k].1) : quoAt l k = true := by
  unfold quoAt; rw [List.getElem?_eq_getElem hk]; simp only [tx]
  rw [h1, h2]
  have e : ((l.take k).any fun o => bs o.1 == bs l[k].1) = false := by
    rw [List.any_eq_false]
    intro o ho
    obtain ⟨j, hj, rfl⟩ := List.mem_take_iff_getElem.1 ho
    have := h3 j (by omega) (by omega)
    simpa using this
  exact (congrArg (fun b => (true && true) && !b) e)
end Go.Proofs.YtaghiefokmapmaaGreatDoor

/- Sizes below paths, files with a word, quotas that are passed: plain lemmas for the walks of the code. -/
set_option linter.unusedVariables false
namespace Go.Proofs.YtaghiefokmapmaaGreatDoor
open Go.RowKit
theorem fileOf_len {s : List Pc} {p : Int} {t : Bs} (h : fileOf s p = some t) : t.length ≤ 40 := by
  unfold fileOf at h
  obtain ⟨u, _, h2⟩ := Option.bind_eq_some_iff.1 h
  have := (readFi_iff.1 h2).2
  unfold contV at this
  rw [Bool.and_eq_true, decide_eq_true_eq] at this; exact this.2
theorem readAt_len (s : List Pc) (root : Int) (p : Bs) : ((readAt s root p).getD []).length ≤ 40 := by
  cases h : readAt s root p with
  | none => simp
  | some t =>
    unfold readAt at h
    obtain ⟨q, _, h2⟩ := Option.bind_eq_some_iff.1 h
    exact fileOf_len h2
def filesB (s : List Pc) (root : Int) : List ByteArray := (allF s root).map mk
theorem filesB_len (s : List Pc) (root : Int) : (filesB s root).length ≤ 27 := by unfold filesB; rw [List.length_map]; exact allF_len s root
theorem filesB_size (s : List Pc) (root : Int) : ∀ x ∈ filesB s root, x.size ≤ 27 := by
  intro x hx
  unfold filesB at hx
  obtain ⟨y, hy, rfl⟩ := List.mem_map.1 hx
  rw [mk_size]; exact allF_size s root y hy
theorem filesB_bs (s : List Pc) (root : Int) : (filesB s root).map bs = allF s root := by
  unfold filesB
  rw [List.map_map]
  exact (List.map_congr_left fun x _ => rfl).trans (List.map_id _)
/-- What the first k files below a path have. -/
def useUpto (s : List Pc) (root : Int) (path : Bs) (l : List ByteArray) (k : Nat) : Int := sizeOf' s root (((l.take k).map bs).filter fun f => belowP f path)
theorem useUpto_zero (s : List Pc) (root : Int) (path : Bs) (l : List ByteArray) : useUpto s root path l 0 = 0 := rfl
theorem useUpto_yes {s : List Pc} {root : Int} {path : Bs} {l : List ByteArray} {k : Nat} (hk : k < l.length) (h : belowP (bs l[k]) path = true) :
    useUpto s root path l (k + 1) = useUpto s root path l k + ((mk ((readAt s root (bs l[k])).getD [])).size : Int) := by
  unfold useUpto sizeOf'
  rw [List.take_succ_eq_append_getElem hk, List.map_append, List.filter_append, List.foldl_append, List.map_cons, List.map_nil, List.filter_cons, h, if_pos rfl, List.filter_nil, List.foldl_cons, List.foldl_nil, mk_size]
  rfl
theorem useUpto_no {s : List Pc} {root : Int} {path : Bs} {l : List ByteArray} {k : Nat} (hk : k < l.length) (h : belowP (bs l[k]) path = false) :
    useUpto s root path l (k + 1) = useUpto s root path l k := by
  unfold useUpto sizeOf'
  rw [List.take_succ_eq_append_getElem hk, List.map_append, List.filter_append, List.map_cons, List.map_nil, List.filter_cons, h]
  simp
theorem useUpto_bd (s : List Pc) (root : Int) (path : Bs) (l : List ByteArray) : ∀ k, k ≤ l.length → 0 ≤ useUpto s root path l k ∧ useUpto s root path l k ≤ 40 * k
  | 0, _ => by rw [useUpto_zero]; omega
  | k + 1, hk => by
    have ih := useUpto_bd s root path l k (by omega)
    cases h : belowP (bs l[k]) path
    · rw [useUpto_no (by omega) h]; omega
    · rw [useUpto_yes (by omega) h, mk_size]
      have := readAt_len s root (bs l[k])
      omega
theorem useUpto_all {s : List Pc} {root : Int} {path : Bs} {k : Nat} (hp : (pathP path).isSome = true) (hv : storeV s = true) (hk : (filesB s root).length ≤ k) : useUpto s root path (filesB s root) k = usedP s root path := by
  unfold useUpto usedP
  rw [List.take_of_length_le hk, filesB_bs, hp, hv]; rfl
theorem usedP_path {s : List Pc} {root : Int} {path : Bs} (h : (pathP path).isSome = false) : usedP s root path = -1 := by unfold usedP; rw [h]; rfl
theorem usedP_store {s : List Pc} {root : Int} {path : Bs} (h : storeV s = false) : usedP s root path = -1 := by unfold usedP; rw [h]; simp
/-! ### files with a word -/
def hasW (s : List Pc) (root : Int) (word : Bs) (f : Bs) : Bool := (wordsOf ((readAt s root f).getD [])).contains word
def withP (s : List Pc) (root : Int) (word : Bs) : List Bs := (allF s root).filter (hasW s root word)
def withB (s : List Pc) (root : Int) (word : Bs) : List ByteArray := (filesB s root).filter fun f => hasW s root word (bs f)
theorem withB_eq (s : List Pc) (root : Int) (word : Bs) : withB s root word = (withP s root word).map mk := by
  unfold withB withP filesB
  rw [List.filter_map]; rfl
theorem withB_len (s : List Pc) (root : Int) (word : Bs) : (withB s root word).length ≤ 27 := Nat.le_trans (List.length_filter_le _ _) (filesB_len s root)
theorem filterB_upto {p : ByteArray → Bool} {l : List ByteArray} {k : Nat} (h : k < l.length) : (l.take (k + 1)).filter p = (l.take k).filter p ++ if p l[k] then [l[k]] else [] := by
  rw [List.take_succ_eq_append_getElem h, List.filter_append]
  cases hp : p l[k] <;> simp [hp]
/-! ### quotas that are passed -/
def overQ (s : List Pc) (root : Int) (q : Qt) : Bool := decide (usedP s root (bs q.1) > q.2)
def overB (s : List Pc) (root : Int) (l : List Qt) : List ByteArray := (l.filter (overQ s root)).map (·.1)
def overR (s : List Pc) (root : Int) (l : List Qt) : List ByteArray := if quoV l && storeV s then overB s root l else []
theorem overB_next {s : List Pc} {root : Int} {l : List Qt} {k : Nat} (h : k < l.length) : overB s root (l.take (k + 1)) = overB s root (l.take k) ++ if overQ s root l[k] then [l[k].1] else [] := by
  unfold overB
  rw [List.take_succ_eq_append_getElem h, List.filter_append, List.map_append]
  cases hp : overQ s root l[k] <;> simp [hp]
theorem overB_len (s : List Pc) (root : Int) (l : List Qt) : (overB s root l).length ≤ l.length := by
  unfold overB; rw [List.length_map]; exact List.length_filter_le _ _
theorem overR_len (s : List Pc) (root : Int) (l : List Qt) : (overR s root l).length ≤ l.length := by
  unfold overR; split
  · exact overB_len s root l
  · simp
theorem overR_yes {s : List Pc} {root : Int} {l : List Qt} (h1 : quoV l = true) (h2 : storeV s = true) : overR s root l = overB s root l := by unfold overR; rw [h1, h2]; rfl
theorem overR_no {s : List Pc} {root : Int} {l : List Qt} (h1 : quoV l = false ∨ storeV s = false) : overR s root l = [] := by
  unfold overR
  rcases h1 with h | h
  · rw [h]; rfl
  · rw [h]; simp
theorem quoV_len {l : List Qt} (h : quoV l = true) : l.length ≤ 6 := by
  unfold quoV at h; rw [Bool.and_eq_true, decide_eq_true_eq] at h; exact h.1
theorem quoV_path {l : List Qt} (h : quoV l = true) {q : Qt} (hq : q ∈ l) : (pathP (bs q.1)).isSome = true ∧ 0 ≤ q.2 ∧ q.2 ≤ 1000 := by
  unfold quoV at h
  rw [Bool.and_eq_true, List.all_eq_true] at h
  obtain ⟨k, hk, rfl⟩ := List.getElem_of_mem hq
  have h2 := h.2 k (List.mem_range.2 hk)
  unfold quoAt at h2
  rw [List.getElem?_eq_getElem hk] at h2
  simp only [Bool.and_eq_true] at h2
  refine ⟨h2.1.1, ?_⟩
  have := h2.1.2
  unfold inI at this
  rwa [decide_eq_true_eq] at this
theorem usedP_bd {s : List Pc} {root : Int} {path : Bs} : -1 ≤ usedP s root path ∧ usedP s root path ≤ 1080 := by
  cases hp : (pathP path).isSome
  · rw [usedP_path hp]; omega
  · cases hv : storeV s
    · rw [usedP_store hv]; omega
    · have := useUpto_bd s root path (filesB s root) _ (Nat.le_refl _)
      rw [useUpto_all hp hv (Nat.le_refl _)] at this
      have h2 := filesB_len s root
      omega
/-! ### one path below another -/
theorem belowP_no {a b : Bs} (h : pathP a = none ∨ pathP b = none) : belowP a b = false := by
  unfold belowP
  rcases h with h | h
  · rw [h]
  · rw [h]; cases pathP a <;> rfl
theorem belowP_yes {a b : Bs} {x y : List Bs} (h : pathP a = some x) (h2 : pathP b = some y) : belowP a b = y.isPrefixOf x := by
  unfold belowP; rw [h, h2]
theorem prefix_len {x y : List Bs} (h : ¬ y.length ≤ x.length) : y.isPrefixOf x = false := by
  cases hp : y.isPrefixOf x
  · rfl
  · exact absurd (List.isPrefixOf_iff_prefix.1 hp).length_le h
theorem prefix_take {x y : List Bs} (h : y.length ≤ x.length) : y.isPrefixOf x = decide (x.take y.length = y) := by
  rw [Bool.eq_iff_iff, List.isPrefixOf_iff_prefix, decide_eq_true_eq, List.prefix_iff_eq_take]
  exact eq_comm
theorem prefix_no {x y : List Bs} {k : Nat} (hk : k < y.length) (hx : k < x.length) (h : x[k] ≠ y[k]) : y.isPrefixOf x = false := by
  cases hp : y.isPrefixOf x
  · rfl
  · obtain ⟨t, rfl⟩ := List.isPrefixOf_iff_prefix.1 hp
    exact absurd (List.getElem_append_left hk) h
theorem prefix_yes {x y : List Bs} (hl : y.length ≤ x.length) (h : ∀ k (h1 : k < y.length) (h2 : k < x.length), x[k] = y[k]) : y.isPrefixOf x = true := by
  rw [List.isPrefixOf_iff_prefix, List.prefix_iff_eq_take]
  apply List.ext_getElem
  · rw [List.length_take]; omega
  · intro k h1 h2
    rw [List.getElem_take]; exact (h k h1 (by rw [List.length_take] at h2; omega)).symm
theorem bs_at {x : List Bs} {k : Nat} (h : k < (x.map mk).length) : bs (x.map mk)[k] = x[k]'(by rw [List.length_map] at h; exact h) := by
  rw [List.getElem_map]; rfl
theorem below_ne {a b : Bs} {x y : List Bs} (h : pathP a = some x) (h2 : pathP b = some y) (k : Nat) (hk : k < (y.map mk).length) (hk2 : k < (x.map mk).length) (h3 : bs (x.map mk)[k] ≠ bs (y.map mk)[k]) : belowP a b = false := by
  rw [belowP_yes h h2]
  rw [bs_at, bs_at] at h3
  exact prefix_no _ _ h3
theorem below_all {a b : Bs} {x y : List Bs} (h : pathP a = some x) (h2 : pathP b = some y) (hl : (y.map mk).length ≤ (x.map mk).length) (h3 : ∀ k (hk : k < (y.map mk).length) (hk2 : k < (x.map mk).length), bs (x.map mk)[k] = bs (y.map mk)[k]) : belowP a b = true := by
  rw [belowP_yes h h2]
  rw [List.length_map, List.length_map] at hl
  refine prefix_yes hl fun k h1 h4 => ?_
  have := h3 k (by rw [List.length_map]; exact h1) (by rw [List.length_map]; exact h4)
  rwa [bs_at, bs_at] at this
theorem below_long {a b : Bs} {x y : List Bs} (h : pathP a = some x) (h2 : pathP b = some y) (hl : ¬ (y.map mk).length ≤ (x.map mk).length) : belowP a b = false := by
  rw [belowP_yes h h2]
  rw [List.length_map, List.length_map] at hl
  exact prefix_len hl
theorem below_eq {a b : Bs} {x y : List Bs} (h : pathP a = some x) (h2 : pathP b = some y) (hl : (y.map mk).length ≤ (x.map mk).length) : belowP a b = decide (((x.map mk).take (y.map mk).length).map bs = (y.map mk).map bs) := by
  rw [belowP_yes h h2]
  rw [List.length_map, List.length_map] at hl
  rw [prefix_take hl, List.map_take, List.map_map, List.map_map, List.length_map]
  rw [show x.map (bs ∘ mk) = x from (List.map_congr_left fun z _ => rfl).trans (List.map_id _), show y.map (bs ∘ mk) = y from (List.map_congr_left fun z _ => rfl).trans (List.map_id _)]
def eqL (l m : List ByteArray) : Bool := decide (l.map bs = m.map bs)
theorem eqL_len {l m : List ByteArray} (h : l.length ≠ m.length) : eqL l m = false := by
  unfold eqL; exact decide_eq_false fun e => h (by have := congrArg List.length e; simpa using this)
theorem eqL_ne {l m : List ByteArray} (k : Nat) (h1 : k < l.length) (h2 : k < m.length) (h : bs l[k] ≠ bs m[k]) : eqL l m = false := by
  unfold eqL
  refine decide_eq_false fun e => h ?_
  have : (l.map bs)[k]? = (m.map bs)[k]? := by rw [e]
  rw [List.getElem?_map, List.getElem?_map, List.getElem?_eq_getElem h1, List.getElem?_eq_getElem h2] at this
  injection this
theorem eqL_all {l m : List ByteArray} (h : l.length = m.length) (h2 : ∀ k (h1 : k < l.length) (h2 : k < m.length), bs l[k] = bs m[k]) : eqL l m = true := by
  unfold eqL
  refine decide_eq_true (List.ext_getElem (by simpa using h) fun k h3 h4 => ?_)
  rw [List.getElem_map, List.getElem_map]
  exact h2 k (by simpa using h3) (by simpa using h4)
end Go.Proofs.YtaghiefokmapmaaGreatDoor

/- 'append' of a whole slice onto a row of the call's own; 'append' of one struct. -/
set_option linter.unusedVariables false
namespace Go.Proofs.YtaghiefokmapmaaGreatDoor
open Go.RowKit

theorem Own.cz {α : Type} {enc : α → List Value} {w : World} {base size : Nat} {E : TypeId} {A : Option Addr} {n c : Nat} {l : List α} (h : Own w base E size enc (.slice A n c) l) : A = none → c = 0 := by
  rintro rfl
  rcases h.2 with ⟨hv, hn⟩ | ⟨g, cap, cur, hv, hg, hh, hnc, hcm, hsz, ht⟩
  · injection hv
  · injection hv with e; cases e
theorem wpList_appN {P : Program} {α : Type} {enc : α → List Value} {ops : Array Oper} {rest : List Oper} {o : Oper} {a : Act} {Q : Exit → Act → World → Prop} {w0 wr : World} {B base size bytes : Nat} {t E : TypeId} {i : TypeInfo} {z : Value} {v : Value} {l m : List α} {A : Option Addr} {c : Nat}
    (ht : P.underlying t = some (.slice E)) (hi : P.info? E = some i) (hz : i.zero = some z) (hsize : i.size = size) (hby : i.bytes = bytes) (hzs : z.cells.size = size) (hsz : 0 < size) (hb200 : bytes ≤ 256)
    (hgd : o.guard = none) (s x : Operand) (ho : o.op = .call { callee := .builtin .append, args := #[s, x], argTypes := #[t, t] })
    (hown : Own wr base E size enc v l) (hb : Below B w0 wr) (hB : B ≤ base) (hbase : base ≤ wr.heap.size) (hn : l.length + m.length ≤ 33554432)
    (hsl : Sl wr enc size A m) (hcz : A = none → c = 0) (hce : ∀ y, (enc y).length = size) (h1 : ∀ y, ∀ u ∈ enc y, u.oneCell' = true)
    (hs : a.eval s = v) (hx : a.eval x = .slice A m.length c)
    (h : ∀ v' w', Own w' base E size enc v' (l ++ m) → Below B w0 w' → Grew v wr w' → wpList P ops Q rest (a.put o.dst v') w') : wpList P ops Q (o :: rest) a wr := by
  cases A with
  | none =>
    have hm : m = [] := by
      cases m with
      | nil => rfl
      | cons y r => obtain ⟨b, o, e, _⟩ := hsl (by simp); cases e
    subst hm
    rw [hcz rfl] at hx
    refine wpList_append_own_none hgd s x t ho base E i size ht hi v l.length (flat enc l) hs hown hx ?_
    exact h v wr (by rw [List.append_nil]; exact hown) hb (Grew.refl _ _)
  | some ad =>
    refine wpList_append_own _ hgd s x t ho base E i z size bytes ht hi hz hsize hby hzs hsz v l.length (flat enc l) hs hown ad m.length c (flat enc m) hx (flat_length hce m) ?_ ?_ ?_ ?_ hbase ?_
    · intro j u hu
      have hpos : 0 < m.length := by
        have hlt := (List.getElem?_eq_some_iff.1 hu).1
        rw [flat_length hce] at hlt
        cases m with
        | nil => simp at hlt
        | cons y r => simp
      obtain ⟨b, o', e, hc⟩ := hsl hpos
      injection e with e
      subst e
      have hadd : (⟨b, o', none⟩ : Addr).add j = ⟨b, o' + j, none⟩ := by unfold Addr.add; split <;> simp_all
      rw [hadd]; exact hc j u hu
    · intro u hu
      unfold flat at hu
      obtain ⟨y, _, hy⟩ := List.mem_flatMap.1 hu
      exact h1 y u hy
    · unfold maxLen; omega
    · have := Nat.mul_le_mul_left (l.length + m.length) hb200; omega
    · intro v' w' hown' hg _
      refine h v' w' ?_ (hb.grown hg (Nat.le_trans hB hbase) (fun k hk => Nat.le_trans hB (World.ownsRow.lt hown k hk).1)) hg
      show w'.ownsRow base E size v' (l ++ m).length (flat enc (l ++ m))
      rw [flat_append, List.length_append]; exact hown'
theorem oneI : ∀ y, ∀ u ∈ encI y, u.oneCell' = true := by intro y u hu; simp [encI] at hu; subst hu; rfl
theorem oneS : ∀ y, ∀ u ∈ encS y, u.oneCell' = true := by intro y u hu; simp [encS] at hu; subst hu; rfl
theorem oneP : ∀ y, ∀ u ∈ encP y, u.oneCell' = true := by intro y u hu; simp [encP] at hu; rcases hu with rfl | rfl <;> rfl
theorem oneV : ∀ y, ∀ u ∈ encV y, u.oneCell' = true := by intro y u hu; simp [encV] at hu; rcases hu with rfl | rfl | rfl <;> rfl
theorem oneT : ∀ y, ∀ u ∈ encT y, u.oneCell' = true := by intro y u hu; simp [encT] at hu; rcases hu with rfl | rfl | rfl | rfl <;> rfl
section
variable {ops : Array Oper} {rest : List Oper} {o : Oper} {a : Act} {Q : Exit → Act → World → Prop} {w0 wr : World} {v : Value}
theorem app_pcN {l m : List Pc} {A : Option Addr} {c : Nat} {s x : Operand} (hgd : o.guard = none) (ho : o.op = .call { callee := .builtin .append, args := #[s, x], argTypes := #[28, 28] })
    (hown : Own wr w0.heap.size 90 2 encP v l) (hb : Below w0.heap.size w0 wr) (hn : l.length + m.length ≤ 33554432) (hsl : Sl wr encP 2 A m) (hcz : A = none → c = 0)
    (hs : a.eval s = v) (hx : a.eval x = .slice A m.length c)
    (h : ∀ v' w', Own w' w0.heap.size 90 2 encP v' (l ++ m) → Below w0.heap.size w0 w' → Grew v wr w' → wpList Tryz.prog ops Q rest (a.put o.dst v') w') : wpList Tryz.prog ops Q (o :: rest) a wr := by
  obtain ⟨i0, hi0, hz0, hz1, hz2⟩ := info_parts pc_info
  exact wpList_appN Tryz.underlying28 hi0 hz0 hz1 hz2 rfl (by decide) (by decide) hgd s x ho hown hb (Nat.le_refl _) hb.size hn hsl hcz (fun _ => rfl) oneP hs hx h
theorem app_strN {l m : List ByteArray} {A : Option Addr} {c : Nat} {s x : Operand} (hgd : o.guard = none) (ho : o.op = .call { callee := .builtin .append, args := #[s, x], argTypes := #[26, 26] })
    (hown : Own wr w0.heap.size 9 1 encS v l) (hb : Below w0.heap.size w0 wr) (hn : l.length + m.length ≤ 33554432) (hsl : Sl wr encS 1 A m) (hcz : A = none → c = 0)
    (hs : a.eval s = v) (hx : a.eval x = .slice A m.length c)
    (h : ∀ v' w', Own w' w0.heap.size 9 1 encS v' (l ++ m) → Below w0.heap.size w0 w' → Grew v wr w' → wpList Tryz.prog ops Q rest (a.put o.dst v') w') : wpList Tryz.prog ops Q (o :: rest) a wr := by
  obtain ⟨i0, hi0, hz0, hz1, hz2⟩ := info_parts str_info
  exact wpList_appN Tryz.underlying26 hi0 hz0 hz1 hz2 rfl (by decide) (by decide) hgd s x ho hown hb (Nat.le_refl _) hb.size hn hsl hcz (fun _ => rfl) oneS hs hx h
end
/-! ### slices.Clone -/
set_option maxHeartbeats 2000000 in
set_option maxRecDepth 100000 in
theorem ClonePc_any (A : Option Addr) (c : Nat) (l : List Pc) (w : World) (hs : Sl w encP 2 A l) (hcz : A = none → c = 0) (hl : l.length ≤ 16777216) :
    Calls Tryz.prog 124 #[.slice A l.length c] w (OwnRes 90 2 encP l w) := by
  have HS := Lib.hid hs
  have HC := Lib.hid hcz
  clear hs hcz
  have hnil := fun (W : World) (A : Option Addr) (n c : Nat) => Lib.run_eql_slice_nil (P := Tryz.prog) W 28 90 A n c 0 0 Tryz.underlying28
  cases A with
  | none =>
    have hm : l = [] := by
      cases l with
      | nil => rfl
      | cons y r => obtain ⟨b, o, e, _⟩ := HS.out (by simp); cases e
    subst hm
    go_enter Tryz.func124, Tryz.ntmps124
    go_wp2
    go_ret
    exact ⟨_, rfl, Own.nil, Below.refl _ _⟩
  | some ad =>
    go_enter Tryz.func124, Tryz.ntmps124
    go_wp2_with (at_builtin; refine app_pcN rfl rfl (Own.made (Nat.le_refl _)) ((Below.refl _ _).alloc (Nat.le_refl _) _) (by simp; omega) (HS.out.alloc _) HC.out (by rfl) (by rfl) ?_; intro v1 w2 hown2 hb2 hg2; have HW2 := Lib.hid hown2; have HB2 := Lib.hid hb2; clear hown2 hb2 hg2)
    go_ret
    exact ⟨_, rfl, by have h := HW2.out; rwa [List.nil_append] at h, HB2.out⟩
end Go.Proofs.YtaghiefokmapmaaGreatDoor

/- '==' and '!=' of structs. -/
set_option linter.unusedVariables false
namespace Go.Proofs.YtaghiefokmapmaaGreatDoor
open Go.RowKit

theorem pc_under : Tryz.prog.underlying 90 = some (.struct (Tryz.prog.fieldsOf 90)) := by kernel_rfl
theorem pc_held : Tryz.prog.stoodInHeld 90 = false := by kernel_rfl
theorem pc_guard : Tryz.prog.eqGuardType Tryz.prog.depth 90 = false := by kernel_rfl
theorem eq_pc (w : World) (a0 b0 : Int) (a1 b1 : ByteArray) : (Op.equalIn 10000 90 (.agg #[.int .i64 a0, .string a1]) (.agg #[.int .i64 b0, .string b1])).run Tryz.prog w = .ok ((a0 == b0) && (a1.toList == b1.toList)) w := by
  rw [run_equalIn_agg w 9999 _ _ _ pc_under pc_held]
  unfold Program.fieldsOf
  simp [Tryz.underlying90, Op.eqFields, go_sem]
  by_cases h0 : a0 = b0 <;> by_cases h1 : a1.toList = b1.toList <;> simp [h0, h1]
theorem vr_under : Tryz.prog.underlying 102 = some (.struct (Tryz.prog.fieldsOf 102)) := by kernel_rfl
theorem vr_held : Tryz.prog.stoodInHeld 102 = false := by kernel_rfl
theorem vr_guard : Tryz.prog.eqGuardType Tryz.prog.depth 102 = false := by kernel_rfl
theorem eq_vr (w : World) (a0 b0 : Int) (a1 b1 : Int) (a2 b2 : ByteArray) : (Op.equalIn 10000 102 (.agg #[.int .i64 a0, .int .i64 a1, .string a2]) (.agg #[.int .i64 b0, .int .i64 b1, .string b2])).run Tryz.prog w = .ok ((a0 == b0) && ((a1 == b1) && (a2.toList == b2.toList))) w := by
  rw [run_equalIn_agg w 9999 _ _ _ vr_under vr_held]
  unfold Program.fieldsOf
  simp [Tryz.underlying102, Op.eqFields, go_sem]
  by_cases h0 : a0 = b0 <;> by_cases h1 : a1 = b1 <;> by_cases h2 : a2.toList = b2.toList <;> simp [h0, h1, h2]
end Go.Proofs.YtaghiefokmapmaaGreatDoor

/- Versions and tags, walked. -/
set_option linter.unusedVariables false
namespace Go.Proofs.YtaghiefokmapmaaGreatDoor
open Go.RowKit

def FitV (l : List Vr) : Prop := ∀ v ∈ l, v.2.2.size ≤ 16777216
theorem FitV.at {l : List Vr} (h : FitV l) {k : Nat} (hk : k < l.length) : l[k].2.2.size ≤ 16777216 := h _ (by simp)
theorem verAt_no {k : Nat} {v : Vr} (h : pv v.1 = false ∨ v.2.1 < -1 ∨ (k : Int) ≤ v.2.1 ∨ wordV (bs v.2.2) = false) : verAt k v = false := by
  cases hv : verAt k v
  · rfl
  · obtain ⟨h1, h2, h3, h4⟩ := verAt_iff.1 hv
    rcases h with h | h | h | h
    · rw [h] at h1; cases h1
    · omega
    · omega
    · rw [h] at h4; cases h4
theorem versV_bad {l : List Vr} {k : Nat} (hk : k < l.length) (h : verAt k l[k] = false) : versV l = false := by
  unfold versV; rw [versFrom_bad hk h, Bool.and_false]
theorem versV_long {l : List Vr} (h : ¬ l.length ≤ 12) : versV l = false := by unfold versV; rw [decide_eq_false h]; rfl
theorem versV_good {l : List Vr} {k : Nat} (hk : ¬ k < l.length) (h : versFrom 0 (l.take k) = true) (hl : l.length ≤ 12) : versV l = true := by
  unfold versV; rw [versFrom_all hk h, decide_eq_true hl]; rfl

set_option maxHeartbeats 4000000 in
set_option maxRecDepth 100000 in
theorem iVersionsValid_any (A : Option Addr) (c : Nat) (l : List Vr) (w : World) (hs : Sl w encV 3 A l) (hl : l.length ≤ 16777216) (hf : FitV l) :
    Calls Tryz.prog 103 #[.slice A l.length c] w fun e w' => e = .returned (.bool (versV l)) ∧ Below w.heap.size w w' := by
  have HS := Lib.hid hs
  have HF := Lib.hid hf
  clear hs hf
  by_cases h12 : l.length ≤ 12
  case neg =>
    rw [versV_long h12]
    go_enter Tryz.func103, Tryz.ntmps103
    go_wp2
    go_ret
    exact ⟨rfl, Below.refl _ _⟩
  go_enter Tryz.func103, Tryz.ntmps103
  go_wp2
  go_loopw [10] (fun i wr => ∃ (k : Nat), k ≤ l.length ∧ i = .int .i64 k ∧ Hid (versFrom 0 (l.take k) = true) ∧ Hid (Below w.heap.size w wr)) (fun i _ => l.length - (intOf i).toNat)
  case atStart => exact ⟨0, Nat.zero_le _, rfl, rfl, Below.refl _ _⟩
  case round =>
    obtain ⟨k, hk, rfl, hh, HB⟩ := hrel
    by_cases hlt : k < l.length
    · obtain ⟨b, o, rfl, hc0, hc1, hc2⟩ := (HS.out.below HB.out).getV hlt
      have hfk := HF.out.at hlt
      have HBAD := Lib.hid (@versV_bad l k hlt)
      have hnx := versFrom_take hlt
      rw [hh.out, Bool.true_and] at hnx
      have HNX := Lib.hid hnx
      clear hnx
      have HB2 := Lib.hid (HB.out.alloc HB.out.size (.cells #[.int .i64 l[k].1, .int .i64 l[k].2.1, .string l[k].2.2] 102))
      generalize l[k] = v at *
      cases h1 : pv v.1
      · have HE := Lib.hid (HBAD.out (verAt_no (.inl h1)))
        go_wp2_with (go_at_call 130; refine (iprintValid_any _ _).mono ?_; rintro e w' ⟨rfl, rfl⟩)
        go_ret
        exact ⟨ret_bool HE.out.symm, HB2.out⟩
      · by_cases h2 : v.2.1 < -1
        · have HE := Lib.hid (HBAD.out (verAt_no (.inr (.inl h2))))
          go_wp2_with (go_at_call 130; refine (iprintValid_any _ _).mono ?_; rintro e w' ⟨rfl, rfl⟩)
          go_ret
          exact ⟨ret_bool HE.out.symm, HB2.out⟩
        · by_cases h3 : (k : Int) ≤ v.2.1
          · have HE := Lib.hid (HBAD.out (verAt_no (.inr (.inr (.inl h3)))))
            go_wp2_with (go_at_call 130; refine (iprintValid_any _ _).mono ?_; rintro e w' ⟨rfl, rfl⟩)
            go_ret
            exact ⟨ret_bool HE.out.symm, HB2.out⟩
          · cases h4 : wordV (bs v.2.2)
            · have HE := Lib.hid (HBAD.out (verAt_no (.inr (.inr (.inr h4)))))
              go_wp2_with (first | (go_at_call 130; refine (iprintValid_any _ _).mono ?_; rintro e w' ⟨rfl, rfl⟩) | (go_at_call 102; refine (iWordValid_any _ _ hfk).mono ?_; rintro e w' ⟨rfl, rfl⟩))
              go_ret
              exact ⟨ret_bool HE.out.symm, HB2.out⟩
            · have HE := Lib.hid (HNX.out.trans (verAt_iff.2 ⟨h1, by omega, by omega, h4⟩))
              go_wp2_with (first | (go_at_call 130; refine (iprintValid_any _ _).mono ?_; rintro e w' ⟨rfl, rfl⟩) | (go_at_call 102; refine (iWordValid_any _ _ hfk).mono ?_; rintro e w' ⟨rfl, rfl⟩))
              go_roundw
              case rel => exact ⟨k + 1, by omega, by go_num, HE.out, HB2.out⟩
              case measure => simp [intOf]; omega
    · have HE := Lib.hid (versV_good hlt hh.out h12)
      go_wp2
      go_ret
      exact ⟨ret_bool HE.out.symm, HB.out⟩
set_option maxHeartbeats 4000000 in
set_option maxRecDepth 100000 in
theorem sVersionsValid_any (A : Option Addr) (c : Nat) (l : List Vr) (w : World) (hs : Sl w encV 3 A l) (hl : l.length ≤ 16777216) (hf : FitV l) :
    Calls Tryz.prog 136 #[.slice A l.length c] w fun e w' => e = .returned (.bool (versV l)) ∧ w = w' := by
  have HS := Lib.hid hs
  have HF := Lib.hid hf
  clear hs hf
  go_enter Tryz.func136, Tryz.ntmps136
  go_wp2
  go_loop [3] (fun i => ∃ (k : Nat), k ≤ l.length ∧ i = .int .i64 k ∧ Hid (versFrom 0 (l.take k) = true)) (fun i => l.length - (intOf i).toNat)
  case atStart => exact ⟨0, Nat.zero_le _, rfl, rfl⟩
  case round =>
    obtain ⟨k, hk, rfl, hh⟩ := hrel
    by_cases hlt : k < l.length
    · obtain ⟨b, o, rfl, hc0, hc1, hc2⟩ := HS.out.getV hlt
      have hfk := HF.out.at hlt
      have HBAD := Lib.hid (@versV_bad l k hlt)
      have hnx := versFrom_take hlt
      rw [hh.out, Bool.true_and] at hnx
      have HNX := Lib.hid hnx
      clear hnx
      generalize l[k] = v at *
      cases h1 : inI v.1 0 16777212
      · have HE := Lib.hid (HBAD.out (verAt_no (.inl h1)))
        go_wp2_with (go_at_call 83; refine (sl1In_any _ _ _ _).mono ?_; rintro e w' ⟨rfl, rfl⟩)
        go_ret
        exact ⟨ret_bool HE.out.symm, rfl⟩
      · cases h2 : inI v.2.1 (-1) ((k : Int) - 1)
        · have HE := Lib.hid (HBAD.out (verAt_no (by simp only [inI, decide_eq_false_iff_not] at h2; by_cases h : v.2.1 < -1; exact .inr (.inl h); exact .inr (.inr (.inl (by omega))))))
          go_wp2_with (go_at_call 83; refine (sl1In_any _ _ _ _).mono ?_; rintro e w' ⟨rfl, rfl⟩)
          go_ret
          exact ⟨ret_bool HE.out.symm, rfl⟩
        · cases h4 : wordV (bs v.2.2)
          · have HE := Lib.hid (HBAD.out (verAt_no (.inr (.inr (.inr h4)))))
            go_wp2_with (first | (go_at_call 83; refine (sl1In_any _ _ _ _).mono ?_; rintro e w' ⟨rfl, rfl⟩) | (go_at_call 175; refine (sWordValid_any _ _ hfk).mono ?_; rintro e w' ⟨rfl, rfl⟩))
            go_ret
            exact ⟨ret_bool HE.out.symm, rfl⟩
          · have h22 : -1 ≤ v.2.1 ∧ v.2.1 ≤ (k : Int) - 1 := by simpa [inI] using h2
            have HE := Lib.hid (HNX.out.trans (verAt_iff.2 ⟨h1, by omega, by omega, h4⟩))
            clear h22
            go_wp2_with (first | (go_at_call 83; refine (sl1In_any _ _ _ _).mono ?_; rintro e w' ⟨rfl, rfl⟩) | (go_at_call 175; refine (sWordValid_any _ _ hfk).mono ?_; rintro e w' ⟨rfl, rfl⟩))
            go_round
            case rel => exact ⟨k + 1, by omega, by go_num, HE.out⟩
            case measure => simp [intOf]; omega
    · by_cases h12 : l.length ≤ 12
      · have HE := Lib.hid (versV_good hlt hh.out h12)
        go_wp2
        go_ret
        exact ⟨ret_bool (by rw [HE.out]; simp; omega), rfl⟩
      · have HE := Lib.hid (versV_long h12)
        go_wp2
        go_ret
        exact ⟨ret_bool (by rw [HE.out]; simp; omega), rfl⟩

/-! ### prints of lists -/
def prFold (l : List Int) (k : Nat) : Int := (l.take k).foldl prPair 5
theorem prFold_succ {l : List Int} {k : Nat} (h : k < l.length) : prFold l (k + 1) = prPair (prFold l k) l[k] := by
  unfold prFold; rw [List.take_succ_eq_append_getElem h, List.foldl_append]; rfl
theorem prFold_pv {l : List Int} (h : l.all pv = true) : ∀ k, k ≤ l.length → pv (prFold l k) = true
  | 0, _ => (by show pv 5 = true; decide)
  | k + 1, hk => by rw [prFold_succ (by omega)]; exact prPair_pv (prFold_pv h k (by omega)) (List.all_eq_true.1 h _ (by simp))
theorem prList_ok {l : List Int} (hl : l.length ≤ 20) (h : l.all pv = true) {k : Nat} (hk : ¬ k < l.length) : prList l = prFold l k := by
  unfold prList prFold; rw [if_pos ⟨hl, h⟩, List.take_of_length_le (by omega)]
theorem prList_bad {l : List Int} (h : ¬ l.length ≤ 20 ∨ l.all pv = false) : prList l = -1 := by
  unfold prList; rw [if_neg]; rintro ⟨h1, h2⟩; rcases h with h | h
  · exact h h1
  · rw [h] at h2; cases h2
/-! ### tags -/
def zeroT : Tg := (⟨#[]⟩, 0, 0, 0)
def mkT (l : List Vr) (name : ByteArray) (n : Int) : Tg := (makeTag l name n).getD zeroT
def mkOk (l : List Vr) (name : ByteArray) (n : Int) : Bool := (makeTag l name n).isSome
abbrev tgV (t : Tg) : Value := .agg #[.string t.1, .int .i64 t.2.1, .int .i64 t.2.2.1, .int .i64 t.2.2.2]
def MkR (l : List Vr) (name : ByteArray) (n : Int) (w : World) (e : Ending) (w' : World) : Prop :=
  e = .returned (.tuple #[tgV (mkT l name n), .bool (mkOk l name n)]) ∧ Below w.heap.size w w'
theorem MkR.no {l : List Vr} {name : ByteArray} {n : Int} (h : wordV (bs name) = false ∨ versV l = false ∨ n < 0 ∨ (l.length : Int) ≤ n) {w w' : World} (hb : Below w.heap.size w w') : MkR l name n w (.returned (.tuple #[.agg #[.string ⟨#[]⟩, .int .i64 0, .int .i64 0, .int .i64 0], .bool false])) w' := by
  have e := makeTag_none h
  exact ⟨by unfold mkT mkOk; rw [e]; rfl, hb⟩
theorem MkR.yes {l : List Vr} {name : ByteArray} {k : Nat} (hw : wordV (bs name) = true) (hv : versV l = true) (hk : k < l.length) {w w' : World} (hb : Below w.heap.size w w') : MkR l name k w (.returned (.tuple #[.agg #[.string name, .int .i64 (k : Int), .int .i64 l[k].1, .int .i64 (prList [prOf (bs name), (k : Int), l[k].1])], .bool true])) w' := by
  have e := makeTag_ok hw hv hk
  exact ⟨by unfold mkT mkOk; rw [e]; rfl, hb⟩
/-- The variable of a result that is a tag. -/
theorem tag_var {w w1 : World} {cs : Array Value} {E : TypeId} (hb : Below (w.alloc (.cells cs E)).heap.size (w.alloc (.cells cs E)) w1) : w1.heap[w.heap.size]? = some (.cells cs E (0, 0)) :=
  (hb.block _ (by simp)).trans (heap_alloc_new w _)

theorem Sl.new3 {w : World} {a b c : Int} {E : TypeId} : Sl (w.alloc (.cells #[.int .i64 a, .int .i64 b, .int .i64 c] E)) encI 1 (some ⟨w.heap.size, 0, none⟩) [a, b, c] := by
  intro _
  refine ⟨w.heap.size, 0, rfl, fun j u hu => ?_⟩
  rw [cell_of_row _ _ _ _ E (0, 0) (heap_alloc_new w _)]
  simpa [flat, encI] using hu
end Go.Proofs.YtaghiefokmapmaaGreatDoor

/- Repaired pieces, and free names, in plain Lean. -/
set_option linter.unusedVariables false
namespace Go.Proofs.YtaghiefokmapmaaGreatDoor
--BEGIN
def goodCopy (p : Int) (copies : List Pc) : Option Pc := copies.find? fun c => c.1 == p && pieceR c
/-- A piece, repaired; and how many were (0, 1). -/
def repair1 (copies : List Pc) (p : Pc) : Pc × Int := if pieceR p then (p, 0) else match goodCopy p.1 copies with | some c => (c, 1) | none => (p, 0)
def repairs (copies : List Pc) (l : List Pc) : List Pc := l.map fun p => (repair1 copies p).1
def many (copies : List Pc) : List Pc → Int
  | [] => 0
  | p :: r => (repair1 copies p).2 + many copies r
def damaged (l : List Pc) : List Int := (l.filter fun p => !pieceR p).map (·.1)
theorem many_append (copies : List Pc) : ∀ a b : List Pc, many copies (a ++ b) = many copies a + many copies b
  | [], b => by simp [many]
  | p :: r, b => by rw [List.cons_append, many, many, many_append copies r b]; omega
theorem many_take {copies l : List Pc} {k : Nat} (h : k < l.length) : many copies (l.take (k + 1)) = many copies (l.take k) + (repair1 copies l[k]).2 := by
  rw [List.take_succ_eq_append_getElem h, many_append]; simp [many]
theorem repair1_bd (copies : List Pc) (p : Pc) : 0 ≤ (repair1 copies p).2 ∧ (repair1 copies p).2 ≤ 1 := by
  unfold repair1; split
  · simp
  · split <;> simp
theorem many_bd (copies : List Pc) : ∀ l : List Pc, 0 ≤ many copies l ∧ many copies l ≤ l.length
  | [] => by simp [many]
  | p :: r => by
    have := many_bd copies r
    have := repair1_bd copies p
    rw [many, List.length_cons]; omega
theorem goodCopy_some {p : Int} {copies : List Pc} {c : Pc} (h : goodCopy p copies = some c) : c.1 = p ∧ pieceR c = true := by
  have := List.find?_some h
  simp only [Bool.and_eq_true, beq_iff_eq] at this
  exact this
theorem repair1_print (copies : List Pc) (p : Pc) : (repair1 copies p).1.1 = p.1 := by
  unfold repair1; split
  · rfl
  · split
    · rename_i c h; exact (goodCopy_some h).1
    · rfl
theorem repair1_right {copies : List Pc} {p : Pc} (h : pieceR p = true) : repair1 copies p = (p, 0) := by unfold repair1; rw [if_pos h]
theorem damaged_many (copies : List Pc) : ∀ l : List Pc, ((damaged (repairs copies l)).length : Int) + many copies l = (damaged l).length
  | [] => rfl
  | p :: r => by
    have ih := damaged_many copies r
    have e : repairs copies (p :: r) = (repair1 copies p).1 :: repairs copies r := rfl
    rw [e, many]
    unfold damaged at ih ⊢
    cases hp : pieceR p
    · cases hg : goodCopy p.1 copies with
      | none =>
        have e1 : repair1 copies p = (p, 0) := by unfold repair1; rw [if_neg (by simp [hp]), hg]
        rw [e1]
        simp only [List.filter_cons, hp, Bool.not_false, if_true, List.map_cons, List.length_cons]
        omega
      | some c =>
        have e1 : repair1 copies p = (c, 1) := by unfold repair1; rw [if_neg (by simp [hp]), hg]
        rw [e1]
        have hc := (goodCopy_some hg).2
        simp only [List.filter_cons, hp, hc, Bool.not_false, Bool.not_true, if_true, List.map_cons, List.length_cons]
        simp
        simp at ih
        omega
    · rw [repair1_right hp]
      simp only [List.filter_cons, hp, Bool.not_true]
      simp at ih ⊢
      omega
theorem damaged_len (l : List Pc) : (damaged l).length ≤ l.length := by
  unfold damaged; rw [List.length_map]; exact List.length_filter_le _ _
theorem damaged_take {l : List Pc} {k : Nat} (h : k < l.length) : damaged (l.take (k + 1)) = damaged (l.take k) ++ if pieceR l[k] then [] else [l[k].1] := by
  unfold damaged
  rw [List.take_succ_eq_append_getElem h, List.filter_append, List.map_append]
  congr 1
  cases hp : pieceR l[k] <;> simp [hp]
--END
end Go.Proofs.YtaghiefokmapmaaGreatDoor

/- Damaged pieces, walked. -/
set_option linter.unusedVariables false
namespace Go.Proofs.YtaghiefokmapmaaGreatDoor
open Go.RowKit

def FitP (l : List Pc) : Prop := ∀ p ∈ l, p.2.size ≤ 16777216
theorem FitP.at {l : List Pc} (h : FitP l) {k : Nat} (hk : k < l.length) : l[k].2.size ≤ 16777216 := h _ (by simp)

end Go.Proofs.YtaghiefokmapmaaGreatDoor

/- Tags: copies, sizes, comparisons and marks of their slices, as laws make them. Written by structgen.py. -/
set_option linter.unusedVariables false
namespace Go.Proofs.YtaghiefokmapmaaGreatDoor
open Go.RowKit

def markTagL (k n : Nat) : List Tg := (List.range n).map fun j => (mk (markT (k + 4 * j + 0)), ((k + 4 * j + 1 : Nat) : Int), ((k + 4 * j + 2 : Nat) : Int), ((k + 4 * j + 3 : Nat) : Int))
theorem markTagL_len (k n : Nat) : (markTagL k n).length = n := by simp [markTagL]
theorem markTagL_succ (k n : Nat) : markTagL k (n + 1) = markTagL k n ++ [(mk (markT (k + 4 * n + 0)), ((k + 4 * n + 1 : Nat) : Int), ((k + 4 * n + 2 : Nat) : Int), ((k + 4 * n + 3 : Nat) : Int))] := by simp [markTagL, List.range_succ]
theorem markTagL_at {k n j : Nat} (h : j < n) : (markTagL k n)[j]'(by rw [markTagL_len]; exact h) = (mk (markT (k + 4 * j + 0)), ((k + 4 * j + 1 : Nat) : Int), ((k + 4 * j + 2 : Nat) : Int), ((k + 4 * j + 3 : Nat) : Int)) := by simp [markTagL]
/-- What is told of a slice of such structs that came in. -/
def TagsIn (w : World) (A : Option Addr) (n c : Nat) : Prop := ∃ l : List Tg, l.length = n ∧ n ≤ c ∧ c ≤ maxLen ∧ Sl w encT 4 A l ∧ ∀ p ∈ l, p.1.size ≤ maxLen
end Go.Proofs.YtaghiefokmapmaaGreatDoor

/- Tags, walked: right ones. -/
set_option linter.unusedVariables false
namespace Go.Proofs.YtaghiefokmapmaaGreatDoor
open Go.RowKit

theorem bytes_ext {a b : ByteArray} (h : (a.toList == b.toList) = true) : a = b := by
  have h2 := beq_iff_eq.1 h
  rw [ByteArray.toList_eq, ByteArray.toList_eq] at h2
  obtain ⟨⟨x⟩⟩ := a
  obtain ⟨⟨y⟩⟩ := b
  simp at h2; subst h2; rfl
def eqT (a b : Tg) : Bool := (a.1.toList == b.1.toList) && ((a.2.1 == b.2.1) && ((a.2.2.1 == b.2.2.1) && (a.2.2.2 == b.2.2.2)))
theorem eqT_iff {a b : Tg} : eqT a b = true ↔ a = b := by
  unfold eqT
  constructor
  · intro h
    simp only [Bool.and_eq_true, beq_iff_eq] at h
    obtain ⟨h1, h2, h3, h4⟩ := h
    obtain ⟨a1, a2, a3, a4⟩ := a
    obtain ⟨b1, b2, b3, b4⟩ := b
    simp only at h1 h2 h3 h4
    have := bytes_ext (beq_iff_eq.2 h1)
    subst this h2 h3 h4; rfl
  · rintro rfl; simp
theorem tagR_ok {l : List Vr} {t : Tg} (h : mkOk l t.1 t.2.1 = true) : tagR l t = eqT (mkT l t.1 t.2.1) t := by
  unfold mkOk at h
  cases hm : makeTag l t.1 t.2.1 with
  | none => rw [hm] at h; cases h
  | some m =>
    have e : mkT l t.1 t.2.1 = m := by unfold mkT; rw [hm]; rfl
    rw [e, Bool.eq_iff_iff, eqT_iff, tagR_iff, hm]
    exact ⟨fun h => Option.some.inj h, fun h => congrArg some h⟩
theorem tagR_no {l : List Vr} {t : Tg} (h : mkOk l t.1 t.2.1 = false) : tagR l t = false := by
  unfold mkOk at h
  cases hm : makeTag l t.1 t.2.1 with
  | none =>
    cases ht : tagR l t
    · rfl
    · rw [tagR_iff.1 ht] at hm; cases hm
  | some m => rw [hm] at h; cases h
theorem rightTags_take_yes {l : List Vr} {ts : List Tg} {k : Nat} (h : k < ts.length) (hp : tagR l ts[k] = true) : rightTags l (ts.take (k + 1)) = rightTags l (ts.take k) ++ [ts[k]] := filter_take_yes h hp
theorem rightTags_take_no {l : List Vr} {ts : List Tg} {k : Nat} (h : k < ts.length) (hp : tagR l ts[k] = false) : rightTags l (ts.take (k + 1)) = rightTags l (ts.take k) := filter_take_no h hp
def FitT (l : List Tg) : Prop := ∀ t ∈ l, t.1.size ≤ 16777216
theorem FitT.at {l : List Tg} (h : FitT l) {k : Nat} (hk : k < l.length) : l[k].1.size ≤ 16777216 := h _ (by simp)
section
variable {ops : Array Oper} {rest : List Oper} {o : Oper} {a : Act} {Q : Exit → Act → World → Prop} {w0 wr : World} {v : Value}
end
theorem rightTags_len (l : List Vr) (ts : List Tg) : (rightTags l ts).length ≤ ts.length := List.length_filter_le _ _
end Go.Proofs.YtaghiefokmapmaaGreatDoor

/- More words for memory: 'append' of one element inside a region that draws its order. -/
set_option linter.unusedVariables false
namespace Go.Proofs.YtaghiefokmapmaaGreatDoor
open Go.RowKit
theorem step_app1 {P : Program} {α : Type} {enc : α → List Value} {ops : Array Oper} {o : Oper} {a : Act} {K : Act → World → Prop} {Q : Exit → Act → World → Prop} {E' : Prop} {w0 W : World} {B base size bytes g : Nat} {t E : TypeId} {i : TypeInfo} {z : Value} {v : Value} {l : List α}
    (ht : P.underlying t = some (.slice E)) (hi : P.info? E = some i) (hz : i.zero = some z) (hsize : i.size = size) (hby : i.bytes = bytes) (hzs : z.cells.size = size) (hsz : 0 < size) (hb200 : bytes ≤ 256)
    (hgd : o.guard = none) (s x : Operand) (ho : o.op = .call { callee := .builtin .append, args := #[s, x], argTypes := #[t, t] })
    (hs : a.eval s = v) (hx : a.eval x = .slice (some ⟨g, 0, none⟩) 1 1)
    (hown : Own W base E size enc v l) (hb : Below B w0 W) (hB : B ≤ base) (hbase : base ≤ W.heap.size) (hn : l.length ≤ 16777216) (y : α) (hcell : ∀ j u, (enc y)[j]? = some u → W.cell? ⟨g, j, none⟩ = some u) (hce : (enc y).length = size) (h1 : ∀ u ∈ enc y, u.oneCell' = true)
    (h : ∀ v' w', Own w' base E size enc v' (l ++ [y]) → Below B w0 w' → K (a.put o.dst v') w') :
    if Region.wanted o (yielded ops a.tmps) = true then Oper.wp P o a W K Q else E' := by
  have hw : Region.wanted o (yielded ops a.tmps) = true := by simp [Region.wanted, hgd]
  rw [if_pos hw]
  refine wp_append_own W s x t ho base E i z size bytes ht hi hz hsize hby hzs hsz v l.length (flat enc l) hs hown ⟨g, 0, none⟩ 1 1 (enc y) hx (by rw [hce, Nat.one_mul]) ?_ h1 ?_ ?_ hbase ?_
  · intro j u hu
    have hadd : (⟨g, 0, none⟩ : Addr).add j = ⟨g, j, none⟩ := by unfold Addr.add; split <;> simp_all
    rw [hadd]; exact hcell j u hu
  · unfold maxLen; omega
  · have := Nat.mul_le_mul_left (l.length + 1) hb200; omega
  · intro v' w' hown' hg _
    refine h v' w' ?_ (hb.grown hg (Nat.le_trans hB hbase) (fun k hk => Nat.le_trans hB (World.ownsRow.lt hown k hk).1))
    show w'.ownsRow base E size v' (l ++ [y]).length (flat enc (l ++ [y]))
    rw [flat_snoc, List.length_append]; exact hown'
section
variable {ops : Array Oper} {o : Oper} {a : Act} {K : Act → World → Prop} {Q : Exit → Act → World → Prop} {E' : Prop} {w0 W : World} {v : Value}
theorem step_int {g : Nat} {l : List Int} {y : Int} {s x : Operand} (hgd : o.guard = none) (ho : o.op = .call { callee := .builtin .append, args := #[s, x], argTypes := #[164, 164] })
    (hs : a.eval s = v) (hx : a.eval x = .slice (some ⟨g, 0, none⟩) 1 1)
    (hown : Own W w0.heap.size 3 1 encI v l) (hb : Below w0.heap.size w0 W) (hn : l.length ≤ 16777216) (hc : W.cell? ⟨g, 0, none⟩ = some (.int .i64 y))
    (h : ∀ v' w', Own w' w0.heap.size 3 1 encI v' (l ++ [y]) → Below w0.heap.size w0 w' → K (a.put o.dst v') w') :
    if Region.wanted o (yielded ops a.tmps) = true then Oper.wp Tryz.prog o a W K Q else E' := by
  obtain ⟨i0, hi0, hz0, hz1, hz2⟩ := info_parts int_info
  exact step_app1 Tryz.underlying164 hi0 hz0 hz1 hz2 rfl (by decide) (by decide) hgd s x ho hs hx hown hb (Nat.le_refl _) hb.size hn y (by
    intro j u hu
    have hj : j = 0 := by have := (List.getElem?_eq_some_iff.1 hu).1; simp [encI] at this; omega
    subst hj; simp [encI] at hu; rw [← hu]; exact hc) rfl (by intro u hu; simp [encI] at hu; subst hu; rfl) h
end
end Go.Proofs.YtaghiefokmapmaaGreatDoor

/- Drawn inputs: prints, filters. -/
set_option linter.unusedVariables false
namespace Go.Proofs.YtaghiefokmapmaaGreatDoor
open Go.RowKit

def IntIn (lo hi : Int) (v : Value) : Prop := ∃ n : Int, v = .int .i64 n ∧ lo ≤ n ∧ n ≤ hi
theorem three_cells {a b c : Int} (ha : 0 ≤ a ∧ a ≤ 16777212) (hb : 0 ≤ b ∧ b ≤ 16777212) (hc : 0 ≤ c ∧ c ≤ 16777212) (m : Nat) (hm : m < 3) :
    ∃ u : Int, (#[Value.int .i64 a, .int .i64 b, .int .i64 c] : Array Value)[m]? = some (.int .i64 u) ∧ 0 ≤ u ∧ u ≤ 16777212 := by
  match m, hm with
  | 0, _ => exact ⟨a, rfl, ha⟩
  | 1, _ => exact ⟨b, rfl, hb⟩
  | 2, _ => exact ⟨c, rfl, hc⟩

/-- What 'odd(n)' may answer. -/
def OddQ (Q : Bool → Prop) (n : Int) (g p : Nat) : Prop :=
  ∀ W, Rdr W g p → Calls Tryz.prog 132 #[.pointer (some ⟨g, 0, none⟩), .int .i64 n] W fun e w' => ∃ (x : Bool) (p1 : Nat), e = .returned (.bool x) ∧ Q x ∧ Only g W w' ∧ Rdr w' g p1 ∧ p1 ≤ p + 1
theorem oddq_any (n : Int) (g p : Nat) (hp : p ≤ 1000000000) (hn : n ≤ 1000000000) : OddQ (fun _ => True) n g p := fun W hr =>
  (odd_any n g p W hr hp hn).mono fun e w' ⟨x, p', h1, h2, h3, h4⟩ => ⟨x, p', h1, trivial, h2, h3, h4⟩
theorem oddq_zero (g p : Nat) (hp : p ≤ 1000000000) : OddQ (fun x => x = false) 0 g p := fun W hr =>
  (odd0_any g p W hr hp).mono fun e w' ⟨h1, h2⟩ => ⟨false, p, h1, rfl, by rw [← h2]; exact Only.refl _ _, by rw [← h2]; exact hr, by omega⟩

set_option maxHeartbeats 2000000 in
set_option maxRecDepth 100000 in
theorem l20Print_q (Q : Bool → Prop) (n : Int) (g p : Nat) (w : World) (hr : Rdr w g p) (hp : p ≤ 900000000) (hodd : OddQ Q n g p) :
    Calls Tryz.prog 167 #[.pointer (some ⟨g, 0, none⟩), .int .i64 n] w (Drew (fun v => ∃ x, Q x ∧ if x then IntIn (-1) 16777213 v else IntIn 0 16777212 v) 4 w g p) := by
  have HR := Lib.hid hr
  have HO := Lib.hid hodd
  clear hr hodd
  go_enter Tryz.func167, Tryz.ntmps167
  go_wp2_with fail
  refine (HO.out _ HR.out).mono ?_
  rintro e w1 ⟨x, p1, rfl, hq, ho1, hr1, hp1⟩
  have HQ := Lib.hid hq
  clear hq
  have HR1 := Lib.hid hr1
  have HO1 := Lib.hid ho1
  clear hr1 ho1
  cases x
  · go_wp2_with fail
    refine (pick_any _ _ _ _ HR1.out (by omega) (by omega)).mono ?_
    rintro e w2 ⟨a, rfl, ha, ho2, hr2⟩
    have HR2 := Lib.hid hr2
    have HO2 := Lib.hid ho2
    have ha' : (a : Int) ≤ 99 := by omega
    clear hr2 ho2 ha
    go_wp2_with fail
    refine (pick_any _ _ _ _ HR2.out (by omega) (by omega)).mono ?_
    rintro e w3 ⟨b, rfl, hb, ho3, hr3⟩
    have HR3 := Lib.hid hr3
    have HO3 := Lib.hid ho3
    have hb' : (b : Int) ≤ 255 := by omega
    clear hr3 ho3 hb
    go_wp2_with fail
    refine (pick_int 7 0 2 (HR3.out.alloc _) (by omega) rfl (by omega) (by omega) (by decide)).mono ?_
    rintro e w4 ⟨y, m, rfl, hy, hc, hm0, hm1, ho4, hr4⟩
    obtain ⟨m, rfl⟩ := Int.eq_ofNat_of_zero_le hm0
    have hg3 := HR3.out.lt
    obtain ⟨u, hu, hu0, hu1⟩ := three_cells (a := (a : Int)) (b := (b : Int) * 65000) (c := 16777212) (by omega) (by omega) (by omega) m (by omega)
    have hcu := lit_cell ho4 hg3 hu
    have hc2 : w4.cell? ⟨w3.heap.size + 1, y, none⟩ = some (.int .i64 (m : Int)) := by simpa using hc
    have HR4 := Lib.hid hr4
    have HO4 := Lib.hid (((Only.of_below ((Below.refl _ _).alloc (Nat.le_refl w3.heap.size) _)).trans ho4))
    clear hr4 ho4 hc hu
    go_wp2_with fail
    go_ret
    exact ⟨_, _, rfl, ⟨_, HQ.out, _, rfl, hu0, hu1⟩, HO1.out.trans (HO2.out.trans (HO3.out.trans HO4.out)), HR4.out, by omega⟩
  · go_wp2_with fail
    refine (pick_int 2 (-1) 16777213 HR1.out (by omega) rfl (by omega) (by omega) (by decide)).mono ?_
    rintro e w2 ⟨y, m, rfl, hy, hc, hm0, hm1, ho2, hr2⟩
    have HR2 := Lib.hid hr2
    have HO2 := Lib.hid ho2
    clear hr2 ho2
    go_wp2_with fail
    go_ret
    exact ⟨_, _, rfl, ⟨_, HQ.out, _, rfl, hm0, hm1⟩, HO1.out.trans HO2.out, HR2.out, by omega⟩

theorem IntIn.mono {a b c d : Int} {v : Value} (h : IntIn a b v) (h1 : c ≤ a) (h2 : b ≤ d) : IntIn c d v := by
  obtain ⟨n, e, x, y⟩ := h; exact ⟨n, e, by omega, by omega⟩
theorem Drew.imp {P P' : Value → Prop} {C g p : Nat} {w w' : World} {e : Ending} (h : Drew P C w g p e w') (hP : ∀ v, P v → P' v) : Drew P' C w g p e w' := by
  obtain ⟨v, p', h1, h2, h3⟩ := h; exact ⟨v, p', h1, hP v h2, h3⟩
theorem l20Print_any (n : Int) (g p : Nat) (w : World) (hr : Rdr w g p) (hp : p ≤ 900000000) (hn : n ≤ 1000000000) :
    Calls Tryz.prog 167 #[.pointer (some ⟨g, 0, none⟩), .int .i64 n] w (Drew (IntIn (-1) 16777213) 4 w g p) :=
  (l20Print_q _ n g p w hr hp (oddq_any n g p (by omega) hn)).mono fun e w' h => h.imp fun v ⟨x, _, hv⟩ => by
    cases x
    · exact IntIn.mono hv (by omega) (by omega)
    · exact hv
theorem l20Print_zero (g p : Nat) (w : World) (hr : Rdr w g p) (hp : p ≤ 900000000) :
    Calls Tryz.prog 167 #[.pointer (some ⟨g, 0, none⟩), .int .i64 0] w (Drew (IntIn 0 16777212) 4 w g p) :=
  (l20Print_q _ 0 g p w hr hp (oddq_zero g p (by omega))).mono fun e w' h => h.imp fun v ⟨x, hx, hv⟩ => by
    subst hx; exact hv

/-- A drawn slice in new memory: its elements, at most M of them, meet P. -/
def DrewSl {α : Type} (E : TypeId) (size : Nat) (enc : α → List Value) (P : List α → Prop) (C : Nat) (w : World) (g p : Nat) (e : Ending) (w' : World) : Prop :=
  ∃ (v : Value) (l : List α) (p' : Nat), e = .returned v ∧ Own w' w.heap.size E size enc v l ∧ P l ∧ Only g w w' ∧ Rdr w' g p' ∧ p' ≤ p + C

/-- 'append' of one element onto a row, where the reader's block may have turned as well. -/
theorem app_int_only {ops : Array Oper} {rest : List Oper} {o : Oper} {a : Act} {Q : Exit → Act → World → Prop} {w0 wr : World} {v : Value} {g : Nat} {l : List Int} {y : Int} {s x : Operand} (hgd : o.guard = none) (ho : o.op = .call { callee := .builtin .append, args := #[s, x], argTypes := #[164, 164] })
    (hs : a.eval s = v) (hx : a.eval x = .slice (some ⟨wr.heap.size, 0, none⟩) 1 1)
    (hown : Own wr w0.heap.size 3 1 encI v l) (hb : Only g w0 wr) (hn : l.length ≤ 16777216)
    (h : ∀ v' w', Own w' w0.heap.size 3 1 encI v' (l ++ [y]) → Below w0.heap.size wr w' → wpList Tryz.prog ops Q rest (a.put o.dst v') w') :
    wpList Tryz.prog ops Q (o :: rest) a (wr.alloc (.cells #[.int .i64 y] 3)) := by
  obtain ⟨i0, hi0, hz0, hz1, hz2⟩ := info_parts int_info
  exact wpList_app1 Tryz.underlying164 hi0 hz0 hz1 hz2 rfl (by decide) (by decide) hgd s x ho hs hx hown (Below.refl w0.heap.size wr) (Nat.le_refl _) hb.size hn y _ rfl rfl (by intro u hu; simp [encI] at hu; subst hu; rfl) h
theorem Only.and_below {g : Nat} {w0 wr w' : World} (h : Only g w0 wr) (hb : Below w0.heap.size wr w') : Only g w0 w' :=
  ⟨hb.os.trans h.os, hb.tape.trans h.tape, hb.output.trans h.output, Nat.le_trans h.size hb.size, fun k hk hne => (hb.block k hk).trans (h.block k hk hne)⟩

/-! ### drawn prints -/
end Go.Proofs.YtaghiefokmapmaaGreatDoor

/- Drawn inputs: texts, pieces. -/
set_option linter.unusedVariables false
namespace Go.Proofs.YtaghiefokmapmaaGreatDoor
open Go.RowKit

theorem Only.frozen {g : Nat} {w w1 : World} (h : Only g w w1) {b o : Nat} (hb : b ≠ g) (hlt : b < w.heap.size) : w1.frozen? ⟨b, o, none⟩ = w.frozen? ⟨b, o, none⟩ :=
  World.frozen?_of_block (w := w) (h.block b hlt (by intro e; injection e; contradiction))
theorem Only.setNew {g : Nat} {w w1 : World} (h : Only g w w1) {p : Addr} (hp : w.heap.size ≤ p.block) (u : Value) : Only g w (w1.setCell p u) :=
  ⟨h.os, h.tape, h.output, by simpa [World.setCell] using h.size, fun k hk hne => (Below.heap_setCell _ _ _ _ (by omega)).trans (h.block k hk hne)⟩
theorem Rdr.setNew {w : World} {g p : Nat} (h : Rdr w g p) {q : Addr} (hq : g < q.block) (u : Value) : Rdr (w.setCell q u) g p :=
  h.under hq ((Below.refl _ _).setCell (Nat.le_refl _) u)
/-- A block of the call's own: what it holds, and that it is not frozen. -/
theorem new_cell {w : World} {cs : Array Value} {E : TypeId} {k : Nat} {u : Value} (hu : cs[k]? = some u) : (w.alloc (.cells cs E)).cell? ⟨w.heap.size, k, none⟩ = some u := by
  rw [cell_of_row _ _ k _ E (0, 0) (heap_alloc_new w _)]; exact hu
theorem new_free {w : World} {cs : Array Value} {E : TypeId} (k : Nat) : (w.alloc (.cells cs E)).frozen? ⟨w.heap.size, k, none⟩ = false := by
  have h := heap_alloc_new w (.cells cs E)
  unfold World.frozen?
  simp only [h]
  simp

/-- A drawn text: valid, and with another print than the one text that a law puts in its place. -/
def txB : Value → Bool | .string s => textV (bs s) && decide (s.size ≤ 60) && !(prOf (bs s) == prOf (bs ⟨#[113, 117, 105, 116, 101, 32, 111, 116, 104, 101, 114]⟩)) | _ => false
def Txt (v : Value) : Prop := ∃ s : ByteArray, v = .string s ∧ s.size ≤ 60 ∧ textV (bs s) = true ∧ prOf (bs s) ≠ prOf (bs ⟨#[113, 117, 105, 116, 101, 32, 111, 116, 104, 101, 114]⟩)
theorem txB_iff {v : Value} (h : txB v = true) : Txt v := by
  unfold txB at h; split at h
  · simp only [Bool.and_eq_true, decide_eq_true_eq, Bool.not_eq_true', beq_eq_false_iff_ne] at h
    exact ⟨_, rfl, h.1.2, h.1.1, h.2⟩
  · cases h
set_option maxHeartbeats 2000000 in
set_option maxRecDepth 100000 in
theorem l20Text_zero (g p : Nat) (w : World) (hr : Rdr w g p) (hp : p ≤ 900000000) :
    Calls Tryz.prog 160 #[.pointer (some ⟨g, 0, none⟩), .int .i64 0] w (Drew Txt 1 w g p) := by
  have HR := Lib.hid hr
  clear hr
  go_enter Tryz.func160, Tryz.ntmps160
  go_wp2_with fail
  refine (odd0_any _ _ _ HR.out (by omega)).mono ?_
  rintro e w' ⟨rfl, rfl⟩
  go_wp2_with fail
  refine (pick_lit 8 txB HR.out (by omega) rfl (by omega) (by omega) (by decide +kernel)).mono ?_
  rintro e w2 ⟨x, u, rfl, hx, hc, hu, ho2, hr2⟩
  obtain ⟨s, rfl, hs⟩ := txB_iff hu
  have HR2 := Lib.hid hr2
  have HO2 := Lib.hid ho2
  have HT := Lib.hid hs
  clear hr2 ho2 hs hu
  go_wp2_with fail
  go_ret
  exact ⟨_, _, rfl, ⟨_, rfl, HT.out⟩, HO2.out, HR2.out, by omega⟩

theorem flat3 {a0 a1 a2 : Int} {t0 t1 t2 : ByteArray} (x : Nat) (hx : x < 3) : ∃ (a : Int) (t : ByteArray), (#[Value.int .i64 a0, .string t0, .int .i64 a1, .string t1, .int .i64 a2, .string t2] : Array Value)[x * 2]? = some (.int .i64 a) ∧
    (#[Value.int .i64 a0, .string t0, .int .i64 a1, .string t1, .int .i64 a2, .string t2] : Array Value)[x * 2 + 1]? = some (.string t) ∧ (a = a0 ∨ a = a1 ∨ a = a2) ∧ (t = t0 ∨ t = t1 ∨ t = t2) := by
  match x, hx with
  | 0, _ => exact ⟨a0, t0, rfl, rfl, .inl rfl, .inl rfl⟩
  | 1, _ => exact ⟨a1, t1, rfl, rfl, .inr (.inl rfl), .inr (.inl rfl)⟩
  | 2, _ => exact ⟨a2, t2, rfl, rfl, .inr (.inr rfl), .inr (.inr rfl)⟩
def PcV (v : Value) : Prop := ∃ (a : Int) (t : ByteArray), v = .agg #[.int .i64 a, .string t] ∧ -1 ≤ a ∧ a ≤ 16777212 ∧ t.size ≤ 60
def DrawnPc (w : World) (e : Ending) (w' : World) : Prop := ∃ (a : Int) (t : ByteArray), e = .returned (.agg #[.int .i64 a, .string t]) ∧ -1 ≤ a ∧ a ≤ 16777212 ∧ t.size ≤ 60 ∧ Below w.heap.size w w'
end Go.Proofs.YtaghiefokmapmaaGreatDoor

/- Versions: append, a copy, one more. -/
set_option linter.unusedVariables false
namespace Go.Proofs.YtaghiefokmapmaaGreatDoor
open Go.RowKit

theorem step_appN {P : Program} {α : Type} {enc : α → List Value} {ops : Array Oper} {o : Oper} {a : Act} {K : Act → World → Prop} {Q : Exit → Act → World → Prop} {E' : Prop} {w0 wr : World} {B base size bytes : Nat} {t E : TypeId} {i : TypeInfo} {z : Value} {v : Value} {l m : List α} {A : Option Addr} {c : Nat}
    (ht : P.underlying t = some (.slice E)) (hi : P.info? E = some i) (hz : i.zero = some z) (hsize : i.size = size) (hby : i.bytes = bytes) (hzs : z.cells.size = size) (hsz : 0 < size) (hb200 : bytes ≤ 256)
    (hgd : o.guard = none) (s x : Operand) (ho : o.op = .call { callee := .builtin .append, args := #[s, x], argTypes := #[t, t] })
    (hown : Own wr base E size enc v l) (hb : Below B w0 wr) (hB : B ≤ base) (hbase : base ≤ wr.heap.size) (hn : l.length + m.length ≤ 33554432)
    (hsl : Sl wr enc size A m) (hcz : A = none → c = 0) (hce : ∀ y, (enc y).length = size) (h1 : ∀ y, ∀ u ∈ enc y, u.oneCell' = true)
    (hs : a.eval s = v) (hx : a.eval x = .slice A m.length c)
    (h : ∀ v' w', Own w' base E size enc v' (l ++ m) → Below B w0 w' → Grew v wr w' → K (a.put o.dst v') w') :
    if Region.wanted o (yielded ops a.tmps) = true then Oper.wp P o a wr K Q else E' := by
  have hw : Region.wanted o (yielded ops a.tmps) = true := by simp [Region.wanted, hgd]
  rw [if_pos hw]
  cases A with
  | none =>
    have hm : m = [] := by
      cases m with
      | nil => rfl
      | cons y r => obtain ⟨b, o, e, _⟩ := hsl (by simp); cases e
    subst hm
    rw [hcz rfl] at hx
    have hrun := run_append_owned_none (P := P) (w := wr) base t o.type E i size ht hi v l.length (flat enc l) hown
    have hK := h v wr (by rw [List.append_nil]; exact hown) hb (Grew.refl _ _)
    simp at hx
    unfold Oper.wp
    simp [execOp, ho, resolve, invoke, builtin, hs, hx, hrun, Result.andThen]
    exact hK
  | some ad =>
    refine wp_append_own wr s x t ho base E i z size bytes ht hi hz hsize hby hzs hsz v l.length (flat enc l) hs hown ad m.length c (flat enc m) hx (flat_length hce m) ?_ ?_ ?_ ?_ hbase ?_
    · intro j u hu
      have hpos : 0 < m.length := by
        have hlt := (List.getElem?_eq_some_iff.1 hu).1
        rw [flat_length hce] at hlt
        cases m with
        | nil => simp at hlt
        | cons y r => simp
      obtain ⟨b, o', e, hc⟩ := hsl hpos
      injection e with e
      subst e
      have hadd : (⟨b, o', none⟩ : Addr).add j = ⟨b, o' + j, none⟩ := by unfold Addr.add; split <;> simp_all
      rw [hadd]; exact hc j u hu
    · intro u hu
      unfold flat at hu
      obtain ⟨y, _, hy⟩ := List.mem_flatMap.1 hu
      exact h1 y u hy
    · unfold maxLen; omega
    · have := Nat.mul_le_mul_left (l.length + m.length) hb200; omega
    · intro v' w' hown' hg _
      refine h v' w' ?_ (hb.grown hg (Nat.le_trans hB hbase) (fun k hk => Nat.le_trans hB (World.ownsRow.lt hown k hk).1)) hg
      show w'.ownsRow base E size v' (l ++ m).length (flat enc (l ++ m))
      rw [flat_append, List.length_append]; exact hown'
theorem Grew.cell {v u : Value} {w w' : World} (h : Grew v w w') {b o : Nat} (hv : v.ownBlock ≠ some b) (hc : w.cell? ⟨b, o, none⟩ = some u) : w'.cell? ⟨b, o, none⟩ = some u := by
  rw [World.cell?_of_block (w := w) (h.block b (World.block_lt_of_cell? w _ hc) (fun e => hv e.symm))]; exact hc
theorem cell_alloc {u : Value} {w : World} {x : Obj} {a : Addr} (hc : w.cell? a = some u) : (w.alloc x).cell? a = some u :=
  (World.cell?_alloc_lt w x a (World.block_lt_of_cell? w _ hc)).trans hc
theorem keep3 {w w' : World} {x : Nat} {v0 v1 v2 : Value} (hb : Below w.heap.size w w') (h : w.cell? ⟨x, 0, none⟩ = some v0 ∧ w.cell? ⟨x, 1, none⟩ = some v1 ∧ w.cell? ⟨x, 2, none⟩ = some v2) :
    w'.cell? ⟨x, 0, none⟩ = some v0 ∧ w'.cell? ⟨x, 1, none⟩ = some v1 ∧ w'.cell? ⟨x, 2, none⟩ = some v2 :=
  ⟨Below_cells hb _ _ _ h.1, Below_cells hb _ _ _ h.2.1, Below_cells hb _ _ _ h.2.2⟩
section
variable {ops : Array Oper} {rest : List Oper} {o : Oper} {a : Act} {K : Act → World → Prop} {Q : Exit → Act → World → Prop} {E' : Prop} {w0 wr : World} {v : Value}
theorem app_vrN {l m : List Vr} {A : Option Addr} {c : Nat} {s x : Operand} (hgd : o.guard = none) (ho : o.op = .call { callee := .builtin .append, args := #[s, x], argTypes := #[43, 43] })
    (hown : Own wr w0.heap.size 102 3 encV v l) (hb : Below w0.heap.size w0 wr) (hn : l.length + m.length ≤ 33554432) (hsl : Sl wr encV 3 A m) (hcz : A = none → c = 0)
    (hs : a.eval s = v) (hx : a.eval x = .slice A m.length c)
    (h : ∀ v' w', Own w' w0.heap.size 102 3 encV v' (l ++ m) → Below w0.heap.size w0 w' → Grew v wr w' → wpList Tryz.prog ops Q rest (a.put o.dst v') w') : wpList Tryz.prog ops Q (o :: rest) a wr := by
  obtain ⟨i0, hi0, hz0, hz1, hz2⟩ := info_parts encV_info
  exact wpList_appN Tryz.underlying43 hi0 hz0 hz1 hz2 rfl (by decide) (by decide) hgd s x ho hown hb (Nat.le_refl _) hb.size hn hsl hcz (fun _ => rfl) oneV hs hx h
theorem step_vrN {l m : List Vr} {A : Option Addr} {c : Nat} {s x : Operand} (hgd : o.guard = none) (ho : o.op = .call { callee := .builtin .append, args := #[s, x], argTypes := #[43, 43] })
    (hown : Own wr w0.heap.size 102 3 encV v l) (hb : Below w0.heap.size w0 wr) (hn : l.length + m.length ≤ 33554432) (hsl : Sl wr encV 3 A m) (hcz : A = none → c = 0)
    (hs : a.eval s = v) (hx : a.eval x = .slice A m.length c)
    (h : ∀ v' w', Own w' w0.heap.size 102 3 encV v' (l ++ m) → Below w0.heap.size w0 w' → Grew v wr w' → K (a.put o.dst v') w') : if Region.wanted o (yielded ops a.tmps) = true then Oper.wp Tryz.prog o a wr K Q else E' := by
  obtain ⟨i0, hi0, hz0, hz1, hz2⟩ := info_parts encV_info
  exact step_appN Tryz.underlying43 hi0 hz0 hz1 hz2 rfl (by decide) (by decide) hgd s x ho hown hb (Nat.le_refl _) hb.size hn hsl hcz (fun _ => rfl) oneV hs hx h
theorem step_vr {l : List Vr} {y : Vr} {g : Nat} {s x : Operand} (hgd : o.guard = none) (ho : o.op = .call { callee := .builtin .append, args := #[s, x], argTypes := #[43, 43] })
    (hown : Own wr w0.heap.size 102 3 encV v l) (hb : Below w0.heap.size w0 wr) (hn : l.length ≤ 16777216)
    (c0 : wr.cell? ⟨g, 0, none⟩ = some (.int .i64 y.1)) (c1 : wr.cell? ⟨g, 1, none⟩ = some (.int .i64 y.2.1)) (c2 : wr.cell? ⟨g, 2, none⟩ = some (.string y.2.2))
    (hs : a.eval s = v) (hx : a.eval x = .slice (some ⟨g, 0, none⟩) 1 1)
    (h : ∀ v' w', Own w' w0.heap.size 102 3 encV v' (l ++ [y]) → Below w0.heap.size w0 w' → K (a.put o.dst v') w') : if Region.wanted o (yielded ops a.tmps) = true then Oper.wp Tryz.prog o a wr K Q else E' := by
  obtain ⟨i0, hi0, hz0, hz1, hz2⟩ := info_parts encV_info
  exact step_app1 Tryz.underlying43 hi0 hz0 hz1 hz2 rfl (by decide) (by decide) hgd s x ho hs hx hown hb (Nat.le_refl _) hb.size hn y (by
    intro j u hu
    have hj : j < 3 := by have := (List.getElem?_eq_some_iff.1 hu).1; simp [encV] at this; omega
    match j, hj with
    | 0, _ => simp [encV] at hu; rw [← hu]; exact c0
    | 1, _ => simp [encV] at hu; rw [← hu]; exact c1
    | 2, _ => simp [encV] at hu; rw [← hu]; exact c2) rfl (oneV y) h
end
/-! ### 'append(append([]Version{}, l...), y)' in whatever order -/
abbrev rowV (y : Vr) : Obj := .cells #[.int .i64 y.1, .int .i64 y.2.1, .string y.2.2] 102
abbrev madeV : Obj := .cells #[] 102
def RowAt (w : World) (g : Nat) (y : Vr) : Prop := w.cell? ⟨g, 0, none⟩ = some (.int .i64 y.1) ∧ w.cell? ⟨g, 1, none⟩ = some (.int .i64 y.2.1) ∧ w.cell? ⟨g, 2, none⟩ = some (.string y.2.2)
theorem RowAt.new (w : World) (y : Vr) : RowAt (w.alloc (rowV y)) w.heap.size y := ⟨new_cell rfl, new_cell rfl, new_cell rfl⟩
theorem RowAt.alloc {w : World} {g : Nat} {y : Vr} (h : RowAt w g y) (x : Obj) : RowAt (w.alloc x) g y := ⟨cell_alloc h.1, cell_alloc h.2.1, cell_alloc h.2.2⟩
theorem RowAt.grew {w w' : World} {g : Nat} {y : Vr} {v : Value} (h : RowAt w g y) (hg : Grew v w w') (hv : v.ownBlock ≠ some g) : RowAt w' g y := ⟨hg.cell hv h.1, hg.cell hv h.2.1, hg.cell hv h.2.2⟩
section
variable {ops : Array Oper} {o : Oper} {a : Act} {K : Act → World → Prop} {Q : Exit → Act → World → Prop} {E' : Prop} {w1 : World} {l : List Vr} {A : Option Addr} {c : Nat} {y : Vr} {s x : Operand}
theorem step_vr_a (hsl : Sl w1 encV 3 A l) (hcz : A = none → c = 0) (hl : l.length ≤ 16777216) (hgd : o.guard = none) (ho : o.op = .call { callee := .builtin .append, args := #[s, x], argTypes := #[43, 43] })
    (hs : a.eval s = .slice (some ⟨w1.heap.size, 0, none⟩) 0 0) (hx : a.eval x = .slice A l.length c)
    (h : ∀ v' w', Own w' w1.heap.size 102 3 encV v' l → Below w1.heap.size w1 w' → K (a.put o.dst v') w') : if Region.wanted o (yielded ops a.tmps) = true then Oper.wp Tryz.prog o a (w1.alloc madeV).drew K Q else E' :=
  step_vrN (w0 := w1) (l := []) hgd ho ((Own.made (w := w1) (Nat.le_refl _)).drew) (((Below.refl _ _).alloc (Nat.le_refl _) _).drew) (by simp; omega) ((hsl.alloc _).drew) hcz hs hx fun v' w' h1 h2 _ => h v' w' h1 h2
theorem step_vr_b (hsl : Sl w1 encV 3 A l) (hcz : A = none → c = 0) (hl : l.length ≤ 16777216) (hgd : o.guard = none) (ho : o.op = .call { callee := .builtin .append, args := #[s, x], argTypes := #[43, 43] })
    (hs : a.eval s = .slice (some ⟨w1.heap.size, 0, none⟩) 0 0) (hx : a.eval x = .slice A l.length c)
    (h : ∀ v' w', Own w' w1.heap.size 102 3 encV v' l → Below w1.heap.size w1 w' → RowAt w' (w1.heap.size + 1) y → K (a.put o.dst v') w') : if Region.wanted o (yielded ops a.tmps) = true then Oper.wp Tryz.prog o a ((w1.alloc madeV).alloc (rowV y)).drew K Q else E' := by
  have hz : w1.heap.size ≤ (w1.alloc madeV).heap.size := by simp
  have hr := RowAt.new (w1.alloc madeV) y
  have hzz : (w1.alloc madeV).heap.size = w1.heap.size + 1 := by simp
  rw [hzz] at hr
  exact step_vrN (w0 := w1) (l := []) hgd ho (((Own.made (w := w1) (Nat.le_refl _)).alloc _).drew) ((((Below.refl _ _).alloc (Nat.le_refl _) _).alloc hz _).drew) (by simp; omega) (((hsl.alloc _).alloc _).drew) hcz hs hx fun v' w' h1 h2 h3 => h v' w' h1 h2 (RowAt.grew (w := ((w1.alloc madeV).alloc (rowV y)).drew) hr h3 (by simp [Value.ownBlock]))
theorem step_vr_c (hsl : Sl w1 encV 3 A l) (hcz : A = none → c = 0) (hl : l.length ≤ 16777216) (hgd : o.guard = none) (ho : o.op = .call { callee := .builtin .append, args := #[s, x], argTypes := #[43, 43] })
    (hs : a.eval s = .slice (some ⟨w1.heap.size + 1, 0, none⟩) 0 0) (hx : a.eval x = .slice A l.length c)
    (h : ∀ v' w', Own w' w1.heap.size 102 3 encV v' l → Below w1.heap.size w1 w' → RowAt w' w1.heap.size y → K (a.put o.dst v') w') : if Region.wanted o (yielded ops a.tmps) = true then Oper.wp Tryz.prog o a ((w1.alloc (rowV y)).alloc madeV).drew K Q else E' := by
  have hz : w1.heap.size ≤ (w1.alloc (rowV y)).heap.size := by simp
  have hr := (RowAt.new w1 y).alloc madeV
  have hm := (Own.made (enc := encV) (E := 102) (size := 3) (w := w1.alloc (rowV y)) hz).drew
  have hzz : (w1.alloc (rowV y)).heap.size = w1.heap.size + 1 := by simp
  rw [hzz] at hm
  exact step_vrN (w0 := w1) (l := []) hgd ho hm ((((Below.refl _ _).alloc (Nat.le_refl _) _).alloc hz _).drew) (by simp; omega) (((hsl.alloc _).alloc _).drew) hcz hs hx fun v' w' h1 h2 h3 => h v' w' h1 h2 (RowAt.grew (w := ((w1.alloc (rowV y)).alloc madeV).drew) hr h3 (by simp [Value.ownBlock]))
theorem step_vr_d {w0 W : World} {v : Value} {g : Nat} (hown : Own W w0.heap.size 102 3 encV v l) (hb : Below w0.heap.size w0 W) (hr : RowAt W g y) (hl : l.length ≤ 16777216) (hgd : o.guard = none) (ho : o.op = .call { callee := .builtin .append, args := #[s, x], argTypes := #[43, 43] })
    (hs : a.eval s = v) (hx : a.eval x = .slice (some ⟨g, 0, none⟩) 1 1)
    (h : ∀ v' w', Own w' w0.heap.size 102 3 encV v' (l ++ [y]) → Below w0.heap.size w0 w' → K (a.put o.dst v') w') : if Region.wanted o (yielded ops a.tmps) = true then Oper.wp Tryz.prog o a W K Q else E' :=
  step_vr hgd ho hown hb hl hr.1 hr.2.1 hr.2.2 hs hx h
end
/-! ### slices.Clone -/
set_option maxHeartbeats 2000000 in
set_option maxRecDepth 100000 in
theorem CloneVr_any (A : Option Addr) (c : Nat) (l : List Vr) (w : World) (hs : Sl w encV 3 A l) (hcz : A = none → c = 0) (hl : l.length ≤ 16777216) :
    Calls Tryz.prog 151 #[.slice A l.length c] w (OwnRes 102 3 encV l w) := by
  have HS := Lib.hid hs
  have HC := Lib.hid hcz
  clear hs hcz
  have hnil := fun (W : World) (A : Option Addr) (n c : Nat) => Lib.run_eql_slice_nil (P := Tryz.prog) W 43 102 A n c 0 0 Tryz.underlying43
  cases A with
  | none =>
    have hm : l = [] := by
      cases l with
      | nil => rfl
      | cons y r => obtain ⟨b, o, e, _⟩ := HS.out (by simp); cases e
    subst hm
    go_enter Tryz.func151, Tryz.ntmps151
    go_wp2
    go_ret
    exact ⟨_, rfl, Own.nil, Below.refl _ _⟩
  | some ad =>
    go_enter Tryz.func151, Tryz.ntmps151
    go_wp2_with (at_builtin; refine app_vrN rfl rfl (Own.made (Nat.le_refl _)) ((Below.refl _ _).alloc (Nat.le_refl _) _) (by simp; omega) (HS.out.alloc _) HC.out (by rfl) (by rfl) ?_; intro v1 w2 hown2 hb2 hg2; have HW2 := Lib.hid hown2; have HB2 := Lib.hid hb2; clear hown2 hb2 hg2)
    go_ret
    exact ⟨_, rfl, by have h := HW2.out; rwa [List.nil_append] at h, HB2.out⟩
/-! ### one more version -/
def AddR (l : List Vr) (y : Vr) (w : World) (e : Ending) (w' : World) : Prop :=
  ∃ (v : Value) (l' : List Vr) (ok : Bool), e = .returned (.tuple #[v, .bool ok]) ∧ Own w' w.heap.size 102 3 encV v l' ∧ (l' = [] ∨ l' = l ∨ l' = l ++ [y]) ∧ (ok = true → l' = l ++ [y] ∧ versV (l ++ [y]) = true) ∧ Below w.heap.size w w'
set_option maxHeartbeats 4000000 in
set_option maxRecDepth 100000 in
theorem sAddVersion_any (A : Option Addr) (c : Nat) (l : List Vr) (y : Vr) (w : World) (hs : Sl w encV 3 A l) (hcz : A = none → c = 0) (hl : l.length ≤ 16777215) (hf : FitV l) (hy : y.2.2.size ≤ 16777216) :
    Calls Tryz.prog 81 #[.slice A l.length c, .agg #[.int .i64 y.1, .int .i64 y.2.1, .string y.2.2]] w (AddR l y w) := by
  have HS := Lib.hid hs
  have HF := Lib.hid hf
  have HC := Lib.hid hcz
  have HL := Lib.hid (show l.length ≤ 16777216 by omega)
  have HLEN := Lib.hid (show (l ++ [y]).length = l.length + 1 by simp)
  clear hs hf hcz
  have hV : ∀ w, Sl w encV 3 A l → Calls Tryz.prog 136 #[.slice A l.length c] w fun e w' => e = .returned (.bool (versV l)) ∧ Below w.heap.size w w' := fun w h => by
    first
      | exact sVersionsValid_any A c l w h (by omega) HF.out
      | exact (sVersionsValid_any A c l w h (by omega) HF.out).mono fun _ _ ⟨h1, h2⟩ => ⟨h1, h2 ▸ Below.refl _ _⟩
  have hf2 : FitV (l ++ [y]) := fun p hp => by
    rw [List.mem_append, List.mem_singleton] at hp
    rcases hp with hp | rfl
    · exact HF.out p hp
    · exact hy
  have hV2 : ∀ A c w, Sl w encV 3 A (l ++ [y]) → Calls Tryz.prog 136 #[.slice A (l ++ [y]).length c] w fun e w' => e = .returned (.bool (versV (l ++ [y]))) ∧ Below w.heap.size w w' := fun A c w h => by
    first
      | exact sVersionsValid_any A c (l ++ [y]) w h (by simp; omega) hf2
      | exact (sVersionsValid_any A c (l ++ [y]) w h (by simp; omega) hf2).mono fun _ _ ⟨h1, h2⟩ => ⟨h1, h2 ▸ Below.refl _ _⟩
  rw [HLEN.out] at hV2
  cases hv : versV l
  · rw [hv] at hV
    have HV := Lib.hid hV
    clear hV hv hV2 hf2
    go_enter Tryz.func81, Tryz.ntmps81
    go_wp2_with fail
    refine (HV.out _ (HS.out.alloc _)).mono ?_
    rintro e w1 ⟨rfl, hb1⟩
    have HB1 := Lib.hid (Below_of_alloc hb1)
    clear hb1
    go_wp2
    go_ret2
    exact ⟨_, [], false, rfl, Own.made HB1.out.size, .inl rfl, (by intro h; cases h), HB1.out.alloc HB1.out.size _⟩
  · rw [hv] at hV
    have HV := Lib.hid hV
    cases hv2 : versV (l ++ [y])
    all_goals
      rw [hv2] at hV2
      have HV2 := Lib.hid hV2
      have HVV := Lib.hid hv2
      clear hV hv hV2 hv2 hf2
      go_enter Tryz.func81, Tryz.ntmps81
      go_wp2_with fail
      refine (HV.out _ (HS.out.alloc _)).mono ?_
      rintro e w1 ⟨rfl, hb1⟩
      have hz1 : w.heap.size < w1.heap.size := by have := hb1.size; simp at this; omega
      have HK := Lib.hid (show w1.cell? ⟨w.heap.size, 0, none⟩ = some (.int .i64 y.1) ∧ w1.cell? ⟨w.heap.size, 1, none⟩ = some (.int .i64 y.2.1) ∧ w1.cell? ⟨w.heap.size, 2, none⟩ = some (.string y.2.2) from ⟨box_cell hb1 0 rfl, box_cell hb1 1 rfl, box_cell hb1 2 rfl⟩)
      have HB1 := Lib.hid (Below_of_alloc hb1)
      have HS1 := Lib.hid (HS.out.below HB1.out)
      have HS2 := Lib.hid (HS1.out.below ((Below.refl _ _).drew))
      have HD := Lib.hid (Below.refl w1.heap.size w1).drew
      have HD1 := Lib.hid ((Below.refl w1.heap.size w1).alloc (Nat.le_refl _) (.cells #[] 102)).drew
      have HZ := Lib.hid (show w1.heap.size < (w1.alloc (.cells #[] 102)).heap.size by simp)
      have HZ2 := Lib.hid (show w1.heap.size < (w1.alloc (.cells #[.int .i64 y.1, .int .i64 y.2.1, .string y.2.2] 102)).heap.size by simp)
      clear hb1
      go_wp2_with fail
      go_region_held3 (fun w' => w'.cell? ⟨w.heap.size, 0, none⟩ = some (.int .i64 y.1) ∧ w'.cell? ⟨w.heap.size, 1, none⟩ = some (.int .i64 y.2.1) ∧ w'.cell? ⟨w.heap.size, 2, none⟩ = some (.string y.2.2))
        (first | assumption | exact HK.out | exact keep3 HD.out HK.out | exact keep3 HD1.out HK.out | exact keep3 HB3.out HK.out | exact keep3 HB2.out HK.out | exact keep3 (HB2.out.alloc HB2.out.size _) HK.out | exact keep3 ((Below.refl _ _).alloc (Nat.le_refl _) _).drew HK.out | exact keep3 (((Below.refl _ _).alloc (Nat.le_refl _) _).alloc (Nat.le_of_lt HZ.out) _).drew HK.out | exact keep3 (((Below.refl _ _).alloc (Nat.le_refl _) _).alloc (Nat.le_of_lt HZ2.out) _).drew HK.out)
        ((first
          | (refine step_vr_a HS1.out HC.out HL.out rfl rfl (by rfl) (by rfl) ?_; intro v2 w2 hown2 hb2; have HW2 := Lib.hid (hown2.alloc (rowV y)); have HB2 := Lib.hid hb2; have HBR := Lib.hid (hb2.alloc hb2.size (rowV y)); have HR := Lib.hid (RowAt.new w2 y); clear hown2 hb2)
          | (refine step_vr_b (y := y) HS1.out HC.out HL.out rfl rfl (by rfl) (by rfl) ?_; intro v2 w2 hown2 hb2 hr2; have HW2 := Lib.hid hown2; have HB2 := Lib.hid hb2; have HBR := HB2; have HR := Lib.hid hr2; clear hown2 hb2 hr2)
          | (refine step_vr_c (y := y) HS1.out HC.out HL.out rfl rfl (by rfl) (by rfl) ?_; intro v2 w2 hown2 hb2 hr2; have HW2 := Lib.hid hown2; have HB2 := Lib.hid hb2; have HBR := HB2; have HR := Lib.hid hr2; clear hown2 hb2 hr2)
          | (refine step_vr_d HW2.out HBR.out HR.out HL.out rfl rfl (by rfl) (by rfl) ?_; intro v3 w3 hown3 hb3; have HW3 := Lib.hid hown3; have HB3 := Lib.hid hb3; clear hown3 hb3)))
      all_goals
        obtain ⟨X, d, ev, _, _, _⟩ := HW3.out.sl
        rw [HLEN.out] at ev
        subst ev
        have HBB := Lib.hid (Below_then HB1.out HB3.out (Nat.le_refl _))
        go_wp2_with fail
        refine (HV2.out _ _ _ HW3.out.sl').mono ?_
        rintro e w4 ⟨rfl, hb4⟩
        have HW4 := Lib.hid (HW3.out.below hb4)
        have HB4 := Lib.hid (Below_then HBB.out hb4 (Nat.le_refl _))
        have HS4 := Lib.hid (HS.out.below HB4.out)
        clear hb4
        go_wp2_with (at_builtin; refine app_vrN (w0 := w4) (l := []) rfl rfl (Own.made (Nat.le_refl _)) ((Below.refl _ _).alloc (Nat.le_refl _) _) (by simp; omega) (HS4.out.alloc _) HC.out (by rfl) (by rfl) ?_; intro v5 w5 hown5 hb5 hg5; have HW5 := Lib.hid hown5; have HB5 := Lib.hid hb5; clear hown5 hb5 hg5)
        go_ret2
        first
          | exact ⟨_, l, false, rfl, HW5.out.mono HB4.out.size, .inr (.inl rfl), (by intro h; cases h), Below_then HB4.out HB5.out (Nat.le_refl _)⟩
          | exact ⟨_, l ++ [y], true, rfl, HW4.out.mono HB1.out.size, .inr (.inr rfl), (fun _ => ⟨rfl, HVV.out⟩), HB4.out⟩
end Go.Proofs.YtaghiefokmapmaaGreatDoor

/- A block of three cells that may be written. -/
set_option linter.unusedVariables false
namespace Go.Proofs.YtaghiefokmapmaaGreatDoor
open Go.RowKit
def Row3 (w : World) (b : Nat) (v0 v1 v2 : Value) : Prop :=
  (w.cell? ⟨b, 0, none⟩ = some v0 ∧ w.cell? ⟨b, 1, none⟩ = some v1 ∧ w.cell? ⟨b, 2, none⟩ = some v2) ∧ (∀ o, w.frozen? ⟨b, o, none⟩ = false) ∧ b < w.heap.size
theorem Row3.new {w : World} {v0 v1 v2 : Value} {E : TypeId} : Row3 (w.alloc (.cells #[v0, v1, v2] E)) w.heap.size v0 v1 v2 :=
  ⟨⟨new_cell rfl, new_cell rfl, new_cell rfl⟩, fun o => new_free o, by simp⟩
theorem Row3.only {w w' : World} {g b : Nat} {v0 v1 v2 : Value} (h : Row3 w b v0 v1 v2) (ho : Only g w w') (hb : b ≠ g) : Row3 w' b v0 v1 v2 :=
  ⟨⟨ho.cell hb h.1.1, ho.cell hb h.1.2.1, ho.cell hb h.1.2.2⟩, fun o => (ho.frozen hb h.2.2).trans (h.2.1 o), Nat.lt_of_lt_of_le h.2.2 ho.size⟩
theorem Row3.below {w w' : World} {b : Nat} {v0 v1 v2 : Value} (h : Row3 w b v0 v1 v2) (hb : Below w.heap.size w w') : Row3 w' b v0 v1 v2 :=
  ⟨⟨Below_cells hb _ _ _ h.1.1, Below_cells hb _ _ _ h.1.2.1, Below_cells hb _ _ _ h.1.2.2⟩, fun o => (World.frozen?_of_block (w := w) (hb.block b h.2.2)).trans (h.2.1 o), Nat.lt_of_lt_of_le h.2.2 hb.size⟩
theorem setCell_size (w : World) (p : Addr) (u : Value) : (w.setCell p u).heap.size = w.heap.size := by simp [World.setCell]
theorem Row3.set0 {w : World} {b : Nat} {v0 v1 v2 : Value} (h : Row3 w b v0 v1 v2) (u : Value) : Row3 (w.setCell ⟨b, 0, none⟩ u) b u v1 v2 :=
  ⟨⟨World.cell?_setCell_same _ _ _ h.1.1, (World.cell?_setCell_other _ _ _ _ (by simp)).trans h.1.2.1, (World.cell?_setCell_other _ _ _ _ (by simp)).trans h.1.2.2⟩, fun o => (World.frozen?_setCell _ _ _ _).trans (h.2.1 o), by rw [setCell_size]; exact h.2.2⟩
theorem Row3.set1 {w : World} {b : Nat} {v0 v1 v2 : Value} (h : Row3 w b v0 v1 v2) (u : Value) : Row3 (w.setCell ⟨b, 1, none⟩ u) b v0 u v2 :=
  ⟨⟨(World.cell?_setCell_other _ _ _ _ (by simp)).trans h.1.1, World.cell?_setCell_same _ _ _ h.1.2.1, (World.cell?_setCell_other _ _ _ _ (by simp)).trans h.1.2.2⟩, fun o => (World.frozen?_setCell _ _ _ _).trans (h.2.1 o), by rw [setCell_size]; exact h.2.2⟩
theorem Row3.set2 {w : World} {b : Nat} {v0 v1 v2 : Value} (h : Row3 w b v0 v1 v2) (u : Value) : Row3 (w.setCell ⟨b, 2, none⟩ u) b v0 v1 u :=
  ⟨⟨(World.cell?_setCell_other _ _ _ _ (by simp)).trans h.1.1, (World.cell?_setCell_other _ _ _ _ (by simp)).trans h.1.2.1, World.cell?_setCell_same _ _ _ h.1.2.2⟩, fun o => (World.frozen?_setCell _ _ _ _).trans (h.2.1 o), by rw [setCell_size]; exact h.2.2⟩
theorem Row3.other {w : World} {b : Nat} {v0 v1 v2 : Value} (h : Row3 w b v0 v1 v2) {p : Addr} (hp : p.block ≠ b) (u : Value) : Row3 (w.setCell p u) b v0 v1 v2 :=
  ⟨⟨(World.cell?_setCell_other _ _ _ _ (by rintro rfl; exact hp rfl)).trans h.1.1, (World.cell?_setCell_other _ _ _ _ (by rintro rfl; exact hp rfl)).trans h.1.2.1, (World.cell?_setCell_other _ _ _ _ (by rintro rfl; exact hp rfl)).trans h.1.2.2⟩, fun o => (World.frozen?_setCell _ _ _ _).trans (h.2.1 o), by rw [setCell_size]; exact h.2.2⟩
theorem Own.setBelow {α : Type} {enc : α → List Value} {w : World} {base size : Nat} {E : TypeId} {v : Value} {l : List α} (h : Own w base E size enc v l) {p : Addr} (hp : p.block < base) (u : Value) : Own (w.setCell p u) base E size enc v l :=
  h.only (g := p.block) ⟨rfl, rfl, rfl, by simp [World.setCell], fun k hk hne => Below.heap_setCell _ _ _ _ (by rintro rfl; exact hne rfl)⟩ hp
theorem Own.ne {α : Type} {w : World} {base size : Nat} {E : TypeId} {enc : α → List Value} {v : Value} {l : List α} (h : Own w base E size enc v l) : v.ownBlock ≠ some w.heap.size := fun e => Nat.lt_irrefl _ (World.ownsRow.lt h _ e).2
end Go.Proofs.YtaghiefokmapmaaGreatDoor

/- 'append' of strings in regions that draw their order. -/
set_option linter.unusedVariables false
namespace Go.Proofs.YtaghiefokmapmaaGreatDoor
open Go.RowKit

theorem sl_take {w : World} {A : Option Addr} {l : List ByteArray} (h : Sl w encS 1 A l) (m : Nat) : Sl w encS 1 A (l.take m) := by
  intro hn
  obtain ⟨b, o, e, hc⟩ := h (by simp at hn; omega)
  refine ⟨b, o, e, fun j u hu => hc j u ?_⟩
  rw [← List.take_append_drop m l, flat_append, List.getElem?_append_left (List.getElem?_eq_some_iff.1 hu).1]
  exact hu
theorem step_appW {P : Program} {α : Type} {enc : α → List Value} {ops : Array Oper} {o : Oper} {a : Act} {K : Act → World → Prop} {Q : Exit → Act → World → Prop} {E' : Prop} {w0 wr : World} {B base size bytes : Nat} {t E : TypeId} {i : TypeInfo} {z : Value} {v : Value} {l m : List α} {A : Option Addr} {c : Nat}
    (ht : P.underlying t = some (.slice E)) (hi : P.info? E = some i) (hz : i.zero = some z) (hsize : i.size = size) (hby : i.bytes = bytes) (hzs : z.cells.size = size) (hsz : 0 < size) (hb200 : bytes ≤ 256)
    (hw : Region.wanted o (yielded ops a.tmps) = true) (s x : Operand) (ho : o.op = .call { callee := .builtin .append, args := #[s, x], argTypes := #[t, t] })
    (hown : Own wr base E size enc v l) (hb : Below B w0 wr) (hB : B ≤ base) (hbase : base ≤ wr.heap.size) (hn : l.length + m.length ≤ 33554432)
    (hsl : Sl wr enc size A m) (hcz : A = none → c = 0) (hce : ∀ y, (enc y).length = size) (h1 : ∀ y, ∀ u ∈ enc y, u.oneCell' = true)
    (hs : a.eval s = v) (hx : a.eval x = .slice A m.length c)
    (h : ∀ v' w', Own w' base E size enc v' (l ++ m) → Below B w0 w' → Grew v wr w' → K (a.put o.dst v') w') :
    if Region.wanted o (yielded ops a.tmps) = true then Oper.wp P o a wr K Q else E' := by
  rw [if_pos hw]
  cases A with
  | none =>
    have hm : m = [] := by
      cases m with
      | nil => rfl
      | cons y r => obtain ⟨b, o, e, _⟩ := hsl (by simp); cases e
    subst hm
    rw [hcz rfl] at hx
    have hrun := run_append_owned_none (P := P) (w := wr) base t o.type E i size ht hi v l.length (flat enc l) hown
    have hK := h v wr (by rw [List.append_nil]; exact hown) hb (Grew.refl _ _)
    simp at hx
    unfold Oper.wp
    simp [execOp, ho, resolve, invoke, builtin, hs, hx, hrun, Result.andThen]
    exact hK
  | some ad =>
    refine wp_append_own wr s x t ho base E i z size bytes ht hi hz hsize hby hzs hsz v l.length (flat enc l) hs hown ad m.length c (flat enc m) hx (flat_length hce m) ?_ ?_ ?_ ?_ hbase ?_
    · intro j u hu
      have hpos : 0 < m.length := by
        have hlt := (List.getElem?_eq_some_iff.1 hu).1
        rw [flat_length hce] at hlt
        cases m with
        | nil => simp at hlt
        | cons y r => simp
      obtain ⟨b, o', e, hc⟩ := hsl hpos
      injection e with e
      subst e
      have hadd : (⟨b, o', none⟩ : Addr).add j = ⟨b, o' + j, none⟩ := by unfold Addr.add; split <;> simp_all
      rw [hadd]; exact hc j u hu
    · intro u hu
      unfold flat at hu
      obtain ⟨y, _, hy⟩ := List.mem_flatMap.1 hu
      exact h1 y u hy
    · unfold maxLen; omega
    · have := Nat.mul_le_mul_left (l.length + m.length) hb200; omega
    · intro v' w' hown' hg _
      refine h v' w' ?_ (hb.grown hg (Nat.le_trans hB hbase) (fun k hk => Nat.le_trans hB (World.ownsRow.lt hown k hk).1)) hg
      show w'.ownsRow base E size v' (l ++ m).length (flat enc (l ++ m))
      rw [flat_append, List.length_append]; exact hown'
abbrev rowS (y : ByteArray) : Obj := .cells #[.string y] 9
abbrev madeS : Obj := .cells #[] 9
section
variable {ops : Array Oper} {o : Oper} {a : Act} {K : Act → World → Prop} {Q : Exit → Act → World → Prop} {E' : Prop} {w1 : World} {l : List ByteArray} {A : Option Addr} {c : Nat} {y : ByteArray} {s x : Operand}
theorem step_strN {l m : List ByteArray} {w0 wr : World} {v : Value} {A : Option Addr} {c : Nat} {s x : Operand} (hw : Region.wanted o (yielded ops a.tmps) = true) (ho : o.op = .call { callee := .builtin .append, args := #[s, x], argTypes := #[26, 26] })
    (hown : Own wr w0.heap.size 9 1 encS v l) (hb : Below w0.heap.size w0 wr) (hn : l.length + m.length ≤ 33554432) (hsl : Sl wr encS 1 A m) (hcz : A = none → c = 0)
    (hs : a.eval s = v) (hx : a.eval x = .slice A m.length c)
    (h : ∀ v' w', Own w' w0.heap.size 9 1 encS v' (l ++ m) → Below w0.heap.size w0 w' → Grew v wr w' → K (a.put o.dst v') w') : if Region.wanted o (yielded ops a.tmps) = true then Oper.wp Tryz.prog o a wr K Q else E' := by
  obtain ⟨i0, hi0, hz0, hz1, hz2⟩ := info_parts str_info
  exact step_appW Tryz.underlying26 hi0 hz0 hz1 hz2 rfl (by decide) (by decide) hw s x ho hown hb (Nat.le_refl _) hb.size hn hsl hcz (fun _ => rfl) oneS hs hx h
def StrAt (w : World) (g : Nat) (y : ByteArray) : Prop := w.cell? ⟨g, 0, none⟩ = some (.string y)
theorem StrAt.new (w : World) (y : ByteArray) : StrAt (w.alloc (rowS y)) w.heap.size y := new_cell rfl
theorem StrAt.sl {w : World} {g : Nat} {y : ByteArray} (h : StrAt w g y) : Sl w encS 1 (some ⟨g, 0, none⟩) [y] := by
  intro _
  refine ⟨g, 0, rfl, fun j u hu => ?_⟩
  have hj : j = 0 := by have := (List.getElem?_eq_some_iff.1 hu).1; simp [flat, encS] at this; omega
  subst hj; simp [flat, encS] at hu; rw [← hu]; exact h
theorem step_str_a (hsl : Sl w1 encS 1 A l) (hcz : A = none → c = 0) (hl : l.length ≤ 16777216) (hw : Region.wanted o (yielded ops a.tmps) = true) (ho : o.op = .call { callee := .builtin .append, args := #[s, x], argTypes := #[26, 26] })
    (hs : a.eval s = .slice (some ⟨w1.heap.size, 0, none⟩) 0 0) (hx : a.eval x = .slice A l.length c)
    (h : ∀ v' w', Own w' w1.heap.size 9 1 encS v' l → Below w1.heap.size w1 w' → K (a.put o.dst v') w') : if Region.wanted o (yielded ops a.tmps) = true then Oper.wp Tryz.prog o a (w1.alloc madeS).drew K Q else E' :=
  step_strN (w0 := w1) (l := []) hw ho ((Own.made (w := w1) (Nat.le_refl _)).drew) (((Below.refl _ _).alloc (Nat.le_refl _) _).drew) (by simp; omega) ((hsl.alloc _).drew) hcz hs hx fun v' w' h1 h2 _ => h v' w' h1 h2
theorem step_str_b (hsl : Sl w1 encS 1 A l) (hcz : A = none → c = 0) (hl : l.length ≤ 16777216) (hw : Region.wanted o (yielded ops a.tmps) = true) (ho : o.op = .call { callee := .builtin .append, args := #[s, x], argTypes := #[26, 26] })
    (hs : a.eval s = .slice (some ⟨w1.heap.size, 0, none⟩) 0 0) (hx : a.eval x = .slice A l.length c)
    (h : ∀ v' w', Own w' w1.heap.size 9 1 encS v' l → Below w1.heap.size w1 w' → StrAt w' (w1.heap.size + 1) y → K (a.put o.dst v') w') : if Region.wanted o (yielded ops a.tmps) = true then Oper.wp Tryz.prog o a ((w1.alloc madeS).alloc (rowS y)).drew K Q else E' := by
  have hz : w1.heap.size ≤ (w1.alloc madeS).heap.size := by simp
  have hr := StrAt.new (w1.alloc madeS) y
  have hzz : (w1.alloc madeS).heap.size = w1.heap.size + 1 := by simp
  rw [hzz] at hr
  exact step_strN (w0 := w1) (l := []) hw ho (((Own.made (w := w1) (Nat.le_refl _)).alloc _).drew) ((((Below.refl _ _).alloc (Nat.le_refl _) _).alloc hz _).drew) (by simp; omega) (((hsl.alloc _).alloc _).drew) hcz hs hx fun v' w' h1 h2 h3 => h v' w' h1 h2 (Grew.cell (w := ((w1.alloc madeS).alloc (rowS y)).drew) h3 (by simp [Value.ownBlock]) hr)
theorem step_str_c (hsl : Sl w1 encS 1 A l) (hcz : A = none → c = 0) (hl : l.length ≤ 16777216) (hw : Region.wanted o (yielded ops a.tmps) = true) (ho : o.op = .call { callee := .builtin .append, args := #[s, x], argTypes := #[26, 26] })
    (hs : a.eval s = .slice (some ⟨w1.heap.size + 1, 0, none⟩) 0 0) (hx : a.eval x = .slice A l.length c)
    (h : ∀ v' w', Own w' w1.heap.size 9 1 encS v' l → Below w1.heap.size w1 w' → StrAt w' w1.heap.size y → K (a.put o.dst v') w') : if Region.wanted o (yielded ops a.tmps) = true then Oper.wp Tryz.prog o a ((w1.alloc (rowS y)).alloc madeS).drew K Q else E' := by
  have hz : w1.heap.size ≤ (w1.alloc (rowS y)).heap.size := by simp
  have hr : StrAt ((w1.alloc (rowS y)).alloc madeS) w1.heap.size y := cell_alloc (StrAt.new w1 y)
  have hm := (Own.made (enc := encS) (E := 9) (size := 1) (w := w1.alloc (rowS y)) hz).drew
  have hzz : (w1.alloc (rowS y)).heap.size = w1.heap.size + 1 := by simp
  rw [hzz] at hm
  exact step_strN (w0 := w1) (l := []) hw ho hm ((((Below.refl _ _).alloc (Nat.le_refl _) _).alloc hz _).drew) (by simp; omega) (((hsl.alloc _).alloc _).drew) hcz hs hx fun v' w' h1 h2 h3 => h v' w' h1 h2 (Grew.cell (w := ((w1.alloc (rowS y)).alloc madeS).drew) h3 (by simp [Value.ownBlock]) hr)
theorem step_str_d {w0 W : World} {v : Value} {g : Nat} (hown : Own W w0.heap.size 9 1 encS v l) (hb : Below w0.heap.size w0 W) (hr : StrAt W g y) (hl : l.length ≤ 16777216) (hw : Region.wanted o (yielded ops a.tmps) = true) (ho : o.op = .call { callee := .builtin .append, args := #[s, x], argTypes := #[26, 26] })
    (hs : a.eval s = v) (hx : a.eval x = .slice (some ⟨g, 0, none⟩) 1 1)
    (h : ∀ v' w', Own w' w0.heap.size 9 1 encS v' (l ++ [y]) → Below w0.heap.size w0 w' → K (a.put o.dst v') w') : if Region.wanted o (yielded ops a.tmps) = true then Oper.wp Tryz.prog o a W K Q else E' :=
  step_strN (l := l) (m := [y]) hw ho hown hb (by simp; omega) hr.sl (by intro h; cases h) hs hx fun v' w' h1 h2 _ => h v' w' h1 h2
end
section
variable {ops : Array Oper} {o : Oper} {a : Act} {K : Act → World → Prop} {Q : Exit → Act → World → Prop} {E' : Prop} {l : List ByteArray} {s x : Operand}
theorem step_str_e {w0 W : World} {v : Value} {y : ByteArray} (hown : Own W w0.heap.size 9 1 encS v l) (hb : Below w0.heap.size w0 W) (hl : l.length ≤ 16777216) (hw : Region.wanted o (yielded ops a.tmps) = true) (ho : o.op = .call { callee := .builtin .append, args := #[s, x], argTypes := #[26, 26] })
    (hs : a.eval s = v) (hx : a.eval x = .slice (some ⟨W.heap.size, 0, none⟩) 1 1)
    (h : ∀ v' w', Own w' w0.heap.size 9 1 encS v' (l ++ [y]) → Below w0.heap.size w0 w' → Grew v (W.alloc (rowS y)) w' → K (a.put o.dst v') w') : if Region.wanted o (yielded ops a.tmps) = true then Oper.wp Tryz.prog o a (W.alloc (rowS y)) K Q else E' :=
  step_strN (l := l) (m := [y]) hw ho (hown.alloc _) (hb.alloc hb.size _) (by simp; omega) (StrAt.new W y).sl (by intro h; cases h) hs hx h
end
theorem keepA {w w' : World} {b o b' o' : Nat} {u v : Value} (hb : Below w.heap.size w w') (h : w.cell? ⟨b, o, none⟩ = some u ∧ w.cell? ⟨b', o', none⟩ = some v) : w'.cell? ⟨b, o, none⟩ = some u ∧ w'.cell? ⟨b', o', none⟩ = some v := ⟨Below_cells hb _ _ _ h.1, Below_cells hb _ _ _ h.2⟩
section
variable {ops : Array Oper} {o : Oper} {a : Act} {K : Act → World → Prop} {Q : Exit → Act → World → Prop} {E' : Prop} {l : List ByteArray} {s x : Operand}
theorem step_str_g {w0 W : World} {v : Value} {y : ByteArray} (hown : Own W w0.heap.size 9 1 encS v l) (hb : Below w0.heap.size w0 W) (hl : l.length ≤ 16777216) (hw : Region.wanted o (yielded ops a.tmps) = true) (ho : o.op = .call { callee := .builtin .append, args := #[s, x], argTypes := #[26, 26] })
    (hs : a.eval s = v) (hx : a.eval x = .slice (some ⟨W.heap.size, 0, none⟩) 1 1)
    (h : ∀ v' w', Own w' w0.heap.size 9 1 encS v' (l ++ [y]) → Below w0.heap.size w0 w' → Grew v (W.drew.alloc (rowS y)) w' → K (a.put o.dst v') w') : if Region.wanted o (yielded ops a.tmps) = true then Oper.wp Tryz.prog o a (W.drew.alloc (rowS y)) K Q else E' :=
  step_str_e (w0 := w0) (W := W.drew) hown.drew hb.drew hl hw ho hs hx h
end
theorem str_add {x y : ByteArray} (hx : x.size ≤ 1073741824) (hy : y.size ≤ 1073741824) : Op.stringOp .add x y = pure (.string (x ++ y)) := by
  have h : ¬ (((x.size + y.size : Nat) : Int) > IntKind.i64.max) := by
    have e : IntKind.i64.max = 9223372036854775807 := by decide
    rw [e]; omega
  unfold Op.stringOp
  simp only [h, if_false]
theorem keep2 {w w' : World} {g : Nat} {u v : Value} (hb : Below w.heap.size w w') (h : w.cell? ⟨g, 0, none⟩ = some u ∧ w.cell? ⟨g, 1, none⟩ = some v) : w'.cell? ⟨g, 0, none⟩ = some u ∧ w'.cell? ⟨g, 1, none⟩ = some v := ⟨Below_cells hb _ _ _ h.1, Below_cells hb _ _ _ h.2⟩
theorem keep2G {w w' : World} {g : Nat} {u v z : Value} (hg : Grew z w w') (hne : z.ownBlock ≠ some g) (h : w.cell? ⟨g, 0, none⟩ = some u ∧ w.cell? ⟨g, 1, none⟩ = some v) : w'.cell? ⟨g, 0, none⟩ = some u ∧ w'.cell? ⟨g, 1, none⟩ = some v := ⟨Grew.cell hg hne h.1, Grew.cell hg hne h.2⟩
end Go.Proofs.YtaghiefokmapmaaGreatDoor

/- strconv.FormatInt at base 16, walked. -/
set_option linter.unusedVariables false
namespace Go.Proofs.YtaghiefokmapmaaGreatDoor
open Go.RowKit
--BEGIN
/-- The table by which trailing zeros are found: its place for 16. -/
theorem cell_allocQ {u : Value} {w : World} {x : Obj} {a : Addr} (hc : w.cell? a = some u) : (w.alloc x).cell? a = some u := (World.cell?_alloc_lt w x a (World.block_lt_of_cell? w _ hc)).trans hc
def TzL (w : World) : Prop := w.cell? ⟨5, 15, none⟩ = some (.int .u8 4)
theorem TzL.below {w w' : World} (h : TzL w) (hb : Below w.heap.size w w') : TzL w' := Below_cells hb _ _ _ h
set_option maxHeartbeats 2000000 in
set_option maxRecDepth 100000 in
theorem tz64_any (w : World) (ht : TzL w) : Calls Tryz.prog 244 #[.int .u64 16] w fun e w' => e = .returned (.int .i64 4) ∧ w = w' := by
  unfold TzL at ht
  have hA : bits .and .u64 16 (IntKind.u64.wrap (-16)) = 16 := by kernel_rfl
  have hW : IntKind.u64.wrap (16 * 285870213051353865) = 4573923408821661840 := by kernel_rfl
  go_enter Tryz.func244, Tryz.ntmps244
  go_wp2
  go_ret
  exact ⟨rfl, rfl⟩
set_option maxHeartbeats 2000000 in
set_option maxRecDepth 100000 in
theorem tz_any (w : World) (ht : TzL w) : Calls Tryz.prog 232 #[.int .u64 16] w fun e w' => e = .returned (.int .i64 4) ∧ w = w' := by
  have HT := Lib.hid ht
  clear ht
  go_enter Tryz.func232, Tryz.ntmps232
  go_wp2_with (go_at_call 244; refine (tz64_any _ HT.out).mono ?_; rintro e w' ⟨rfl, rfl⟩)
  go_ret
  exact ⟨rfl, rfl⟩
set_option maxHeartbeats 2000000 in
set_option maxRecDepth 100000 in
theorem pow2_any (w : World) : Calls Tryz.prog 231 #[.int .i64 16] w fun e w' => e = .returned (.bool true) ∧ w = w' := by
  go_enter Tryz.func231, Tryz.ntmps231
  go_wp2
  go_ret
  exact ⟨rfl, rfl⟩
/-- N is left, 'acc' stands behind. -/
def HexI (n0 N : Nat) (acc : Bs) : Prop := ∃ f, N < 16 ^ (f + 1) ∧ f + 1 + acc.length = 7 ∧ hexF 7 n0 = hexF (f + 1) N ++ acc
theorem HexI.start {n0 : Nat} (h : n0 ≤ 16777212) : HexI n0 n0 [] := by
  have e : (16 : Nat) ^ (6 + 1) = 268435456 := by decide
  exact ⟨6, by omega, rfl, by simp⟩
theorem HexI.step {n0 N : Nat} {acc : Bs} (h : HexI n0 N acc) (hN : 16 ≤ N) : HexI n0 (N / 16) (hexD (N % 16) :: acc) ∧ acc.length ≤ 5 := by
  obtain ⟨f, hf, hl, he⟩ := h
  cases f with
  | zero => simp at hf; omega
  | succ f =>
    refine ⟨⟨f, by rw [Nat.pow_succ] at hf; omega, by simp; omega, ?_⟩, by omega⟩
    rw [he, hexF, if_neg (by omega)]
    simp
theorem HexI.done {n0 N : Nat} {acc : Bs} (h : HexI n0 N acc) (hN : N < 16) : hexF 7 n0 = hexD N :: acc ∧ acc.length ≤ 6 := by
  obtain ⟨f, hf, hl, he⟩ := h
  refine ⟨?_, by omega⟩
  rw [he, hexF, if_pos hN]; rfl
def DigRow (wr : World) (g : Nat) (acc : Bs) : Prop := ∃ cs : Array Value, wr.heap[g]? = some (.cells cs 216 (0, 0)) ∧ cs.size = 65 ∧ cs.toList.drop (65 - acc.length) = acc.map fun c => Value.int .u8 (c.toNat : Int)
theorem DigRow.cell {wr : World} {g : Nat} {acc : Bs} (h : DigRow wr g acc) {j : Nat} (hj : j < 65) : ∃ u, wr.cell? ⟨g, j, none⟩ = some u := by
  obtain ⟨cs, hg, hs, _⟩ := h
  exact ⟨cs[j], by rw [cell_of_row wr g j cs _ (0, 0) hg, Array.getElem?_eq_getElem (by omega)]⟩
theorem DigRow.free {wr : World} {g : Nat} {acc : Bs} (h : DigRow wr g acc) (j : Nat) : wr.frozen? ⟨g, j, none⟩ = false := by
  obtain ⟨cs, hg, _⟩ := h
  exact frozen_of_row wr g j cs _ hg
theorem DigRow.store {wr : World} {g : Nat} {acc : Bs} (h : DigRow wr g acc) (c : UInt8) {j : Nat} (hj : j + 1 + acc.length = 65) : DigRow (wr.setCell ⟨g, j, none⟩ (.int .u8 (c.toNat : Int))) g (c :: acc) := by
  obtain ⟨cs, hg, hs, ht⟩ := h
  refine ⟨cs.setIfInBounds j (.int .u8 (c.toNat : Int)), heap_setCell_same wr g _ cs _ _ hg, by simpa using hs, ?_⟩
  have e1 : 65 - (c :: acc).length = j := by simp; omega
  have e2 : 65 - acc.length = j + 1 := by omega
  rw [e2] at ht
  rw [e1, Array.toList_setIfInBounds, List.drop_eq_getElem_cons (by simp; omega), List.getElem_set_self, List.drop_set_of_lt (by omega), ht]
  rfl
theorem ofInt_nat64 (a : Nat) (ha : a < 18446744073709551616) : (BitVec.ofInt 64 (a : Int)).toNat = a := by
  rw [BitVec.ofInt_natCast, BitVec.toNat_ofNat]; exact Nat.mod_eq_of_lt (by omega)
theorem u64_and15 (N : Nat) (h : N ≤ 16777212) : bits .and .u64 (N : Int) 15 = ((N % 16 : Nat) : Int) := by
  have e : N &&& 15 = N % 16 := Nat.and_two_pow_sub_one_eq_mod N 4
  show IntKind.u64.wrap ((BitVec.ofInt 64 (N : Int) &&& BitVec.ofInt 64 ((15 : Nat) : Int)).toNat : Int) = _
  rw [BitVec.toNat_and, ofInt_nat64 N (by omega), ofInt_nat64 15 (by omega), e, IntKind.wrap_u64]
  omega
def digs : ByteArray := ⟨#[48, 49, 50, 51, 52, 53, 54, 55, 56, 57, 97, 98, 99, 100, 101, 102, 103, 104, 105, 106, 107, 108, 109, 110, 111, 112, 113, 114, 115, 116, 117, 118, 119, 120, 121, 122]⟩
theorem digs_at (d : Nat) (h : d < 16) (h' : d < digs.size) : digs[d] = hexD d := by
  have key : ∀ d : Fin 16, digs[d.val]'(Nat.lt_trans d.isLt (by decide)) = hexD d.val := by decide
  exact key ⟨d, h⟩
theorem u64_shr4 (N : Nat) : (N : Int) / 16 = ((N / 16 : Nat) : Int) := by omega
theorem slice65 (W : World) (g k : Nat) (hk : k < 65) : (Instr.sliceAt 216 (.pointer (some ⟨g, 0, none⟩)) (some (.int .i64 (k : Int))) none none).run Tryz.prog W = .ok (.slice (some ⟨g, k, none⟩) (65 - k) (65 - k)) W := by
  have hl : Tryz.prog.arrayLen 216 = 65 := by kernel_rfl
  have hz : (sizeOf (Tryz.prog.elem 216)).run Tryz.prog W = .ok 1 W := by kernel_rfl
  have h := run_sliceAt_array_l (P := Tryz.prog) W 216 ⟨g, 0, none⟩ (by kernel_rfl) .i64 (k : Int) (by omega) (by rw [hl]; omega)
  rw [h, hz, hl]
  show Result.ok (slicedAt _ _ _ _ _) W = _
  unfold slicedAt
  rw [if_neg (by omega)]
  simp [Addr.add]
  omega
theorem DigRow.conv {W : World} {g : Nat} {acc : Bs} (h : DigRow W g acc) (h1 : 1 ≤ acc.length) (h2 : acc.length ≤ 65) : (convert 56 9 (.slice (some ⟨g, 65 - acc.length, none⟩) acc.length acc.length)).run Tryz.prog W = .ok (.string (mk acc)) W := by
  obtain ⟨cs, hg, hs, ht⟩ := h
  refine run_convert_bytes_back (P := Tryz.prog) W 56 9 5 ⟨g, 65 - acc.length, none⟩ acc.length acc Tryz.underlying56 Tryz.underlying5 Tryz.underlying9 ?_
  intro j hj
  have hadd : (⟨g, 65 - acc.length, none⟩ : Addr).add j = ⟨g, 65 - acc.length + j, none⟩ := by unfold Addr.add; split <;> simp_all
  rw [hadd, cell_of_row _ _ _ _ _ (0, 0) hg, ← Array.getElem?_toList]
  have : (cs.toList.drop (65 - acc.length))[j]? = (acc.map fun c => Value.int .u8 (c.toNat : Int))[j]? := by rw [ht]
  rw [List.getElem?_drop] at this
  rw [this, List.getElem?_map, List.getElem?_eq_getElem hj]; rfl
set_option maxHeartbeats 4000000 in
set_option maxRecDepth 100000 in
theorem formatBits_any (n : Nat) (w : World) (hn : n ≤ 16777212) (ht : TzL w) : Calls Tryz.prog 211 #[.slice none 0 0, .int .u64 (n : Int), .int .i64 16, .bool false, .bool false] w fun e w' => e = .returned (.tuple #[.slice none 0 0, .string (mk (hexF 7 n))]) ∧ Below w.heap.size w w' := by
  have HT := Lib.hid ht
  clear ht
  have hz : ∀ w, (zeroValue 216).run Tryz.prog w = .ok (.agg (Array.replicate 65 (.int .u8 0))) w := fun w => by kernel_rfl
  have HZ := Lib.hid (show (Array.replicate 65 (Value.int .u8 0)).size = 65 by rfl)
  generalize Array.replicate 65 (Value.int .u8 0) = Z at *
  go_enter Tryz.func211, Tryz.ntmps211
  go_wp2_with (first
    | (go_at_call 231; refine (pow2_any _).mono ?_; rintro e w' ⟨rfl, rfl⟩)
    | (go_at_call 232; refine (tz_any _ (cell_allocQ HT.out)).mono ?_; rintro e w' ⟨rfl, rfl⟩))
  go_loopw [1, 13] (fun u i wr => ∃ (N : Nat) (acc : Bs), u = .int .u64 (N : Int) ∧ i = .int .i64 ((65 - acc.length : Nat) : Int) ∧ N ≤ n ∧ acc.length ≤ 6 ∧ Hid (HexI n N acc) ∧ Hid (DigRow wr w.heap.size acc) ∧ Hid (Below w.heap.size w wr)) (fun u _ _ => (intOf u).toNat)
  case atStart => exact ⟨n, [], rfl, rfl, Nat.le_refl _, by simp, HexI.start hn, ⟨Z, heap_alloc_new w _, HZ.out, by rw [List.drop_eq_nil_of_le (by rw [Array.length_toList, HZ.out]; simp)]; rfl⟩, (Below.refl _ _).alloc (Nat.le_refl _) _⟩
  case round =>
    obtain ⟨N, acc, rfl, rfl, hN, hal, HI, HD, HB⟩ := hrel
    by_cases hlt : 16 ≤ N
    · obtain ⟨u0, hu0⟩ := HD.out.cell (j := 64 - acc.length) (by omega)
      have hfr := HD.out.free (64 - acc.length)
      have hand := u64_and15 N (by omega)
      have hlt' : (16 : Int) ≤ (N : Int) := by omega
      have e1 : (((65 - acc.length : Nat) : Int) - 1) = ((64 - acc.length : Nat) : Int) := by omega
      obtain ⟨hst, hac⟩ := HI.out.step hlt
      have HST := Lib.hid hst
      have hd := fun h' => digs_at (N % 16) (by omega) h'
      unfold digs at hd
      have HSD := Lib.hid (HD.out.store (hexD (N % 16)) (j := 64 - acc.length) (by omega))
      have HSB := Lib.hid (fun u => HB.out.setCell (p := ⟨w.heap.size, 64 - acc.length, none⟩) (Nat.le_refl _) u)
      clear hst
      go_wp2
      go_roundw
      case rel => exact ⟨N / 16, hexD (N % 16) :: acc, by rw [u64_shr4], by rw [List.length_cons, show 65 - (acc.length + 1) = 64 - acc.length by omega], by omega, by rw [List.length_cons]; omega, HST.out, HSD.out, HSB.out _⟩
      case measure => simp [intOf]; omega
    · obtain ⟨u0, hu0⟩ := HD.out.cell (j := 64 - acc.length) (by omega)
      have hfr := HD.out.free (64 - acc.length)
      have hlt' : ¬ (16 : Int) ≤ (N : Int) := by omega
      have e1 : (((65 - acc.length : Nat) : Int) - 1) = ((64 - acc.length : Nat) : Int) := by omega
      obtain ⟨hdn, hac⟩ := HI.out.done (by omega)
      have HDN := Lib.hid hdn
      have hd := fun h' => digs_at N (by omega) h'
      unfold digs at hd
      have HSD := Lib.hid (HD.out.store (hexD N) (j := 64 - acc.length) (by omega))
      have HSB := Lib.hid (fun u => HB.out.setCell (p := ⟨w.heap.size, 64 - acc.length, none⟩) (Nat.le_refl _) u)
      have hsl := fun W => slice65 W w.heap.size (64 - acc.length) (by omega)
      rw [show 65 - (64 - acc.length) = acc.length + 1 by omega] at hsl
      have hcv := HSD.out.conv (by simp) (by simp; omega)
      rw [List.length_cons, show 65 - (acc.length + 1) = 64 - acc.length by omega, ← HDN.out] at hcv
      clear hdn
      go_wp2
      go_ret2
      exact ⟨rfl, HSB.out _⟩
set_option maxHeartbeats 4000000 in
set_option maxRecDepth 100000 in
theorem fmtInt_any (n : Nat) (w : World) (hn : n ≤ 16777212) (ht : TzL w) : Calls Tryz.prog 182 #[.int .i64 (n : Int), .int .i64 16] w fun e w' => e = .returned (.string (mk (hexF 7 n))) ∧ Below w.heap.size w w' := by
  have HF := Lib.hid (formatBits_any n w hn ht)
  have hw : IntKind.u64.wrap (n : Int) = (n : Int) := by rw [IntKind.wrap_u64]; omega
  clear ht
  go_enter Tryz.func182, Tryz.ntmps182
  go_wp2_with fail
  refine HF.out.mono ?_
  rintro e w1 ⟨rfl, hb⟩
  have HB := Lib.hid hb
  clear hb
  go_wp2
  go_ret
  exact ⟨rfl, HB.out⟩
set_option maxHeartbeats 4000000 in
set_option maxRecDepth 100000 in
theorem FormatInt_any (n : Nat) (w : World) (hn : n ≤ 16777212) (ht : TzL w) : Calls Tryz.prog 131 #[.int .i64 (n : Int), .int .i64 16] w fun e w' => e = .returned (.string (mk (hexF 7 n))) ∧ Below w.heap.size w w' := by
  have HF := Lib.hid (fmtInt_any n w hn ht)
  clear ht
  go_enter Tryz.func131, Tryz.ntmps131
  go_wp2_with fail
  refine HF.out.mono ?_
  rintro e w1 ⟨rfl, hb⟩
  have HB := Lib.hid hb
  clear hb
  go_wp2
  go_ret
  exact ⟨rfl, HB.out⟩
set_option maxHeartbeats 4000000 in
set_option maxRecDepth 100000 in
theorem iHexText_any (n : Int) (w : World) (ht : TzL w) : Calls Tryz.prog 63 #[.int .i64 n] w fun e w' => e = .returned (.string (mk (hexT n))) ∧ Below w.heap.size w w' := by
  cases hp : pv n
  · have E := Lib.hid (hexT_bad hp)
    have hP := fun w => iprintValid_any n w
    rw [hp] at hP
    have HP := Lib.hid hP
    clear ht hp hP
    rw [E.out]
    go_enter Tryz.func63, Tryz.ntmps63
    go_wp2_with (go_at_call 130; refine (HP.out _).mono ?_; rintro e w' ⟨rfl, rfl⟩)
    go_ret
    exact ⟨rfl, Below.refl _ _⟩
  · have h2 := pv_iff.1 hp
    obtain ⟨m, rfl⟩ := Int.eq_ofNat_of_zero_le h2.1
    have E := Lib.hid (hexT_ok (n := m) (by omega))
    have hP := fun w => iprintValid_any (m : Int) w
    rw [hp] at hP
    have HP := Lib.hid hP
    have HF := Lib.hid (FormatInt_any m w (by omega) ht)
    clear ht hp hP h2
    rw [E.out]
    go_enter Tryz.func63, Tryz.ntmps63
    go_wp2_with (first
      | (go_at_call 130; refine (HP.out _).mono ?_; rintro e w' ⟨rfl, rfl⟩)
      | (go_at_call 131; refine HF.out.mono ?_; rintro e w1 ⟨rfl, hb⟩; have HB := Lib.hid hb; clear hb))
    go_ret
    exact ⟨rfl, HB.out⟩
end Go.Proofs.YtaghiefokmapmaaGreatDoor

/- HexText of the reference; ReadHex, walked. -/
set_option linter.unusedVariables false
namespace Go.Proofs.YtaghiefokmapmaaGreatDoor
open Go.RowKit
attribute [local go_sem] mk_size mk_append
--BEGIN
def digs16 : ByteArray := ⟨#[48, 49, 50, 51, 52, 53, 54, 55, 56, 57, 97, 98, 99, 100, 101, 102]⟩
theorem digs16_at (d : Nat) (h : d < 16) : digs16.extract d (d + 1) = mk [hexD d] := by
  have key : ∀ d : Fin 16, digs16.extract d.val (d.val + 1) = mk [hexD d.val] := by decide
  exact key ⟨d, h⟩
set_option maxHeartbeats 4000000 in
set_option maxRecDepth 100000 in
theorem sHexText_any (n : Int) (w : World) : Calls Tryz.prog 145 #[.int .i64 n] w fun e w' => e = .returned (.string (mk (hexT n))) ∧ w = w' := by
  cases hp : pv n
  · have E := Lib.hid (hexT_bad hp)
    have hP : ∀ w, Calls Tryz.prog 83 #[.int .i64 n, .int .i64 0, .int .i64 16777212] w fun e w' => e = .returned (.bool false) ∧ w = w' := fun w => hp ▸ sl1In_any n 0 16777212 w
    have HP := Lib.hid hP
    clear hp hP
    rw [E.out]
    go_enter Tryz.func145, Tryz.ntmps145
    go_wp2_with (go_at_call 83; refine (HP.out _).mono ?_; rintro e w' ⟨rfl, rfl⟩)
    go_ret
    exact ⟨rfl, rfl⟩
  · have h2 := pv_iff.1 hp
    obtain ⟨m, rfl⟩ := Int.eq_ofNat_of_zero_le h2.1
    have hm : m ≤ 16777212 := by omega
    have E := Lib.hid (hexT_ok hm)
    have hP : ∀ w, Calls Tryz.prog 83 #[.int .i64 (m : Int), .int .i64 0, .int .i64 16777212] w fun e w' => e = .returned (.bool true) ∧ w = w' := fun w => hp ▸ sl1In_any (m : Int) 0 16777212 w
    have HP := Lib.hid hP
    have hx := digs16_at (m % 16) (by omega)
    unfold digs16 at hx
    have HS := Lib.hid (HexAt.start hm)
    clear hp hP h2
    rw [E.out]
    clear E
    go_enter Tryz.func145, Tryz.ntmps145
    go_wp2_with (go_at_call 83; refine (HP.out _).mono ?_; rintro e w' ⟨rfl, rfl⟩)
    go_loop [0, 4] (fun u o => ∃ (N : Nat) (acc : Bs), u = .int .i64 (N : Int) ∧ o = .string (mk acc) ∧ N ≤ m ∧ acc.length ≤ 7 ∧ Hid (HexAt m N acc)) (fun u _ => (intOf u).toNat)
    case atStart => exact ⟨m, [hexD (m % 16)], rfl, by rw [hx], Nat.le_refl _, by simp, HS.out⟩
    case round =>
      obtain ⟨N, acc, rfl, rfl, hN, hal, HA⟩ := hrel
      by_cases hlt : 16 ≤ N
      · have hlt' : (16 : Int) ≤ (N : Int) := by omega
        have hd : (N : Int) / 16 = ((N / 16 : Nat) : Int) := by omega
        have hst := HA.out.step hlt
        have hac := hst.1
        have HST := Lib.hid hst
        clear hx
        have hx := digs16_at (N / 16 % 16) (by omega)
        unfold digs16 at hx
        have hlt2 : N / 16 ≤ N := Nat.div_le_self _ _
        have hlt3 : N / 16 < N := Nat.div_lt_self (by omega) (by omega)
        generalize N / 16 = M at *
        clear hst
        go_wp2
        go_round
        case rel => exact ⟨M, hexD (M % 16) :: acc, rfl, by first | rfl | rw [hx]; rfl, by omega, hac, HST.out⟩
        case measure => simp [intOf]; omega
      · have hlt' : ¬ (16 : Int) ≤ (N : Int) := by omega
        have HD := Lib.hid (HA.out.done (by omega))
        go_wp2
        go_ret
        exact ⟨ret_str (by rw [HD.out]), rfl⟩
end Go.Proofs.YtaghiefokmapmaaGreatDoor

/- ReadHex, walked. -/
set_option linter.unusedVariables false
namespace Go.Proofs.YtaghiefokmapmaaGreatDoor
open Go.RowKit
theorem hexV_dig {c : UInt8} (h1 : 48 ≤ (c.toNat : Int)) (h2 : (c.toNat : Int) ≤ 57) : hexV c = some (c.toNat - 48) := by
  unfold hexV digitC; rw [inI_true ⟨h1, h2⟩]; rfl
theorem hexV_let {c : UInt8} (h1 : 97 ≤ (c.toNat : Int)) (h2 : (c.toNat : Int) ≤ 102) : hexV c = some (c.toNat - 87) := by
  unfold hexV digitC; rw [inI_false (by omega), inI_true ⟨h1, h2⟩]; rfl
theorem hexV_no {c : UInt8} (h1 : ¬ (48 ≤ (c.toNat : Int) ∧ (c.toNat : Int) ≤ 57)) (h2 : ¬ (97 ≤ (c.toNat : Int) ∧ (c.toNat : Int) ≤ 102)) : hexV c = none := by
  unfold hexV digitC; rw [inI_false h1, inI_false h2]; rfl
theorem take_bs (s : ByteArray) : (bs s).take s.size = bs s := List.take_of_length_le (by rw [size_bs]; omega)
theorem eq_tlx (a b : ByteArray) : (a.toList == b.toList) = (bs a == bs b) := by rw [ByteArray.toList_eq, ByteArray.toList_eq]
theorem ne_tl {s : ByteArray} (h : 1 ≤ s.size) : ¬ s.toList = [] ∧ s.toList.isEmpty = false := by
  have hl : s.toList.length = s.size := by rw [ByteArray.toList_eq]; exact size_bs s
  cases hs : s.toList with
  | nil => rw [hs] at hl; simp at hl; omega
  | cons _ _ => exact ⟨by simp, rfl⟩
theorem nil_tl {s : ByteArray} (h : s.size = 0) : s.toList = [] := by
  have hl : s.toList.length = s.size := by rw [ByteArray.toList_eq]; exact size_bs s
  exact List.eq_nil_of_length_eq_zero (by omega)
theorem eq_of_tl {a b : ByteArray} {x : Bool} (h : (a.toList == b.toList) = x) : (bs a == bs b) = x := by rw [ByteArray.toList_eq, ByteArray.toList_eq] at h; exact h
theorem rh_step {s : ByteArray} {k n d : Nat} (hk : k < s.size) (hh : hexN 0 ((bs s).take k) = some n) (hv : hexV s[k] = some d) : hexN 0 ((bs s).take (k + 1)) = some (16 * n + d) := by
  have hk' : k < (bs s).length := by rw [size_bs]; exact hk
  rw [hexN_snoc hk' hh]
  have e : (bs s)[k] = s[k] := rfl
  rw [e, hv]; rfl
theorem rh_bad {s : ByteArray} {k n : Nat} (hk : k < s.size) (hh : hexN 0 ((bs s).take k) = some n) (hv : hexV s[k] = none) : readH (bs s) = -1 :=
  readH_char (k := k) (by rw [size_bs]; exact hk) hh hv
set_option maxHeartbeats 2000000 in
set_option maxRecDepth 100000 in
theorem iReadHex_any (s : ByteArray) (w : World) (hs : s.size ≤ 16777216) (ht : TzL w) :
    Calls Tryz.prog 92 #[.string s] w fun e w' => e = .returned (.int .i64 (readH (bs s))) ∧ Below w.heap.size w w' := by
  have HT := Lib.hid ht
  clear ht
  by_cases h1 : 1 ≤ s.size
  case neg =>
    have E := Lib.hid (show readH (bs s) = -1 by unfold readH; rw [if_neg (by rw [size_bs]; omega)])
    have h1' : (s.size : Int) < 1 := by omega
    rw [E.out]
    go_enter Tryz.func92, Tryz.ntmps92
    go_wp2
    go_ret
    exact ⟨rfl, Below.refl _ _⟩
  have h1' : ¬ (s.size : Int) < 1 := by omega
  by_cases h6 : s.size ≤ 6
  case neg =>
    have E := Lib.hid (show readH (bs s) = -1 from readH_long (by rw [size_bs]; omega))
    have h6' : ¬ (s.size : Int) ≤ 6 := by omega
    rw [E.out]
    go_enter Tryz.func92, Tryz.ntmps92
    go_wp2
    go_ret
    exact ⟨rfl, Below.refl _ _⟩
  go_enter Tryz.func92, Tryz.ntmps92
  go_wp2_with fail
  go_loop [3, 4] (fun v i => ∃ (k n : Nat), k ≤ s.size ∧ i = .int .i64 k ∧ v = .int .i64 n ∧ n < 16 ^ k ∧ n ≤ 16777216 ∧ Hid (hexN 0 ((bs s).take k) = some n)) (fun _ i => s.size - (intOf i).toNat)
  case atStart => exact ⟨0, 0, Nat.zero_le _, rfl, rfl, by simp, by omega, rfl⟩
  case round =>
    obtain ⟨k, n, hk, rfl, rfl, hn, hn2, HH⟩ := hrel
    by_cases hlt : k < s.size
    · have hby := s[k].toNat_lt
      have HST := Lib.hid (fun d (h : hexV s[k] = some d) => rh_step hlt HH.out h)
      have HBD := Lib.hid (fun (h : hexV s[k] = none) => rh_bad hlt HH.out h)
      have HP := Lib.hid (fun d (hd : d < 16) => (show 16 * n + d < 16 ^ (k + 1) ∧ 16 * n + d ≤ 16777216 by
        have e1 : (16 : Nat) ^ (k + 1) = 16 ^ k * 16 := Nat.pow_succ ..
        have e2 : (16 : Nat) ^ (k + 1) ≤ 16 ^ 6 := Nat.pow_le_pow_right (by omega) (by omega)
        have e3 : (16 : Nat) ^ 6 = 16777216 := by decide
        omega))
      clear hn
      by_cases hd : 48 ≤ (s[k].toNat : Int) ∧ (s[k].toNat : Int) ≤ 57
      · obtain ⟨hd1, hd2⟩ := hd
        have hs2 : inI s[k].toNat 48 57 = true := inI_true ⟨hd1, hd2⟩
        have HN := Lib.hid (HST.out _ (hexV_dig hd1 hd2))
        have HNP := Lib.hid (HP.out (s[k].toNat - 48) (by omega))
        go_wp2_with (go_at_call 156; refine (iisDigit_any _ _).mono ?_; rintro e w' ⟨rfl, rfl⟩)
        go_round
        case rel => exact ⟨k + 1, 16 * n + (s[k].toNat - 48), by omega, by go_num, int_eq (by omega), HNP.out.1, HNP.out.2, HN.out⟩
        case measure => simp [intOf]; omega
      · have hs2 : inI s[k].toNat 48 57 = false := inI_false hd
        by_cases hl : 97 ≤ (s[k].toNat : Int)
        · by_cases hl2 : (s[k].toNat : Int) ≤ 102
          · have HN := Lib.hid (HST.out _ (hexV_let hl hl2))
            have HNP := Lib.hid (HP.out (s[k].toNat - 87) (by omega))
            clear hd
            go_wp2_with (go_at_call 156; refine (iisDigit_any _ _).mono ?_; rintro e w' ⟨rfl, rfl⟩)
            go_round
            case rel => exact ⟨k + 1, 16 * n + (s[k].toNat - 87), by omega, by go_num, int_eq (by omega), HNP.out.1, HNP.out.2, HN.out⟩
            case measure => simp [intOf]; omega
          · have HE := Lib.hid (HBD.out (hexV_no hd (fun h => hl2 h.2)))
            clear hd
            go_wp2_with (go_at_call 156; refine (iisDigit_any _ _).mono ?_; rintro e w' ⟨rfl, rfl⟩)
            go_ret
            exact ⟨ret_int HE.out.symm, Below.refl _ _⟩
        · have HE := Lib.hid (HBD.out (hexV_no hd (fun h => hl h.1)))
          clear hd
          go_wp2_with (go_at_call 156; refine (iisDigit_any _ _).mono ?_; rintro e w' ⟨rfl, rfl⟩)
          go_ret
          exact ⟨ret_int HE.out.symm, Below.refl _ _⟩
    · have hfull : hexN 0 (bs s) = some n := by have := HH.out; rwa [show k = s.size by omega, take_bs] at this
      have HO := Lib.hid (fun (h : hexT n = bs s) => readH_ok (by rw [size_bs]; omega) hfull h)
      have HNO := Lib.hid (fun (h : hexT n ≠ bs s) => readH_no hfull h)
      have HX := Lib.hid (iHexText_any (n : Int) w HT.out)
      clear hfull hn
      by_cases he : hexT (n : Int) = bs s
      · have HE := Lib.hid (HO.out he)
        have heq : ((mk (hexT (n : Int))).toList == s.toList) = true := by rw [eq_tlx]; exact beq_iff_eq.2 he
        clear he
        go_wp2_with fail
        refine HX.out.mono ?_
        rintro e w1 ⟨rfl, hb⟩
        have HB := Lib.hid hb
        clear hb
        go_wp2
        go_ret
        exact ⟨ret_int HE.out.symm, HB.out⟩
      · have HE := Lib.hid (HNO.out he)
        have heq : ((mk (hexT (n : Int))).toList == s.toList) = false := by rw [eq_tlx]; exact beq_eq_false_iff_ne.2 he
        clear he
        go_wp2_with fail
        refine HX.out.mono ?_
        rintro e w1 ⟨rfl, hb⟩
        have HB := Lib.hid hb
        clear hb
        go_wp2
        go_ret
        exact ⟨ret_int HE.out.symm, HB.out⟩
set_option maxHeartbeats 2000000 in
set_option maxRecDepth 100000 in
theorem sReadHex_any (s : ByteArray) (w : World) (hs : s.size ≤ 16777216) :
    Calls Tryz.prog 82 #[.string s] w fun e w' => e = .returned (.int .i64 (readH (bs s))) ∧ w = w' := by
  go_enter Tryz.func82, Tryz.ntmps82
  go_wp2_with fail
  go_loop [3, 4] (fun v i => ∃ (k n : Nat), k ≤ s.size ∧ k ≤ 7 ∧ i = .int .i64 k ∧ v = .int .i64 n ∧ n < 16 ^ k ∧ n ≤ 268435456 ∧ Hid (hexN 0 ((bs s).take k) = some n)) (fun _ i => s.size - (intOf i).toNat)
  case atStart => exact ⟨0, 0, Nat.zero_le _, by omega, rfl, rfl, by simp, by omega, rfl⟩
  case round =>
    obtain ⟨k, n, hk, hk7, rfl, rfl, hn, hn2, HH⟩ := hrel
    by_cases hlt : k < s.size ∧ k < 7
    · obtain ⟨hlt, hlt7⟩ := hlt
      have hlt' : decide ((k : Int) < (s.size : Int)) = true := decide_eq_true (by omega)
      have hby := s[k].toNat_lt
      have HST := Lib.hid (fun d (h : hexV s[k] = some d) => rh_step hlt HH.out h)
      have HBD := Lib.hid (fun (h : hexV s[k] = none) => rh_bad hlt HH.out h)
      have HP := Lib.hid (fun d (hd : d < 16) => (show 16 * n + d < 16 ^ (k + 1) ∧ 16 * n + d ≤ 268435456 by
        have e1 : (16 : Nat) ^ (k + 1) = 16 ^ k * 16 := Nat.pow_succ ..
        have e2 : (16 : Nat) ^ (k + 1) ≤ 16 ^ 7 := Nat.pow_le_pow_right (by omega) (by omega)
        have e3 : (16 : Nat) ^ 7 = 268435456 := by decide
        omega))
      clear hn
      by_cases hd : 48 ≤ (s[k].toNat : Int)
      · by_cases hd2 : (s[k].toNat : Int) ≤ 57
        · have HN := Lib.hid (HST.out _ (hexV_dig hd hd2))
          have HNP := Lib.hid (HP.out (s[k].toNat - 48) (by omega))
          go_wp2
          go_round
          case rel => exact ⟨k + 1, 16 * n + (s[k].toNat - 48), by omega, by omega, by go_num, int_eq (by omega), HNP.out.1, HNP.out.2, HN.out⟩
          case measure => simp [intOf]; omega
        · by_cases hl : 97 ≤ (s[k].toNat : Int)
          · by_cases hl2 : (s[k].toNat : Int) ≤ 102
            · have HN := Lib.hid (HST.out _ (hexV_let hl hl2))
              have HNP := Lib.hid (HP.out (s[k].toNat - 87) (by omega))
              go_wp2
              go_round
              case rel => exact ⟨k + 1, 16 * n + (s[k].toNat - 87), by omega, by omega, by go_num, int_eq (by omega), HNP.out.1, HNP.out.2, HN.out⟩
              case measure => simp [intOf]; omega
            · have HE := Lib.hid (HBD.out (hexV_no (fun h => hd2 h.2) (fun h => hl2 h.2)))
              go_wp2
              go_ret
              exact ⟨ret_int HE.out.symm, rfl⟩
          · have HE := Lib.hid (HBD.out (hexV_no (fun h => hd2 h.2) (fun h => hl h.1)))
            go_wp2
            go_ret
            exact ⟨ret_int HE.out.symm, rfl⟩
      · have HE := Lib.hid (HBD.out (hexV_no (fun h => hd h.1) (fun h => hd (by omega))))
        go_wp2
        go_ret
        exact ⟨ret_int HE.out.symm, rfl⟩
    · have HX := Lib.hid (sHexText_any (n : Int) w)
      have HH7 := Lib.hid (show readH (bs s) = (n : Int) ∧ 1 ≤ s.size ∧ hexT (n : Int) = bs s ∨ readH (bs s) = -1 ∧ (s.size = 0 ∨ hexT (n : Int) ≠ bs s) by
        by_cases h0 : s.size = 0
        · right
          refine ⟨?_, .inl h0⟩
          unfold readH; rw [if_neg (by rw [size_bs]; omega)]
        · by_cases h7 : s.size ≤ 6
          · have hfull : hexN 0 (bs s) = some n := by have := HH.out; rwa [show k = s.size by omega, take_bs] at this
            by_cases he : hexT (n : Int) = bs s
            · exact .inl ⟨readH_ok (by rw [size_bs]; omega) hfull he, by omega, he⟩
            · exact .inr ⟨readH_no hfull he, .inr he⟩
          · exact .inr ⟨readH_long (by rw [size_bs]; omega), .inr (hexT_ne_long (by rw [size_bs]; omega) _)⟩)
      have hout : (¬ k < s.size) ∨ (k < s.size ∧ ¬ (k : Int) < 7) := by
        by_cases h : k < s.size
        · exact .inr ⟨h, by omega⟩
        · exact .inl h
      clear hn hlt
      rcases HH7.out with ⟨hr, h1, he⟩ | ⟨hr, h1⟩
      · have HE := Lib.hid hr
        have heq : ((mk (hexT (n : Int))).toList == s.toList) = true := by rw [eq_tlx]; exact beq_iff_eq.2 he
        obtain ⟨hne, hne2⟩ := ne_tl h1
        clear he hr
        rcases hout with ho | ⟨ho, ho2⟩
        all_goals
          go_wp2_with (go_at_call 145; refine (HX.out).mono ?_; rintro e w' ⟨rfl, rfl⟩)
          go_ret
          exact ⟨ret_int HE.out.symm, rfl⟩
      · have HE := Lib.hid hr
        clear hr
        by_cases h0 : s.size = 0
        · have hnil := nil_tl h0
          have ho : ¬ k < s.size := by omega
          clear hout h1
          go_wp2_with (go_at_call 145; refine (HX.out).mono ?_; rintro e w' ⟨rfl, rfl⟩)
          go_ret
          exact ⟨ret_int HE.out.symm, rfl⟩
        · have he : hexT (n : Int) ≠ bs s := h1.resolve_left h0
          have heq : ((mk (hexT (n : Int))).toList == s.toList) = false := by rw [eq_tlx]; exact beq_eq_false_iff_ne.2 he
          obtain ⟨hne, hne2⟩ := ne_tl (s := s) (by omega)
          clear he h1
          rcases hout with ho | ⟨ho, ho2⟩
          all_goals
            go_wp2_with (go_at_call 145; refine (HX.out).mono ?_; rintro e w' ⟨rfl, rfl⟩)
            go_ret
            exact ⟨ret_int HE.out.symm, rfl⟩
end Go.Proofs.YtaghiefokmapmaaGreatDoor
