/-
  DERIVED: THE SHELF's CONTRACTS AT THIS DUMP, IN PLAIN WORDS (tools/lay-plain.mjs out of 'YtakmplpfjcddiaaGreatDoorShelf.lean', which tools/lay-shelf.mjs wrote):
  Plain facts on paths as lists of bytes: what dir.Split, dir.Join and dir.IsName compute, and that splitting and joining undo each other. No program in sight.
  Plain facts on trees of layers: what union.Apply and union.Right compute, on lists of nodes. No program in sight.
  Plain facts on layers: what union.Apply and union.Fold compute, as functions on lists of nodes. No program in sight.
  Words for memory that the walks use: texts as lists of bytes, lists of texts, nodes, changes.
  Words for memory: slices of bytes below a block.
  A world that is as it was off the blocks of a set: for objects that live in memory and are written in place.
  Maps with ints as keys, as lists of pairs in the order in which they came: what a look-up, a store, a delete and len do. Over any program.
  Maps of ints whose values stand for bytes, as lists of pairs: what is looked up, stored, deleted, cleared.
  bytes.Clone over a slice of bytes below a block: the same bytes in memory of its own.
-/
import Derived.Shelf.Small.Utf8
import Derived.Shelf.Small.Bits
import Derived.Shelf.Small.Strs
import Derived.Shelf.Small.Wraps
import Derived.Shelf.Strconv.Itoa0
import Derived.Shelf.Strings.Search1
import Derived.Shelf.Strings.Search2
import Derived.Shelf.Strings.Search3
import Derived.Shelf.Strings.Count
import Derived.Shelf.LaysM
import Derived.Shelf.Strings.Shaped
import Derived.Shelf.Sort.Plain
import Derived.Shelf.Strings.Prefix
import Derived.Shelf.Strings.Split
import Derived.Shelf.Strings.SplitShaped
import Derived.Shelf.Unicode.Decode
import Derived.Shelf.Strings.Runes
import Derived.Shelf.Strings.RuneCount
import Derived.Shelf.Strings.IndexAny
import Derived.Shelf.Strings.AsciiSet
import Derived.Shelf.Strings.IndexAnyAll
import Derived.Shelf.Strings.Explode
import Derived.Shelf.Unicode.DecodeSlow
import Derived.Shelf.Unicode.DecodeAny
import Derived.Shelf.Slices.Equal
import Derived.Ground.Names2Prog
import Derived.Shelf.Slices.SearchI
import Derived.Shelf.Slices.In.SortNone
import Derived.Shelf.Slices.Empties2
import Derived.Ground.SlbCloneProg
import Derived.Shelf.Bytes.SlClone
import Derived.Ground.SlgnProg
import Derived.Shelf.SlicesE.Equal
import Derived.Ground.SlgfProg
import Derived.Shelf.SlicesE.IndexFunc
import Derived.Shelf.SlicesE.DeleteFunc
import Derived.Test.YtakmplpfjcddiaaGreatDoorProg
import Derived.Lib.SplitLaws
import Derived.Lib.Join
import GoSem.Op.String
import Derived.Lib.Hide
import Derived.WalkSmall
import Derived.MapKept
import Derived.ChangeMaps5
import Derived.Maps.RangeRun
import Derived.OwnWalk
set_option linter.unusedVariables false
set_option linter.unusedSimpArgs false
set_option linter.deprecated false
namespace Go.Proofs
open Go.Shelf
def Tryz.lays119_ren : Go.Shelf.Ren := ⟨fun | 119 => 315 | n => n, fun | 21 => 21 | 4 => 4 | n => n, fun | n => n⟩
theorem Tryz.lays119 : Go.Proofs.Lays.n119 Tryz.prog Tryz.lays119_ren := {
  mixed := by kernel_rfl
  f119 := Tryz.func315.trans (congrArg some (by kernel_rfl))
  t4 := Tryz.underlying4
  a4 := Tryz.isAgg4
  z4 := Tryz.sizeOf4
  v4 := Tryz.zeroValue4
  t21 := Tryz.underlying21
  a21 := Tryz.isAgg21
  z21 := Tryz.sizeOf21
  v21 := Tryz.zeroValue21 }
/-- utf8.ValidRune: "ValidRune reports whether r can be legally encoded as UTF-8. Code points that are out of range or a surrogate half are illegal.": IT RETURNS 'Lib.validRune r'; the world is as it was. (LAID: no walk: one application.) -/
theorem Tryz.utf8_ValidRune (r : Int) (w : World) :
    Calls Tryz.prog 315 #[.int .i32 r] w fun e w' => e = .returned (.bool (Lib.validRune r)) ∧ w' = w := Any.utf8_ValidRune Tryz.lays119 r w
def Tryz.lays137_ren : Go.Shelf.Ren := ⟨fun | 137 => 314 | 217 => 319 | 266 => 321 | n => n, fun | 9 => 9 | 5 => 5 | 3 => 3 | n => n, fun | n => n⟩
theorem Tryz.lays137 : Go.Proofs.Lays.n137 Tryz.prog Tryz.lays137_ren := {
  mixed := by kernel_rfl
  f137 := Tryz.func314.trans (congrArg some (by kernel_rfl))
  f217 := Tryz.func319.trans (congrArg some (by kernel_rfl))
  f266 := Tryz.func321.trans (congrArg some (by kernel_rfl))
  t3 := Tryz.underlying3
  a3 := Tryz.isAgg3
  z3 := Tryz.sizeOf3
  v3 := Tryz.zeroValue3
  t5 := Tryz.underlying5
  a5 := Tryz.isAgg5
  z5 := Tryz.sizeOf5
  v5 := Tryz.zeroValue5
  t9 := Tryz.underlying9
  a9 := Tryz.isAgg9
  z9 := Tryz.sizeOf9
  v9 := Tryz.zeroValue9 }
open Go.RowKit in
/-- strings.IndexByte: "IndexByte returns the index of the first instance of c in s, or -1 if c is not present in s.": IT RETURNS 'Lib.indexByte s c'; the world is as it was. (LAID: no walk: one application.) -/
theorem Tryz.strings_IndexByte (s : ByteArray) (c : Int) (w : World) :
    Calls Tryz.prog 314 #[.string s, .int .u8 c] w fun e w' => e = .returned (.int .i64 (Lib.indexByte s.data.toList c.toNat.toUInt8)) ∧ w' = w := Any.strings_IndexByte Tryz.lays137 s c w
def Tryz.lays189_ren : Go.Shelf.Ren := ⟨fun | 189 => 112 | 125 => 180 | 257 => 179 | 128 => 247 | 129 => 248 | 294 => 238 | 295 => 239 | 296 => 240 | 297 => 241 | 298 => 242 | 299 => 243 | 216 => 244 | 300 => 245 | 301 => 246 | 328 => 279 | 329 => 280 | 330 => 281 | 331 => 282 | 332 => 283 | 215 => 284 | 343 => 302 | n => n, fun | 28 => 82 | 3 => 3 | 46 => 235 | 0 => 0 | 51 => 303 | 53 => 305 | 4 => 4 | 183 => 296 | 182 => 295 | 131 => 300 | 5 => 5 | 9 => 9 | 218 => 319 | 222 => 177 | 228 => 332 | 229 => 48 | n => n, fun | n => n⟩
theorem Tryz.lays189 : Go.Proofs.Lays.n189 Tryz.prog Tryz.lays189_ren := {
  mixed := by kernel_rfl
  f125 := Tryz.func180.trans (congrArg some (by kernel_rfl))
  f128 := Tryz.func247.trans (congrArg some (by kernel_rfl))
  f129 := Tryz.func248.trans (congrArg some (by kernel_rfl))
  f189 := Tryz.func112.trans (congrArg some (by kernel_rfl))
  f215 := Tryz.func284.trans (congrArg some (by kernel_rfl))
  f216 := Tryz.func244.trans (congrArg some (by kernel_rfl))
  f257 := Tryz.func179.trans (congrArg some (by kernel_rfl))
  f294 := Tryz.func238.trans (congrArg some (by kernel_rfl))
  f295 := Tryz.func239.trans (congrArg some (by kernel_rfl))
  f296 := Tryz.func240.trans (congrArg some (by kernel_rfl))
  f297 := Tryz.func241.trans (congrArg some (by kernel_rfl))
  f298 := Tryz.func242.trans (congrArg some (by kernel_rfl))
  f299 := Tryz.func243.trans (congrArg some (by kernel_rfl))
  f300 := Tryz.func245.trans (congrArg some (by kernel_rfl))
  f301 := Tryz.func246.trans (congrArg some (by kernel_rfl))
  f328 := Tryz.func279.trans (congrArg some (by kernel_rfl))
  f329 := Tryz.func280.trans (congrArg some (by kernel_rfl))
  f330 := Tryz.func281.trans (congrArg some (by kernel_rfl))
  f331 := Tryz.func282.trans (congrArg some (by kernel_rfl))
  f332 := Tryz.func283.trans (congrArg some (by kernel_rfl))
  f343 := Tryz.func302.trans (congrArg some (by kernel_rfl))
  t0 := Tryz.underlying0
  a0 := Tryz.isAgg0
  z0 := Tryz.sizeOf0
  v0 := Tryz.zeroValue0
  t3 := Tryz.underlying3
  a3 := Tryz.isAgg3
  z3 := Tryz.sizeOf3
  v3 := Tryz.zeroValue3
  t4 := Tryz.underlying4
  a4 := Tryz.isAgg4
  z4 := Tryz.sizeOf4
  v4 := Tryz.zeroValue4
  t5 := Tryz.underlying5
  a5 := Tryz.isAgg5
  z5 := Tryz.sizeOf5
  v5 := Tryz.zeroValue5
  t9 := Tryz.underlying9
  a9 := Tryz.isAgg9
  z9 := Tryz.sizeOf9
  v9 := Tryz.zeroValue9
  t28 := Tryz.underlying82
  a28 := Tryz.isAgg82
  z28 := Tryz.sizeOf82
  v28 := Tryz.zeroValue82
  t46 := Tryz.underlying235
  a46 := Tryz.isAgg235
  z46 := Tryz.sizeOf235
  v46 := Tryz.zeroValue235
  t51 := Tryz.underlying303
  a51 := Tryz.isAgg303
  z51 := Tryz.sizeOf303
  v51 := Tryz.zeroValue303
  t53 := Tryz.underlying305
  a53 := Tryz.isAgg305
  z53 := Tryz.sizeOf305
  v53 := Tryz.zeroValue305
  t131 := Tryz.underlying300
  a131 := Tryz.isAgg300
  z131 := Tryz.sizeOf300
  v131 := Tryz.zeroValue300
  t182 := Tryz.underlying295
  a182 := Tryz.isAgg295
  z182 := Tryz.sizeOf295
  v182 := Tryz.zeroValue295
  t183 := Tryz.underlying296
  a183 := Tryz.isAgg296
  z183 := Tryz.sizeOf296
  v183 := Tryz.zeroValue296
  t218 := Tryz.underlying319
  a218 := Tryz.isAgg319
  z218 := Tryz.sizeOf319
  v218 := Tryz.zeroValue319
  t222 := Tryz.underlying177
  a222 := Tryz.isAgg177
  z222 := Tryz.sizeOf177
  v222 := Tryz.zeroValue177
  t228 := Tryz.underlying332
  a228 := Tryz.isAgg332
  z228 := Tryz.sizeOf332
  v228 := Tryz.zeroValue332
  t229 := Tryz.underlying48
  a229 := Tryz.isAgg48
  z229 := Tryz.sizeOf48
  v229 := Tryz.zeroValue48 }
open Go.Sort Go.RowKit in
theorem Tryz.slices_Sort_int (blk off cap : Nat) (zs : List Int) (w : World) (hH : Holds (Value.int .i64) w blk off zs.toArray) (hblk : blk < w.heap.size) (hsz : zs.length < 4611686018427387904) :
    Calls Tryz.prog 112 #[.slice (some ⟨blk, off, none⟩) zs.length cap] w fun e w' =>
      e = .returned (.tuple #[]) ∧ ∃ n os, w' = grow (putRow (Value.int .i64) (Sort.ahead w n) blk off (zs.mergeSort fun x y => decide (x ≤ y)).toArray) os := Any.slices_Sort_int Tryz.lays189 blk off cap zs w hH hblk hsz
def Tryz.lays190_ren : Go.Shelf.Ren := ⟨fun | 190 => 136 | 125 => 180 | 258 => 199 | 128 => 247 | 129 => 248 | 302 => 256 | 303 => 257 | 304 => 258 | 305 => 259 | 306 => 260 | 307 => 261 | 308 => 262 | 309 => 263 | 310 => 264 | 333 => 287 | 329 => 280 | 330 => 281 | 334 => 288 | 335 => 289 | 336 => 290 | 344 => 303 | n => n, fun | 31 => 42 | 9 => 9 | 3 => 3 | 46 => 235 | 0 => 0 | 51 => 303 | 53 => 305 | 4 => 4 | 183 => 296 | 182 => 295 | 131 => 300 | 5 => 5 | 218 => 319 | 222 => 177 | 228 => 332 | 229 => 48 | n => n, fun | n => n⟩
theorem Tryz.lays190 : Go.Proofs.Lays.n190 Tryz.prog Tryz.lays190_ren := {
  mixed := by kernel_rfl
  f125 := Tryz.func180.trans (congrArg some (by kernel_rfl))
  f128 := Tryz.func247.trans (congrArg some (by kernel_rfl))
  f129 := Tryz.func248.trans (congrArg some (by kernel_rfl))
  f190 := Tryz.func136.trans (congrArg some (by kernel_rfl))
  f258 := Tryz.func199.trans (congrArg some (by kernel_rfl))
  f302 := Tryz.func256.trans (congrArg some (by kernel_rfl))
  f303 := Tryz.func257.trans (congrArg some (by kernel_rfl))
  f304 := Tryz.func258.trans (congrArg some (by kernel_rfl))
  f305 := Tryz.func259.trans (congrArg some (by kernel_rfl))
  f306 := Tryz.func260.trans (congrArg some (by kernel_rfl))
  f307 := Tryz.func261.trans (congrArg some (by kernel_rfl))
  f308 := Tryz.func262.trans (congrArg some (by kernel_rfl))
  f309 := Tryz.func263.trans (congrArg some (by kernel_rfl))
  f310 := Tryz.func264.trans (congrArg some (by kernel_rfl))
  f329 := Tryz.func280.trans (congrArg some (by kernel_rfl))
  f330 := Tryz.func281.trans (congrArg some (by kernel_rfl))
  f333 := Tryz.func287.trans (congrArg some (by kernel_rfl))
  f334 := Tryz.func288.trans (congrArg some (by kernel_rfl))
  f335 := Tryz.func289.trans (congrArg some (by kernel_rfl))
  f336 := Tryz.func290.trans (congrArg some (by kernel_rfl))
  f344 := Tryz.func303.trans (congrArg some (by kernel_rfl))
  t0 := Tryz.underlying0
  a0 := Tryz.isAgg0
  z0 := Tryz.sizeOf0
  v0 := Tryz.zeroValue0
  t3 := Tryz.underlying3
  a3 := Tryz.isAgg3
  z3 := Tryz.sizeOf3
  v3 := Tryz.zeroValue3
  t4 := Tryz.underlying4
  a4 := Tryz.isAgg4
  z4 := Tryz.sizeOf4
  v4 := Tryz.zeroValue4
  t5 := Tryz.underlying5
  a5 := Tryz.isAgg5
  z5 := Tryz.sizeOf5
  v5 := Tryz.zeroValue5
  t9 := Tryz.underlying9
  a9 := Tryz.isAgg9
  z9 := Tryz.sizeOf9
  v9 := Tryz.zeroValue9
  t31 := Tryz.underlying42
  a31 := Tryz.isAgg42
  z31 := Tryz.sizeOf42
  v31 := Tryz.zeroValue42
  t46 := Tryz.underlying235
  a46 := Tryz.isAgg235
  z46 := Tryz.sizeOf235
  v46 := Tryz.zeroValue235
  t51 := Tryz.underlying303
  a51 := Tryz.isAgg303
  z51 := Tryz.sizeOf303
  v51 := Tryz.zeroValue303
  t53 := Tryz.underlying305
  a53 := Tryz.isAgg305
  z53 := Tryz.sizeOf305
  v53 := Tryz.zeroValue305
  t131 := Tryz.underlying300
  a131 := Tryz.isAgg300
  z131 := Tryz.sizeOf300
  v131 := Tryz.zeroValue300
  t182 := Tryz.underlying295
  a182 := Tryz.isAgg295
  z182 := Tryz.sizeOf295
  v182 := Tryz.zeroValue295
  t183 := Tryz.underlying296
  a183 := Tryz.isAgg296
  z183 := Tryz.sizeOf296
  v183 := Tryz.zeroValue296
  t218 := Tryz.underlying319
  a218 := Tryz.isAgg319
  z218 := Tryz.sizeOf319
  v218 := Tryz.zeroValue319
  t222 := Tryz.underlying177
  a222 := Tryz.isAgg177
  z222 := Tryz.sizeOf177
  v222 := Tryz.zeroValue177
  t228 := Tryz.underlying332
  a228 := Tryz.isAgg332
  z228 := Tryz.sizeOf332
  v228 := Tryz.zeroValue332
  t229 := Tryz.underlying48
  a229 := Tryz.isAgg48
  z229 := Tryz.sizeOf48
  v229 := Tryz.zeroValue48 }
open Go.Sort Go.RowKit in
theorem Tryz.slices_Sort_string (blk off cap : Nat) (ss : List (List UInt8)) (w : World) (hH : Holds encStr w blk off ss.toArray) (hblk : blk < w.heap.size) (hsz : ss.length < 4611686018427387904) :
    Calls Tryz.prog 136 #[.slice (some ⟨blk, off, none⟩) ss.length cap] w fun e w' =>
      e = .returned (.tuple #[]) ∧ ∃ n os, w' = grow (putRow encStr (Sort.ahead w n) blk off (ss.mergeSort fun x y => decide (x ≤ y)).toArray) os := Any.slices_Sort_string Tryz.lays190 blk off cap ss w hH hblk hsz
def Tryz.lays99_ren : Go.Shelf.Ren := ⟨fun | 99 => 206 | 206 => 267 | n => n, fun | 9 => 9 | 4 => 4 | 3 => 3 | n => n, fun | n => n⟩
theorem Tryz.lays99 : Go.Proofs.Lays.n99 Tryz.prog Tryz.lays99_ren := {
  mixed := by kernel_rfl
  f99 := Tryz.func206.trans (congrArg some (by kernel_rfl))
  f206 := Tryz.func267.trans (congrArg some (by kernel_rfl))
  t3 := Tryz.underlying3
  a3 := Tryz.isAgg3
  z3 := Tryz.sizeOf3
  v3 := Tryz.zeroValue3
  t4 := Tryz.underlying4
  a4 := Tryz.isAgg4
  z4 := Tryz.sizeOf4
  v4 := Tryz.zeroValue4
  t9 := Tryz.underlying9
  a9 := Tryz.isAgg9
  z9 := Tryz.sizeOf9
  v9 := Tryz.zeroValue9 }
open Go.RowKit Go.Lib in
/-- strings.HasPrefix: "HasPrefix reports whether the string s begins with prefix.": IT RETURNS 'Lib.hasPrefix s prefix'; the world is as it was. (LAID: no walk: one application.) -/
theorem Tryz.strings_HasPrefix (s p : ByteArray) (w : World) :
    Calls Tryz.prog 206 #[.string s, .string p] w fun e w' => e = .returned (.bool (Lib.hasPrefix s.data.toList p.data.toList)) ∧ w' = w := Any.strings_HasPrefix Tryz.lays99 s p w
def Tryz.lays146_ren : Go.Shelf.Ren := ⟨fun | 146 => 207 | 221 => 268 | 268 => 292 | 138 => 293 | 143 => 294 | 195 => 308 | 197 => 309 | 218 => 310 | 219 => 311 | 260 => 318 | 217 => 319 | 225 => 317 | 224 => 316 | 267 => 320 | 266 => 321 | 314 => 322 | n => n, fun | 9 => 9 | 31 => 42 | 3 => 3 | 4 => 4 | 0 => 0 | 105 => 341 | 21 => 21 | 5 => 5 | 46 => 235 | 119 => 349 | 139 => 352 | 138 => 351 | 146 => 353 | 51 => 303 | n => n, fun | 1 => 0 | 3 => 1 | 4 => 2 | n => n⟩
theorem Tryz.lays146 : Go.Proofs.Lays.n146 Tryz.prog Tryz.lays146_ren := {
  mixed := by kernel_rfl
  f138 := Tryz.func293.trans (congrArg some (by kernel_rfl))
  f143 := Tryz.func294.trans (congrArg some (by kernel_rfl))
  f146 := Tryz.func207.trans (congrArg some (by kernel_rfl))
  f195 := Tryz.func308.trans (congrArg some (by kernel_rfl))
  f197 := Tryz.func309.trans (congrArg some (by kernel_rfl))
  f217 := Tryz.func319.trans (congrArg some (by kernel_rfl))
  f218 := Tryz.func310.trans (congrArg some (by kernel_rfl))
  f219 := Tryz.func311.trans (congrArg some (by kernel_rfl))
  f221 := Tryz.func268.trans (congrArg some (by kernel_rfl))
  f224 := Tryz.func316.trans (congrArg some (by kernel_rfl))
  f225 := Tryz.func317.trans (congrArg some (by kernel_rfl))
  f260 := Tryz.func318.trans (congrArg some (by kernel_rfl))
  f266 := Tryz.func321.trans (congrArg some (by kernel_rfl))
  f267 := Tryz.func320.trans (congrArg some (by kernel_rfl))
  f268 := Tryz.func292.trans (congrArg some (by kernel_rfl))
  f314 := Tryz.func322.trans (congrArg some (by kernel_rfl))
  t0 := Tryz.underlying0
  a0 := Tryz.isAgg0
  z0 := Tryz.sizeOf0
  v0 := Tryz.zeroValue0
  t3 := Tryz.underlying3
  a3 := Tryz.isAgg3
  z3 := Tryz.sizeOf3
  v3 := Tryz.zeroValue3
  t4 := Tryz.underlying4
  a4 := Tryz.isAgg4
  z4 := Tryz.sizeOf4
  v4 := Tryz.zeroValue4
  t5 := Tryz.underlying5
  a5 := Tryz.isAgg5
  z5 := Tryz.sizeOf5
  v5 := Tryz.zeroValue5
  t9 := Tryz.underlying9
  a9 := Tryz.isAgg9
  z9 := Tryz.sizeOf9
  v9 := Tryz.zeroValue9
  t21 := Tryz.underlying21
  a21 := Tryz.isAgg21
  z21 := Tryz.sizeOf21
  v21 := Tryz.zeroValue21
  t31 := Tryz.underlying42
  a31 := Tryz.isAgg42
  z31 := Tryz.sizeOf42
  v31 := Tryz.zeroValue42
  t46 := Tryz.underlying235
  a46 := Tryz.isAgg235
  z46 := Tryz.sizeOf235
  v46 := Tryz.zeroValue235
  t51 := Tryz.underlying303
  a51 := Tryz.isAgg303
  z51 := Tryz.sizeOf303
  v51 := Tryz.zeroValue303
  t105 := Tryz.underlying341
  a105 := Tryz.isAgg341
  z105 := Tryz.sizeOf341
  v105 := Tryz.zeroValue341
  t119 := Tryz.underlying349
  a119 := Tryz.isAgg349
  z119 := Tryz.sizeOf349
  t138 := Tryz.underlying351
  a138 := Tryz.isAgg351
  z138 := Tryz.sizeOf351
  v138 := Tryz.zeroValue351
  t139 := Tryz.underlying352
  a139 := Tryz.isAgg352
  z139 := Tryz.sizeOf352
  v139 := Tryz.zeroValue352
  t146 := Tryz.underlying353
  a146 := Tryz.isAgg353
  z146 := Tryz.sizeOf353
  v146 := Tryz.zeroValue353
  g1 := by kernel_rfl
  g3 := by kernel_rfl
  g4 := by kernel_rfl }
open Go.RowKit Go.Lib in
/-- strings.Split. (LAID: no walk: one application.) -/
theorem Tryz.strings_Split (s sep : ByteArray) (m : Int) (w : World) (hs : s.size < 4294967281) (hm : w.cell? ⟨0, 0, none⟩ = some (.int .i64 m)) (h1 : 1 ≤ sep.size) :
    Calls Tryz.prog 207 #[.string s, .string sep] w fun e w' =>
      e = .returned (.slice (some ⟨w.heap.size, 0, none⟩) (Lib.countB s sep + 1) (Lib.countB s sep + 1)) ∧ w' = w.alloc (.cells ((Lib.splitB sep 0 (Lib.countB s sep) s).map Value.string).toArray 9) := Any.strings_Split Tryz.lays146 (by kernel_rfl) s sep m w hs hm h1
def Tryz.lays152_ren : Go.Shelf.Ren := ⟨fun | 152 => 304 | 137 => 314 | 119 => 315 | 224 => 316 | 225 => 317 | 217 => 319 | 266 => 321 | n => n, fun | 9 => 9 | 21 => 21 | 3 => 3 | 4 => 4 | 5 => 5 | 0 => 0 | 46 => 235 | n => n, fun | n => n⟩
theorem Tryz.lays152 : Go.Proofs.Lays.n152 Tryz.prog Tryz.lays152_ren := {
  mixed := by kernel_rfl
  f119 := Tryz.func315.trans (congrArg some (by kernel_rfl))
  f137 := Tryz.func314.trans (congrArg some (by kernel_rfl))
  f152 := Tryz.func304.trans (congrArg some (by kernel_rfl))
  f217 := Tryz.func319.trans (congrArg some (by kernel_rfl))
  f224 := Tryz.func316.trans (congrArg some (by kernel_rfl))
  f225 := Tryz.func317.trans (congrArg some (by kernel_rfl))
  f266 := Tryz.func321.trans (congrArg some (by kernel_rfl))
  t0 := Tryz.underlying0
  a0 := Tryz.isAgg0
  z0 := Tryz.sizeOf0
  v0 := Tryz.zeroValue0
  t3 := Tryz.underlying3
  a3 := Tryz.isAgg3
  z3 := Tryz.sizeOf3
  v3 := Tryz.zeroValue3
  t4 := Tryz.underlying4
  a4 := Tryz.isAgg4
  z4 := Tryz.sizeOf4
  v4 := Tryz.zeroValue4
  t5 := Tryz.underlying5
  a5 := Tryz.isAgg5
  z5 := Tryz.sizeOf5
  v5 := Tryz.zeroValue5
  t9 := Tryz.underlying9
  a9 := Tryz.isAgg9
  z9 := Tryz.sizeOf9
  v9 := Tryz.zeroValue9
  t21 := Tryz.underlying21
  a21 := Tryz.isAgg21
  z21 := Tryz.sizeOf21
  v21 := Tryz.zeroValue21
  t46 := Tryz.underlying235
  a46 := Tryz.isAgg235
  z46 := Tryz.sizeOf235
  v46 := Tryz.zeroValue235 }
open Go.RowKit Go.Lib in
theorem Tryz.strings_IndexRune_ascii (s : ByteArray) (r : Int) (w : World) (h0 : 0 ≤ r) (h1 : r < 128) :
    Calls Tryz.prog 304 #[.string s, .int .i32 r] w fun e w' => e = .returned (.int .i64 (Lib.indexByte s.data.toList r.toNat.toUInt8)) ∧ w' = w := Any.strings_IndexRune_ascii Tryz.lays152 s r w h0 h1
def Tryz.lays226_ren : Go.Shelf.Ren := ⟨fun | 226 => 305 | n => n, fun | 3 => 3 | 4 => 4 | n => n, fun | n => n⟩
theorem Tryz.lays226 : Go.Proofs.Lays.n226 Tryz.prog Tryz.lays226_ren := {
  mixed := by kernel_rfl
  f226 := Tryz.func305.trans (congrArg some (by kernel_rfl))
  t3 := Tryz.underlying3
  a3 := Tryz.isAgg3
  z3 := Tryz.sizeOf3
  v3 := Tryz.zeroValue3
  t4 := Tryz.underlying4
  a4 := Tryz.isAgg4
  z4 := Tryz.sizeOf4
  v4 := Tryz.zeroValue4 }
open Go.RowKit Go.Lib in
theorem Tryz.strings_shouldUseASCIISet (n : Int) (w : World) :
    Calls Tryz.prog 305 #[.int .i64 n] w fun e w' => e = .returned (.bool (decide (8 < n))) ∧ w' = w := Any.strings_shouldUseASCIISet Tryz.lays226 n w
def Tryz.lays153_ren : Go.Shelf.Ren := ⟨fun | 153 => 291 | 152 => 304 | 226 => 305 | 227 => 306 | 228 => 307 | 137 => 314 | 119 => 315 | 224 => 316 | 225 => 317 | 217 => 319 | 266 => 321 | n => n, fun | 9 => 9 | 3 => 3 | 4 => 4 | 5 => 5 | 21 => 21 | 117 => 338 | 116 => 337 | 0 => 0 | 46 => 235 | 124 => 348 | n => n, fun | n => n⟩
theorem Tryz.lays153 : Go.Proofs.Lays.n153 Tryz.prog Tryz.lays153_ren := {
  mixed := by kernel_rfl
  f119 := Tryz.func315.trans (congrArg some (by kernel_rfl))
  f137 := Tryz.func314.trans (congrArg some (by kernel_rfl))
  f152 := Tryz.func304.trans (congrArg some (by kernel_rfl))
  f153 := Tryz.func291.trans (congrArg some (by kernel_rfl))
  f217 := Tryz.func319.trans (congrArg some (by kernel_rfl))
  f224 := Tryz.func316.trans (congrArg some (by kernel_rfl))
  f225 := Tryz.func317.trans (congrArg some (by kernel_rfl))
  f226 := Tryz.func305.trans (congrArg some (by kernel_rfl))
  f227 := Tryz.func306.trans (congrArg some (by kernel_rfl))
  f228 := Tryz.func307.trans (congrArg some (by kernel_rfl))
  f266 := Tryz.func321.trans (congrArg some (by kernel_rfl))
  t0 := Tryz.underlying0
  a0 := Tryz.isAgg0
  z0 := Tryz.sizeOf0
  v0 := Tryz.zeroValue0
  t3 := Tryz.underlying3
  a3 := Tryz.isAgg3
  z3 := Tryz.sizeOf3
  v3 := Tryz.zeroValue3
  t4 := Tryz.underlying4
  a4 := Tryz.isAgg4
  z4 := Tryz.sizeOf4
  v4 := Tryz.zeroValue4
  t5 := Tryz.underlying5
  a5 := Tryz.isAgg5
  z5 := Tryz.sizeOf5
  v5 := Tryz.zeroValue5
  t9 := Tryz.underlying9
  a9 := Tryz.isAgg9
  z9 := Tryz.sizeOf9
  v9 := Tryz.zeroValue9
  t21 := Tryz.underlying21
  a21 := Tryz.isAgg21
  z21 := Tryz.sizeOf21
  v21 := Tryz.zeroValue21
  t46 := Tryz.underlying235
  a46 := Tryz.isAgg235
  z46 := Tryz.sizeOf235
  v46 := Tryz.zeroValue235
  t116 := Tryz.underlying337
  a116 := Tryz.isAgg337
  z116 := Tryz.sizeOf337
  t117 := Tryz.underlying338
  a117 := Tryz.isAgg338
  z117 := Tryz.sizeOf338
  v117 := Tryz.zeroValue338
  t124 := Tryz.underlying348
  a124 := Tryz.isAgg348
  z124 := Tryz.sizeOf348
  v124 := Tryz.zeroValue348 }
open Go.RowKit Go.Lib in
theorem Tryz.strings_IndexAny_long (hv116 : ∀ w, (zeroValue 337).run Tryz.prog w = .ok (.agg (Array.replicate 256 (.bool false))) w) (s chars : ByteArray) (w : World) (h2 : 2 ≤ chars.size) (h8 : 8 < s.size) (hs : s.size < 4294967281) (hcs : chars.size < 4294967281) (hascii : ∀ (j : Nat) b, chars.data.toList[j]? = some b → b.toNat < 128) :
    Calls Tryz.prog 291 #[.string s, .string chars] w fun e w' => e = .returned (.int .i64 (Lib.indexAny s.data.toList chars.data.toList)) ∧ w' = ((w.alloc (.cells (Lib.setCells chars.data.toList) 337)).alloc (.cells (Lib.setCells chars.data.toList) 337)) := Any.strings_IndexAny_long Tryz.lays153 hv116 (by kernel_rfl) s chars w h2 h8 hs hcs hascii
def Tryz.lays193_ren : Go.Shelf.Ren := ⟨fun | 193 => 87 | n => n, fun | 31 => 42 | 9 => 9 | 4 => 4 | 3 => 3 | 0 => 0 | n => n, fun | n => n⟩
theorem Tryz.lays193 : Go.Proofs.Lays.n193 Tryz.prog Tryz.lays193_ren := {
  mixed := by kernel_rfl
  f193 := Tryz.func87.trans (congrArg some (by kernel_rfl))
  t0 := Tryz.underlying0
  a0 := Tryz.isAgg0
  z0 := Tryz.sizeOf0
  v0 := Tryz.zeroValue0
  t3 := Tryz.underlying3
  a3 := Tryz.isAgg3
  z3 := Tryz.sizeOf3
  v3 := Tryz.zeroValue3
  t4 := Tryz.underlying4
  a4 := Tryz.isAgg4
  z4 := Tryz.sizeOf4
  v4 := Tryz.zeroValue4
  t9 := Tryz.underlying9
  a9 := Tryz.isAgg9
  z9 := Tryz.sizeOf9
  v9 := Tryz.zeroValue9
  t31 := Tryz.underlying42
  a31 := Tryz.isAgg42
  z31 := Tryz.sizeOf42
  v31 := Tryz.zeroValue42 }
open Go.RowKit Go.Lib in
/-- slices.Equal at []string: "Equal reports whether two slices are equal: the same length and all elements equal. If the lengths are different, Equal returns false. Otherwise, the elements are compared in increasing index order, and the comparison stops at the first unequal pair. Empty and nil slices are considered equal.": IT RETURNS WHETHER THE TWO LISTS OF ELEMENTS ARE ONE; the world is as it was but for the count of draws (the test 's1[i] != s2[i]' has two reads, whose order the model draws, once a round). 'xs', 'ys': what the cells behind the two addresses hold (the spare capacity too, if you have it); 'xs.take n', 'ys.take m': the elements. THE TWO SLICES MAY OVERLAP. (LAID: no walk: one application.) -/
theorem Tryz.slices_Equal_string (b1 o1 n c b2 o2 m d : Nat) (xs ys : List ByteArray) (w : World) (hx : n ≤ xs.length) (hy : m ≤ ys.length) (hbig : n ≤ 9223372036854775807) (hbig2 : m ≤ 9223372036854775807) (hc1 : ∀ j, j < xs.length → w.cell? ⟨b1, o1 + j, none⟩ = some (.string (xs.getD j ByteArray.empty))) (hc2 : ∀ j, j < ys.length → w.cell? ⟨b2, o2 + j, none⟩ = some (.string (ys.getD j ByteArray.empty))) :
    Calls Tryz.prog 87 #[.slice (some ⟨b1, o1, none⟩) n c, .slice (some ⟨b2, o2, none⟩) m d] w fun e w' => e = .returned (.bool (decide (xs.take n = ys.take m))) ∧ ∃ q, w' = w.drewN q := Any.slices_Equal_string Tryz.lays193 b1 o1 n c b2 o2 m d xs ys w hx hy hbig hbig2 hc1 hc2
open Go.RowKit Go.Sort in
/-- .. and plain. (LAID: no walk: one application.) -/
theorem Tryz.slices_Sort_string_none (p : Option Addr) (cap : Nat) (w : World) :
    Calls Tryz.prog 136 #[.slice p 0 cap] w fun e w' => e = .returned (.tuple #[]) ∧ w' = w := Any.slices_Sort_string_none Tryz.lays190 p cap w
open Go.RowKit Go.Sort in
/-- .. and plain. (LAID: no walk: one application.) -/
theorem Tryz.slices_Sort_int_none (p : Option Addr) (cap : Nat) (w : World) :
    Calls Tryz.prog 112 #[.slice p 0 cap] w fun e w' => e = .returned (.tuple #[]) ∧ w' = w := Any.slices_Sort_int_none Tryz.lays189 p cap w
def Tryz.laysSlK4_ren : Go.Shelf.Ren := ⟨fun | 4 => 195 | n => n, fun | 22 => 37 | 4 => 4 | 5 => 5 | n => n, fun | n => n⟩
theorem Tryz.laysSlK4 : Go.Proofs.SlLaysK.n4 Tryz.prog Tryz.laysSlK4_ren := {
  mixed := by kernel_rfl
  f4 := Tryz.func195.trans (congrArg some (by kernel_rfl))
  t4 := Tryz.underlying4
  a4 := Tryz.isAgg4
  z4 := Tryz.sizeOf4
  v4 := Tryz.zeroValue4
  t22 := Tryz.underlying37
  a22 := Tryz.isAgg37
  z22 := Tryz.sizeOf37
  v22 := Tryz.zeroValue37
  t5 := Tryz.underlying5
  i5 := by kernel_rfl }
open Go.RowKit Go.Lib in
/-- bytes.Clone: "Clone returns a copy of b[:len(b)]. The result may have additional unused capacity.": OF A SLICE THAT IS NOT nil IT RETURNS A SLICE THAT IS NOT nil, OF THE SAME BYTES, IN MEMORY OF THE CALL's OWN: in the how-to's words (6f): 'w'.ownsRow B e 1 v' n cells' · 'Below B w w'', B the heap's size at the call. b AT WHATEVER ADDRESS, its cells as 'open_ints' hands them ('a.add i'; the numbers 'xs'). No byte: no cell is asked for. (LAID: no walk: one application.) -/
theorem Tryz.bytes_Clone_at (a : Addr) (n c : Nat) (xs : List Int) (w : World) (hx : xs.length = n) (hbig : n ≤ 140737488355328) (hc : ∀ i, i < n → w.cell? (a.add i) = some (.int .u8 (xs.getD i 0))) :
    Calls Tryz.prog 195 #[.slice (some a) n c] w fun e w' => ∃ v', e = .returned v' ∧ w'.ownsRow w.heap.size 5 1 v' n (xs.map (Value.int .u8)) ∧ v' ≠ .slice none 0 0 ∧ Below w.heap.size w w' := Any.bytes_Clone_at Tryz.laysSlK4 a n c xs w hx hbig hc
open Go.RowKit Go.Lib in
/-- "Clone(nil) returns nil.": the world is as it was. (LAID: no walk: one application.) -/
theorem Tryz.bytes_Clone_nil (n c : Nat) (w : World) :
    Calls Tryz.prog 195 #[.slice none n c] w fun e w' => e = .returned (.slice none 0 0) ∧ w' = w := Any.bytes_Clone_nil Tryz.laysSlK4 n c w
def Tryz.laysSlH6_f286_ren : Go.Shelf.Ren := ⟨fun | 6 => 286 | n => n, fun | 22 => 82 | 23 => 3 | 25 => 36 | 3 => 3 | 0 => 0 | 4 => 4 | n => n, fun | n => n⟩
theorem Tryz.laysSlH6_f286 : Go.Proofs.SlLaysH.n6 Tryz.prog Tryz.laysSlH6_f286_ren := {
  mixed := by kernel_rfl
  f6 := ⟨Tryz.f286.name, by decide, Tryz.func286.trans (congrArg some (by kernel_rfl))⟩
  t0 := Tryz.underlying0
  a0 := Tryz.isAgg0
  z0 := Tryz.sizeOf0
  v0 := Tryz.zeroValue0
  t3 := Tryz.underlying3
  a3 := Tryz.isAgg3
  z3 := Tryz.sizeOf3
  v3 := Tryz.zeroValue3
  t4 := Tryz.underlying4
  a4 := Tryz.isAgg4
  z4 := Tryz.sizeOf4
  v4 := Tryz.zeroValue4
  t22 := Tryz.underlying82
  a22 := Tryz.isAgg82
  z22 := Tryz.sizeOf82
  v22 := Tryz.zeroValue82
  a23 := Tryz.isAgg3
  z23 := Tryz.sizeOf3
  t25 := Tryz.underlying36
  a25 := Tryz.isAgg36
  z25 := Tryz.sizeOf36
  v25 := Tryz.zeroValue36 }
open Go.RowKit Go.Lib in
/-- The same at a slice of length 0, a nil one too: the predicate is not called: nothing is asked of it. (LAID AT THE INSTANCE 'slices.IndexFunc[[]int,int]': no walk: one application.) -/
theorem Tryz.slices_IndexFunc_empty {α : Type} [Inhabited α] (a : Option Addr) (c : Nat) (fv : Value) (w : World) :
    Calls Tryz.prog 286 #[.slice a 0 c, fv] w fun e w' => e = .returned (.int .i64 (-1)) ∧ w' = w := AnyE.slices_IndexFunc_empty Tryz.laysSlH6_f286 a c fv w
def Tryz.laysSlH10_f254_ren : Go.Shelf.Ren := ⟨fun | 10 => 254 | 6 => 286 | n => n, fun | 22 => 82 | 23 => 3 | 25 => 36 | 3 => 3 | 4 => 4 | 0 => 0 | n => n, fun | n => n⟩
theorem Tryz.laysSlH10_f254 : Go.Proofs.SlLaysH.n10 Tryz.prog Tryz.laysSlH10_f254_ren := {
  mixed := by kernel_rfl
  f6 := ⟨Tryz.f286.name, by decide, Tryz.func286.trans (congrArg some (by kernel_rfl))⟩
  f10 := ⟨Tryz.f254.name, by decide, Tryz.func254.trans (congrArg some (by kernel_rfl))⟩
  t0 := Tryz.underlying0
  a0 := Tryz.isAgg0
  z0 := Tryz.sizeOf0
  v0 := Tryz.zeroValue0
  t3 := Tryz.underlying3
  a3 := Tryz.isAgg3
  z3 := Tryz.sizeOf3
  v3 := Tryz.zeroValue3
  t4 := Tryz.underlying4
  a4 := Tryz.isAgg4
  z4 := Tryz.sizeOf4
  v4 := Tryz.zeroValue4
  t22 := Tryz.underlying82
  a22 := Tryz.isAgg82
  z22 := Tryz.sizeOf82
  v22 := Tryz.zeroValue82
  a23 := Tryz.isAgg3
  z23 := Tryz.sizeOf3
  t25 := Tryz.underlying36
  a25 := Tryz.isAgg36
  z25 := Tryz.sizeOf36
  v25 := Tryz.zeroValue36 }
open Go.RowKit Go.Lib Go.Sort in
theorem Tryz.slices_DeleteFunc {α : Type} [Inhabited α] (enc : α → Value) (hO : OneCell enc) (p : α → Bool) (g : Nat) (lb : Array Value) (eg : ∀ args w, (callFunc g args).run Tryz.prog w = .ok (.enter g args) w) (zr : α) (v23 : ∀ w, (zeroValue 3).run Tryz.prog w = .ok (enc zr) w) (blk off cap : Nat) (d : Array α) (w : World) (hp : PredAt Tryz.prog g lb enc p w) (hpo : PredOver Tryz.prog g lb enc p blk off d.size w) (hH : Holds enc w blk off d) (hsz : d.size ≤ 9223372036854775807) (hcap : d.size ≤ cap) :
    Calls Tryz.prog 254 #[.slice (some ⟨blk, off, none⟩) d.size cap, .func (.func g) #[] lb] w fun e w' => e = .returned (.slice (some ⟨blk, off, none⟩) (d.toList.filter fun x => !p x).length cap) ∧ ∃ q, w' = putRow enc (Sort.ahead w q) blk off ((d.toList.filter fun x => !p x) ++ List.replicate (d.size - (d.toList.filter fun x => !p x).length) zr).toArray := AnyE.slices_DeleteFunc Tryz.laysSlH10_f254 enc hO p g lb eg zr v23 blk off cap d w hp hpo hH hsz hcap
end Go.Proofs

namespace Go.Proofs.YtakmplpfjcddiaaGreatDoor.Pa
abbrev Str := List UInt8
/-- A name: 1 to 59 bytes, neither . nor .., no / and no 0. -/
def nameOk (s : Str) : Bool := !s.isEmpty && decide (s.length ≤ 59) && s != [46] && s != [46, 46] && !s.contains 47 && !s.contains 0
/-- The pieces between strokes. -/
def spl : Str → List Str
  | [] => [[]]
  | c :: s => if c = 47 then [] :: spl s else match spl s with
    | [] => [[c]]
    | h :: t => (c :: h) :: t
theorem split_eq_spl : ∀ s : Str, Lib.split s [47] = spl s
  | [] => by simp [Lib.split, Lib.splitK, spl, Lib.count_one]
  | c :: s => by
    have ih := split_eq_spl s
    by_cases h : c = 47
    · subst h
      have hc := Lib.count_cons_eq 47 s
      have hix : Lib.index (47 :: s) [47] = 0 := by rw [Lib.index]; simp [List.isPrefixOf]
      unfold Lib.split at ih ⊢
      rw [hc, Nat.add_comm, Lib.splitK, hix, spl]
      simp [ih]
    · have hc := Lib.count_cons_ne c 47 s h
      have hp : ([47] : List UInt8).isPrefixOf (c :: s) = false := by simp [List.isPrefixOf, Ne.symm h]
      have hix : Lib.index (c :: s) [47] = if Lib.index s [47] == -1 then -1 else Lib.index s [47] + 1 := by rw [Lib.index, hp]; simp
      unfold Lib.split at ih ⊢
      rw [hc, spl, if_neg h]
      cases hk : Lib.count s [47] with
      | zero =>
        rw [hk, Lib.splitK] at ih
        rw [Lib.splitK, ← ih]
      | succ k =>
        by_cases hm : Lib.index s [47] = -1
        · have := Lib.count_miss hm
          omega
        · have hge := Lib.index_ge s [47]
          obtain ⟨j, hj⟩ : ∃ j : Nat, Lib.index s [47] = j := ⟨(Lib.index s [47]).toNat, by omega⟩
          rw [hk, Lib.splitK, hj] at ih
          rw [hj] at hix
          have h1 : (((j : Nat) : Int) == -1) = false := by simp <;> omega
          rw [h1] at hix ih
          simp only [Bool.false_eq_true, if_false] at hix ih
          have h2 : (((j : Nat) : Int) + 1 == -1) = false := by simp <;> omega
          rw [Lib.splitK, hix, h2, ← ih]
          have e1 : (((j : Nat) : Int) + 1).toNat = j + 1 := by omega
          simp [e1]
/-- What dir.Split answers: the names of a path; none: it is no path. -/
def splitP (p : Str) : Option (List Str) :=
  if p.head? = some 47 ∧ p.length ≤ 255 then
    if p = [47] then some []
    else if (spl p.tail).length ≤ 16 ∧ (spl p.tail).all nameOk then some (spl p.tail) else none
  else none
/-- The names of a path, none of what is no path. -/
def names (p : Str) : List Str := (splitP p).getD []
end Go.Proofs.YtakmplpfjcddiaaGreatDoor.Pa

namespace Go.Proofs.YtakmplpfjcddiaaGreatDoor.Pa
theorem splitP_root : splitP [47] = some [] := by decide
/-- Does a path lie below another one? (As strings.HasPrefix of the one with a stroke behind.) -/
def isBelow (top p : Str) : Bool := (if top = [47] then top else top ++ [47]).isPrefixOf p
end Go.Proofs.YtakmplpfjcddiaaGreatDoor.Pa

namespace Go.Proofs.YtakmplpfjcddiaaGreatDoor.Pa
/-- A node of a tree. -/
structure Nd where
  path : Str
  kind : Int
  mode : Int
  link : Str
  data : Str
/-- A change of a layer. -/
structure Ch where
  kind : Int
  path : Str
  name : Str
  nkind : Int
  mode : Int
  link : Str
  data : Str
def look (T : List Nd) (p : Str) : Option Nd := T.find? (fun n => decide (n.path = p))
def kindAt (T : List Nd) (p : Str) : Int := ((look T p).map (·.kind)).getD 0
def setN (T : List Nd) (n : Nd) : List Nd := if (look T n.path).isSome then T.map (fun x => if x.path = n.path then n else x) else T ++ [n]
def delN (T : List Nd) (p : Str) : List Nd := T.filter (fun n => !decide (n.path = p))
def delBelow (T : List Nd) (p : Str) : List Nd := T.filter (fun n => !isBelow p n.path)
def place (T : List Nd) (n : Nd) : List Nd := setN (if n.kind = 2 ∧ kindAt T n.path = 2 then T else delBelow T n.path) n
/-- The Whiteouts and Opaques. -/
def gone : List Nd → List Ch → List Nd
  | T, [] => T
  | T, c :: r => gone (if c.kind = 1 then T else if c.kind = 2 then delN (delBelow T c.path) c.path else delBelow T c.path) r
end Go.Proofs.YtakmplpfjcddiaaGreatDoor.Pa

namespace Go.Proofs.YtakmplpfjcddiaaGreatDoor
open Go.RowKit Go.Shelf Pa
/-- A text of bytes. -/
def bs (s : Str) : ByteArray := ⟨s.toArray⟩
theorem bs_list (s : Str) : (bs s).data.toList = s := rfl
theorem bs_toList (s : Str) : (bs s).toList = s := by rw [Lib.toList_data]; rfl
theorem bs_of (b : ByteArray) : bs b.data.toList = b := rfl
theorem bs_size (s : Str) : (bs s).size = s.length := rfl
theorem ret_bool {a b : Bool} (h : a = b) : Ending.returned (.bool a) = .returned (.bool b) := by rw [h]
theorem ret_int {k : IntKind} {a b : Int} (h : a = b) : Ending.returned (.int k a) = .returned (.int k b) := by rw [h]
/-- Below, and no draw is given back. -/
structure BelowD (B : Nat) (w w' : World) : Prop extends Below B w w' where
  drawn : w.drawn ≤ w'.drawn
instance {B : Nat} {w w' : World} : Coe (BelowD B w w') (Below B w w') := ⟨BelowD.toBelow⟩
theorem BelowD.refl (B : Nat) (w : World) : BelowD B w w := ⟨Below.refl B w, Nat.le_refl _⟩
theorem BelowD.trans {B : Nat} {a b c : World} (h : BelowD B a b) (k : BelowD B b c) : BelowD B a c := ⟨h.toBelow.trans k.toBelow, Nat.le_trans h.drawn k.drawn⟩
theorem BelowD.mono {B B' : Nat} {w w' : World} (h : BelowD B w w') (hB : B' ≤ B) : BelowD B' w w' := ⟨h.toBelow.mono hB, h.drawn⟩
theorem BelowD.drew {B : Nat} {a w : World} (h : BelowD B a w) : BelowD B a w.drew := ⟨h.toBelow.drew, Nat.le_trans h.drawn (Nat.le_succ _)⟩
theorem BelowD.alloc {B : Nat} {a w : World} (h : BelowD B a w) (hB : B ≤ w.heap.size) (o : Obj) : BelowD B a (w.alloc o) := ⟨h.toBelow.alloc hB o, h.drawn⟩
theorem BelowD.setCell {B : Nat} {a w : World} (h : BelowD B a w) {p : Addr} (hp : B ≤ p.block) (u : Value) : BelowD B a (w.setCell p u) := ⟨h.toBelow.setCell hp u, by simpa using h.drawn⟩
theorem belowD_drewN {B : Nat} {a w : World} (h : BelowD B a w) (n : Nat) : BelowD B a (w.drewN n) := ⟨below_drewN h.toBelow n, Nat.le_trans h.drawn (Nat.le_add_right _ _)⟩
/-- A slice of texts below a block. -/
def StrsAt (w : World) (B : Nat) (v : Value) (l : List Str) : Prop :=
  ∃ A c, v = .slice A l.length c ∧ l.length ≤ c ∧ (l ≠ [] → ∃ b o, A = some ⟨b, o, none⟩ ∧ b < B ∧ ∀ i s, l[i]? = some s → w.cell? ⟨b, o + i, none⟩ = some (.string (bs s)))
theorem StrsAt.nil (w : World) (B c : Nat) (A : Option Addr) : StrsAt w B (.slice A 0 c) [] := ⟨A, c, rfl, Nat.zero_le _, fun h => absurd rfl h⟩
theorem StrsAt.below {w w' : World} {B : Nat} {v : Value} {l : List Str} (h : StrsAt w B v l) (hb : Below B w w') : StrsAt w' B v l := by
  obtain ⟨A, c, e, hc, h⟩ := h
  refine ⟨A, c, e, hc, fun hn => ?_⟩
  obtain ⟨b, o, e, hB, h⟩ := h hn
  exact ⟨b, o, e, hB, fun i s hs => (hb.cell (p := ⟨b, o + i, none⟩) hB).trans (h i s hs)⟩
theorem StrsAt.more {w : World} {B B' : Nat} {v : Value} {l : List Str} (h : StrsAt w B v l) (hB : B ≤ B') : StrsAt w B' v l := by
  obtain ⟨A, c, e, hc, h⟩ := h
  refine ⟨A, c, e, hc, fun hn => ?_⟩
  obtain ⟨b, o, e, hb, h⟩ := h hn
  exact ⟨b, o, e, by omega, h⟩
end Go.Proofs.YtakmplpfjcddiaaGreatDoor

namespace Go.Proofs.YtakmplpfjcddiaaGreatDoor
open Go.RowKit Go.Shelf Pa
/-- A slice of bytes below a block. -/
def BytesAt (w : World) (B : Nat) (v : Value) (l : Str) : Prop :=
  ∃ A c, v = .slice A l.length c ∧ (l.length ≤ c ∧ l.length ≤ 140737488355328) ∧ (l ≠ [] → ∃ b o, A = some ⟨b, o, none⟩ ∧ b < B ∧ ∀ i x, l[i]? = some x → w.cell? ⟨b, o + i, none⟩ = some (.int .u8 (UInt8.toNat x)))
theorem BytesAt.nil (w : World) (B c : Nat) (A : Option Addr) : BytesAt w B (.slice A 0 c) [] := ⟨A, c, rfl, ⟨Nat.zero_le _, Nat.zero_le _⟩, fun h => absurd rfl h⟩
theorem BytesAt.keep {w w' : World} {B : Nat} {v : Value} {l : Str} (h : BytesAt w B v l) (hb : ∀ b o, b < B → w'.cell? ⟨b, o, none⟩ = w.cell? ⟨b, o, none⟩) : BytesAt w' B v l := by
  obtain ⟨A, c, e, hc, h⟩ := h
  refine ⟨A, c, e, hc, fun hn => ?_⟩
  obtain ⟨b, o, e, hB, h⟩ := h hn
  exact ⟨b, o, e, hB, fun i s hs => (hb b _ hB).trans (h i s hs)⟩
theorem BytesAt.below {w w' : World} {B : Nat} {v : Value} {l : Str} (h : BytesAt w B v l) (hb : Below B w w') : BytesAt w' B v l :=
  h.keep fun b o hB => hb.cell (p := ⟨b, o, none⟩) hB
theorem BytesAt.more {w : World} {B B' : Nat} {v : Value} {l : Str} (h : BytesAt w B v l) (hB : B ≤ B') : BytesAt w B' v l := by
  obtain ⟨A, c, e, hc, h⟩ := h
  refine ⟨A, c, e, hc, fun hn => ?_⟩
  obtain ⟨b, o, e, hb, h⟩ := h hn
  exact ⟨b, o, e, by omega, h⟩
end Go.Proofs.YtakmplpfjcddiaaGreatDoor

namespace Go.Proofs.YtakmplpfjcddiaaGreatDoor
open Go.RowKit Go.Shelf Pa
/-- Off the blocks of M the world w' is as w was; the streams are as they were; no block has gone. -/
structure Off (M : Nat → Prop) (w w' : World) : Prop where
  os : w'.os = w.os
  tape : w'.tape = w.tape
  output : w'.output = w.output
  size : w.heap.size ≤ w'.heap.size
  block : ∀ k, k < w.heap.size → ¬ M k → w'.heap[k]? = w.heap[k]?
theorem Off.refl (M : Nat → Prop) (w : World) : Off M w w := ⟨rfl, rfl, rfl, Nat.le_refl _, fun _ _ _ => rfl⟩
theorem Off.trans {M M' : Nat → Prop} {a b c : World} (h : Off M a b) (k : Off M' b c) (hM : ∀ j, M' j → M j ∨ a.heap.size ≤ j) : Off M a c :=
  ⟨k.os.trans h.os, k.tape.trans h.tape, k.output.trans h.output, Nat.le_trans h.size k.size, fun i hi hm => (k.block i (Nat.lt_of_lt_of_le hi h.size) (fun e => by rcases hM i e with e | e; exact hm e; omega)).trans (h.block i hi hm)⟩
theorem Off.then {M : Nat → Prop} {a b c : World} (h : Off M a b) (k : Off M b c) : Off M a c := h.trans k fun _ e => .inl e
theorem Off.mono {M M' : Nat → Prop} {a b : World} (h : Off M a b) (hM : ∀ j, M j → M' j ∨ a.heap.size ≤ j) : Off M' a b :=
  ⟨h.os, h.tape, h.output, h.size, fun k hk hm => h.block k hk (fun e => by rcases hM k e with e | e; exact hm e; omega)⟩
theorem Off.of_below {a b : World} (h : Below a.heap.size a b) (M : Nat → Prop) : Off M a b := ⟨h.os, h.tape, h.output, h.size, fun k hk _ => h.block k hk⟩
theorem Off.below {M : Nat → Prop} {a b : World} {B : Nat} (h : Off M a b) (hB : B ≤ a.heap.size) (hM : ∀ k, M k → B ≤ k) : Below B a b :=
  ⟨h.os, h.tape, h.output, h.size, fun k hk => h.block k (by omega) (fun e => by have := hM k e; omega)⟩
theorem Off.none {a b : World} (h : Off (fun _ => False) a b) : Below a.heap.size a b := h.below (Nat.le_refl _) (fun _ e => e.elim)
theorem Off.drew {M : Nat → Prop} {a w : World} (h : Off M a w) : Off M a w.drew := ⟨h.os, h.tape, h.output, h.size, h.block⟩
theorem Off.drewN {M : Nat → Prop} {a w : World} (h : Off M a w) (n : Nat) : Off M a (w.drewN n) := ⟨h.os, h.tape, h.output, h.size, h.block⟩
theorem Off.alloc {M : Nat → Prop} {a w : World} (h : Off M a w) (o : Obj) : Off M a (w.alloc o) :=
  h.then (Off.of_below ((Below.refl _ _).alloc (Nat.le_refl _) o) M)
theorem Off.step {M : Nat → Prop} {a w w' : World} (h : Off M a w) (k : Below w.heap.size w w') : Off M a w' := h.then (Off.of_below k M)
theorem Off.grown {M : Nat → Prop} {a w w' : World} {row : Option Nat} (h : Off M a w) (hg : w.grownBy w' row) (hr : ∀ k, row = some k → M k ∨ a.heap.size ≤ k) : Off M a w' :=
  h.trans (M' := fun k => row = some k) ⟨hg.os, hg.tape, hg.output, hg.size, fun k hk hm => hg.block k hk (fun e => hm e.symm)⟩ hr
theorem Off.setCell {M : Nat → Prop} {a w : World} (h : Off M a w) {p : Addr} (hp : M p.block ∨ a.heap.size ≤ p.block) (u : Value) : Off M a (w.setCell p u) :=
  h.trans (M' := fun k => k = p.block) ⟨rfl, rfl, rfl, by simp [World.setCell], fun k _ hm => Below.heap_setCell _ _ _ _ hm⟩ (fun j e => by subst e; exact hp)
theorem Off.cell {M : Nat → Prop} {w w' : World} (h : Off M w w') {p : Addr} (hp : p.block < w.heap.size) (hm : ¬ M p.block) : w'.cell? p = w.cell? p := World.cell?_of_block (w := w) (h.block p.block hp hm)
theorem Off.frozen {M : Nat → Prop} {w w' : World} (h : Off M w w') {p : Addr} (hp : p.block < w.heap.size) (hm : ¬ M p.block) : w'.frozen? p = w.frozen? p := World.frozen?_of_block (w := w) (h.block p.block hp hm)
/-- The blocks of an object: those that may be written, and those that are only read. -/
structure Reg where
  m : Nat → Prop
  i : Nat → Prop
def Reg.has (R : Reg) (k : Nat) : Prop := R.m k ∨ R.i k
/-- R' has no block but those of R and new ones; what is written in R' was so in R, or is new. -/
structure Reg.To (R R' : Reg) (n : Nat) : Prop where
  m : ∀ k, R'.m k → R.m k ∨ n ≤ k
  i : ∀ k, R'.i k → R.i k ∨ n ≤ k
theorem Reg.To.refl (R : Reg) (n : Nat) : R.To R n := ⟨fun _ h => .inl h, fun _ h => .inl h⟩
theorem Reg.To.trans {R R' R'' : Reg} {n n' : Nat} (h : R.To R' n) (h' : R'.To R'' n') (hn : n ≤ n') : R.To R'' n :=
  ⟨fun k e => by rcases h'.m k e with e | e; exact h.m k e; right; omega, fun k e => by rcases h'.i k e with e | e; exact h.i k e; right; omega⟩
theorem Reg.To.has {R R' : Reg} {n k : Nat} (h : R.To R' n) (e : R'.has k) : R.has k ∨ n ≤ k := by
  rcases e with e | e
  · rcases h.m k e with e | e
    · exact .inl (.inl e)
    · exact .inr e
  · rcases h.i k e with e | e
    · exact .inl (.inr e)
    · exact .inr e
/-- A slice of bytes that lies in blocks of a set. -/
def BytesI (w : World) (I : Nat → Prop) (v : Value) (l : Str) : Prop :=
  ∃ A c, v = .slice A l.length c ∧ (l.length ≤ c ∧ l.length ≤ 140737488355328) ∧ (l ≠ [] → ∃ b o, A = some ⟨b, o, none⟩ ∧ (b < w.heap.size ∧ I b) ∧ ∀ i x, l[i]? = some x → w.cell? ⟨b, o + i, none⟩ = some (.int .u8 (UInt8.toNat x)))
theorem BytesI.nil (w : World) (I : Nat → Prop) (c : Nat) (A : Option Addr) : BytesI w I (.slice A 0 c) [] := ⟨A, c, rfl, ⟨Nat.zero_le _, Nat.zero_le _⟩, fun h => absurd rfl h⟩
theorem BytesI.at {w : World} {I : Nat → Prop} {v : Value} {l : Str} (h : BytesI w I v l) : BytesAt w w.heap.size v l := by
  obtain ⟨A, c, e, hc, h⟩ := h
  refine ⟨A, c, e, hc, fun hn => ?_⟩
  obtain ⟨b, o, e, hB, h⟩ := h hn
  exact ⟨b, o, e, hB.1, h⟩
theorem BytesI.mono {w : World} {I J : Nat → Prop} {v : Value} {l : Str} (h : BytesI w I v l) (hI : ∀ k, I k → k < w.heap.size → J k) : BytesI w J v l := by
  obtain ⟨A, c, e, hc, h⟩ := h
  refine ⟨A, c, e, hc, fun hn => ?_⟩
  obtain ⟨b, o, e, hB, h⟩ := h hn
  exact ⟨b, o, e, ⟨hB.1, hI _ hB.2 hB.1⟩, h⟩
theorem BytesI.off {w w' : World} {I M : Nat → Prop} {v : Value} {l : Str} (h : BytesI w I v l) (ho : Off M w w') (hd : ∀ k, I k → ¬ M k) : BytesI w' I v l := by
  obtain ⟨A, c, e, hc, h⟩ := h
  refine ⟨A, c, e, hc, fun hn => ?_⟩
  obtain ⟨b, o, e, hB, h⟩ := h hn
  exact ⟨b, o, e, ⟨Nat.lt_of_lt_of_le hB.1 ho.size, hB.2⟩, fun i x hx => (ho.cell (p := ⟨b, o + i, none⟩) hB.1 (hd _ hB.2)).trans (h i x hx)⟩
end Go.Proofs.YtakmplpfjcddiaaGreatDoor

namespace Go.Proofs.YtakmplpfjcddiaaGreatDoor
open Go.RowKit Go.Shelf Pa
open Go.MapKept
open Go.ChangeMaps (setBlock)
/-- Block b is a map that holds just these pairs, in the order in which they came. -/
def IMap (w : World) (b : Nat) (L : List (Int × Value)) : Prop :=
  ∃ es clock, w.heap[b]? = some (.map es clock) ∧ Stamped es clock ∧ es.toList.map (fun e => (e.key, e.val)) = L.map (fun p => (Value.int .i64 p.1, p.2))
def iset (L : List (Int × Value)) (p : Int) (v : Value) : List (Int × Value) := if L.any (fun q => decide (q.1 = p)) then L.map (fun q => if q.1 = p then (p, v) else q) else L ++ [(p, v)]
theorem ifilter_erase (L : List (Int × Value)) (j : Nat) (q0 : Int × Value) (p : Int) (hq0 : L[j]? = some q0) (hqp : q0.1 = p) (hnd : (L.map (·.1)).Nodup) : L.filter (fun q => !decide (q.1 = p)) = L.eraseIdx j := by
    induction L generalizing j with
    | nil => simp
    | cons q L ih =>
      simp only [List.map_cons, List.nodup_cons] at hnd
      cases j with
      | zero =>
        simp at hq0
        subst hq0
        rw [List.filter_cons, if_neg (by simp [hqp])]
        simp only [List.eraseIdx_zero, List.tail_cons]
        rw [List.filter_eq_self]
        intro r hr
        simp only [Bool.not_eq_true', decide_eq_false_iff_not]
        intro e
        exact hnd.1 (List.mem_map.2 ⟨r, hr, by rw [e, hqp]⟩)
      | succ j =>
        simp at hq0
        have hne : q.1 ≠ p := fun e => hnd.1 (List.mem_map.2 ⟨q0, List.mem_of_getElem? hq0, by rw [hqp, e]⟩)
        rw [List.filter_cons, if_pos (by simpa using hne), List.eraseIdx_cons_succ, ih j hq0 hnd.2]
section
variable {P : Program} {w : World} {t k e : TypeId} {b : Nat} {L : List (Int × Value)}
theorem IMap.lt (h : IMap w b L) : b < w.heap.size := by
  obtain ⟨es, c, h, _⟩ := h
  exact (Array.getElem?_eq_some_iff.1 h).1
theorem IMap.keep {w' : World} (h : IMap w b L) (e : w'.heap[b]? = w.heap[b]?) : IMap w' b L := by
  obtain ⟨es, c, h, r⟩ := h
  exact ⟨es, c, e.trans h, r⟩
theorem IMap.below {w' : World} {B : Nat} (h : IMap w b L) (hb : Below B w w') (hB : b < B) : IMap w' b L := h.keep (hb.block b hB)
theorem IMap.grow {w' : World} (h : IMap w b L) (hb : Below w.heap.size w w') : IMap w' b L := h.below hb h.lt
theorem IMap.new (w : World) : IMap (w.alloc (.map #[] 0)) w.heap.size [] :=
  ⟨#[], 0, heap_alloc_new w _, stamped_empty 0, rfl⟩
/-- A pair of the list, and its entry. -/
theorem IMap.isKey {es : Array MapEntry} (h : es.toList.map (fun e => (e.key, e.val)) = L.map (fun p => (Value.int .i64 p.1, p.2))) : ∀ x ∈ es.toList, IsKey (.int .i64) x.key := by
  intro x hx
  have : (x.key, x.val) ∈ es.toList.map (fun e => (e.key, e.val)) := List.mem_map.2 ⟨x, hx, rfl⟩
  rw [h] at this
  obtain ⟨p, _, hp⟩ := List.mem_map.1 this
  injection hp with h1 _
  rw [← h1]; rfl
theorem imap_at {es : List MapEntry} (h : es.map (fun e => (e.key, e.val)) = L.map (fun p => (Value.int .i64 p.1, p.2))) (j : Nat) (x : MapEntry) (hj : es[j]? = some x) : ∃ p, L[j]? = some p ∧ x.key = .int .i64 p.1 ∧ x.val = p.2 := by
  have : (es.map (fun e => (e.key, e.val)))[j]? = some (x.key, x.val) := by rw [List.getElem?_map, hj]; rfl
  rw [h, List.getElem?_map] at this
  cases hl : L[j]? with
  | none => rw [hl] at this; cases this
  | some p =>
    rw [hl] at this
    injection this with this
    injection this with h1 h2
    exact ⟨p, rfl, h1.symm, h2.symm⟩
theorem imap_keys {es : List MapEntry} (h : es.map (fun e => (e.key, e.val)) = L.map (fun p => (Value.int .i64 p.1, p.2))) (hk : es.Pairwise (fun x y => x.key ≠ y.key)) : (L.map (·.1)).Nodup := by
  have h1 : (es.map (fun e => (e.key, e.val))).Pairwise (fun x y => x.1 ≠ y.1) := List.pairwise_map.2 hk
  rw [h] at h1
  have h2 := List.pairwise_map.1 h1
  exact List.pairwise_map.2 (h2.imp fun {a b} hne e => hne (by simp [e]))
theorem IMap.nodup (h : IMap w b L) : (L.map (·.1)).Nodup := by
  obtain ⟨es, c, _, hs, hp⟩ := h
  exact imap_keys hp ((stamped_iff es c).1 hs).2.2
theorem ifind_none {p : Int} (h : ∀ (j : Nat) (q : Int × Value), L[j]? = some q → q.1 ≠ p) : L.find? (fun q => decide (q.1 = p)) = none := by
  rw [List.find?_eq_none]
  intro q hq
  obtain ⟨j, hj⟩ := List.getElem?_of_mem hq
  simpa using h j q hj
theorem ifind_at {p : Int} {j : Nat} {q : Int × Value} (hn : (L.map (·.1)).Nodup) (hj : L[j]? = some q) (hq : q.1 = p) : L.find? (fun q => decide (q.1 = p)) = some q := by
  cases hf : L.find? (fun q => decide (q.1 = p)) with
  | none =>
    rw [List.find?_eq_none] at hf
    exact absurd hq (by simpa using hf q (List.mem_of_getElem? hj))
  | some r =>
    have hr : r.1 = p := by simpa using List.find?_some hf
    have hm := List.mem_of_find?_eq_some hf
    obtain ⟨i, hi⟩ := List.getElem?_of_mem hm
    have h1 : (L.map (·.1))[i]? = some p := by rw [List.getElem?_map, hi]; simp [hr]
    have h2 : (L.map (·.1))[j]? = some p := by rw [List.getElem?_map, hj]; simp [hq]
    have hlt : i < (L.map (·.1)).length := by
      rcases Nat.lt_or_ge i (L.map (·.1)).length with h | h
      · exact h
      · rw [List.getElem?_eq_none h] at h1; cases h1
    have : i = j := (List.getElem?_inj hlt hn).1 (h1.trans h2.symm)
    subst this
    rw [hi] at hj
    exact hj
variable (ht : P.underlying t = some (.map k e)) (hk : P.underlying k = some (.int .i64))
include ht hk
theorem IMap.lookup {z : Value} (hz : ∀ w, (zeroValue e).run P w = .ok z w) (h : IMap w b L) (p : Int) :
    (Instr.lookup t (.map (some b)) (.int .i64 p) false).run P w = .ok (match L.find? (fun q => decide (q.1 = p)) with | some q => q.2 | none => z) w ∧
    (Instr.lookup t (.map (some b)) (.int .i64 p) true).run P w = .ok (match L.find? (fun q => decide (q.1 = p)) with | some q => .tuple #[q.2, .bool true] | none => .tuple #[z, .bool false]) w := by
  obtain ⟨es, c, hb, hs, hp⟩ := h
  have hkey : IsKey (.int .i64) (.int .i64 p) := rfl
  have hnd := imap_keys hp ((stamped_iff es c).1 hs).2.2
  rcases findNow_spec hkey es.toList 0 (IMap.isKey hp) with ⟨h1, h2⟩ | ⟨j, e0, h1, h2, h3⟩
  · have hf : L.find? (fun q => decide (q.1 = p)) = none := ifind_none fun j q hq e => by
      have hlen : es.toList.length = L.length := by simpa using congrArg List.length hp
      have hj : j < L.length := (List.getElem?_eq_some_iff.1 hq).1
      obtain ⟨q', hq', hk', _⟩ := imap_at hp j _ (List.getElem?_eq_getElem (by omega))
      rw [hq] at hq'
      cases hq'
      exact h2 _ (List.getElem_mem _) (by rw [hk', e])
    rw [hf]
    exact ⟨by simp [Instr.lookup, run_underlying ht, MapKept.run_getObj_map hb, run_checkKey hk hkey, run_findKey hk h1, hz, Result.andThen],
      by simp [Instr.lookup, run_underlying ht, MapKept.run_getObj_map hb, run_checkKey hk hkey, run_findKey hk h1, hz, Result.andThen]⟩
  · obtain ⟨q, hq, hk', hv⟩ := imap_at hp j e0 h2
    have hqp : q.1 = p := by
      rw [h3] at hk'
      injection hk' with _ hk'
      exact hk'.symm
    rw [ifind_at hnd hq hqp]
    exact ⟨by simp [Instr.lookup, run_underlying ht, MapKept.run_getObj_map hb, run_checkKey hk hkey, run_findKey hk h1, Result.andThen, hv],
      by simp [Instr.lookup, run_underlying ht, MapKept.run_getObj_map hb, run_checkKey hk hkey, run_findKey hk h1, Result.andThen, hv]⟩
theorem IMap.len (h : IMap w b L) (ty : TypeId) : (Builtin.len_ #[t] ty #[.map (some b)]).run P w = .ok (.int .i64 (L.length : Nat)) w := by
  obtain ⟨es, c, hb, hs, hp⟩ := h
  have hlen : es.size = L.length := by simpa using congrArg List.length hp
  have := hk
  simp [Builtin.len_, run_underlying ht, MapKept.run_getObj_map hb, Result.andThen, goInt, hlen]
theorem IMap.update (h : IMap w b L) (p : Int) (v : Value) :
    ∃ w', (Instr.mapUpdate t (.map (some b)) (.int .i64 p) v).run P w = .ok () w' ∧ IMap w' b (iset L p v) ∧ w.grownBy w' (some b) ∧ w'.heap.size = w.heap.size := by
  obtain ⟨es, c, hb, hs, hp⟩ := h
  have hkey : IsKey (.int .i64) (.int .i64 p) := rfl
  have hnd := imap_keys hp ((stamped_iff es c).1 hs).2.2
  have hlt := (Array.getElem?_eq_some_iff.1 hb).1
  have hgrow : ∀ o, w.grownBy (setBlock w b o) (some b) := fun o => ⟨rfl, rfl, rfl, by simp [setBlock], fun k hk hne => by
    simp only [setBlock]
    rw [Array.getElem?_setIfInBounds_ne (fun e => hne (by rw [e]))]⟩
  rcases findNow_spec hkey es.toList 0 (IMap.isKey hp) with ⟨h1, h2⟩ | ⟨j, e0, h1, h2, h3⟩
  · refine ⟨setBlock w b (.map (es.push ⟨.int .i64 p, v, c⟩) (c + 1)), ?_, ⟨_, _, ChangeMaps.heap_setBlock_same hb _, stamped_push hs h2, ?_⟩, hgrow _, by simp [setBlock]⟩
    · simp [Instr.mapUpdate, run_underlying ht, MapKept.run_getObj_map hb, run_checkKey hk hkey, run_findKey hk h1, MapKept.run_setObj_map _ hb, Result.andThen, setBlock]
    · have hany : L.any (fun q => decide (q.1 = p)) = false := by
        rw [List.any_eq_false]
        intro q hq e
        have e : q.1 = p := by simpa using e
        obtain ⟨j, hj⟩ := List.getElem?_of_mem hq
        have hlen : es.toList.length = L.length := by simpa using congrArg List.length hp
        have hj' : j < L.length := (List.getElem?_eq_some_iff.1 hj).1
        obtain ⟨q', hq', hk', _⟩ := imap_at hp j _ (List.getElem?_eq_getElem (by omega))
        rw [hj] at hq'
        cases hq'
        exact h2 _ (List.getElem_mem _) (by rw [hk', e])
      unfold iset
      rw [hany]
      simp [hp]
  · have hj : es[j]? = some e0 := by simpa using h2
    obtain ⟨q0, hq0, hk0, hv0⟩ := imap_at hp j e0 h2
    have hqp : q0.1 = p := by
      rw [h3] at hk0
      injection hk0 with _ hk0
      exact hk0.symm
    refine ⟨setBlock w b (.map (es.modify j (fun e' => { e' with key := .int .i64 p, val := v })) c), ?_, ⟨_, _, ChangeMaps.heap_setBlock_same hb _, stamped_modify hs _ _ (fun _ _ => rfl) (fun e' _ he' => by rw [hj] at he'; cases he'; exact h3.symm), ?_⟩, hgrow _, by simp [setBlock]⟩
    · simp [Instr.mapUpdate, run_underlying ht, MapKept.run_getObj_map hb, run_checkKey hk hkey, run_findKey hk h1, hj, h3, run_keyThatStays hkey, MapKept.run_setObj_map _ hb, Result.andThen, setBlock]
    · have hany : L.any (fun q => decide (q.1 = p)) = true := List.any_eq_true.2 ⟨q0, List.mem_of_getElem? hq0, by simpa using hqp⟩
      unfold iset
      rw [hany, if_pos rfl]
      apply List.ext_getElem?
      intro i
      have hi := congrArg (fun l => l[i]?) hp
      simp only [List.getElem?_map] at hi
      simp only [List.getElem?_map, Array.getElem?_toList, Array.getElem?_modify]
      by_cases hij : j = i
      · subst hij
        rw [hj, hq0]
        simp [hqp]
      · rw [if_neg hij]
        rw [Array.getElem?_toList] at hi
        rw [hi]
        cases hL : L[i]? with
        | none => rfl
        | some q =>
          simp only [Option.map_some]
          have : q.1 ≠ p := by
            intro e
            have h1 : (L.map (·.1))[i]? = some p := by rw [List.getElem?_map, hL]; simp [e]
            have h2 : (L.map (·.1))[j]? = some p := by rw [List.getElem?_map, hq0]; simp [hqp]
            have hlt : i < (L.map (·.1)).length := by
              rcases Nat.lt_or_ge i (L.map (·.1)).length with h | h
              · exact h
              · rw [List.getElem?_eq_none h] at h1; cases h1
            exact hij ((List.getElem?_inj hlt hnd).1 (h1.trans h2.symm)).symm
          rw [if_neg this]
theorem IMap.delete (h : IMap w b L) (p : Int) (ty : TypeId) :
    ∃ w', (Builtin.delete_ #[t, k] ty #[.map (some b), .int .i64 p]).run P w = .ok (.tuple #[]) w' ∧ IMap w' b (L.filter (fun q => !decide (q.1 = p))) ∧ w.grownBy w' (some b) ∧ w'.heap.size = w.heap.size := by
  obtain ⟨es, c, hb, hs, hp⟩ := h
  have hkey : IsKey (.int .i64) (.int .i64 p) := rfl
  have hnd := imap_keys hp ((stamped_iff es c).1 hs).2.2
  have hgrow : ∀ o, w.grownBy (setBlock w b o) (some b) := fun o => ⟨rfl, rfl, rfl, by simp [setBlock], fun k hk hne => by
    simp only [setBlock]
    rw [Array.getElem?_setIfInBounds_ne (fun e => hne (by rw [e]))]⟩
  rcases findNow_spec hkey es.toList 0 (IMap.isKey hp) with ⟨h1, h2⟩ | ⟨j, e0, h1, h2, h3⟩
  · refine ⟨setBlock w b (.map es c), ?_, ⟨_, _, ChangeMaps.heap_setBlock_same hb _, hs, ?_⟩, hgrow _, by simp [setBlock]⟩
    · simp [Builtin.delete_, run_underlying ht, MapKept.run_getObj_map hb, run_checkKey hk hkey, run_findKey hk h1, MapKept.run_setObj_map _ hb, Result.andThen, setBlock]
    · rw [hp]
      congr 1
      symm
      rw [List.filter_eq_self]
      intro q hq
      obtain ⟨j, hj⟩ := List.getElem?_of_mem hq
      have hlen : es.toList.length = L.length := by simpa using congrArg List.length hp
      have hj' : j < L.length := (List.getElem?_eq_some_iff.1 hj).1
      obtain ⟨q', hq', hk', _⟩ := imap_at hp j _ (List.getElem?_eq_getElem (by omega))
      rw [hj] at hq'
      cases hq'
      have := h2 _ (List.getElem_mem (l := es.toList) (n := j) (by omega))
      rw [hk'] at this
      simp only [Bool.not_eq_true', decide_eq_false_iff_not]
      exact fun e => this (by rw [e])
  · have hjs : j < es.size := by simpa using (List.getElem?_eq_some_iff.1 h2).1
    have hsub : (es.eraseIdxIfInBounds j).toList = es.toList.eraseIdx j := by
      unfold Array.eraseIdxIfInBounds
      rw [dif_pos hjs]
      simp
    obtain ⟨q0, hq0, hk0, hv0⟩ := imap_at hp j e0 h2
    have hqp : q0.1 = p := by
      rw [h3] at hk0
      injection hk0 with _ hk0
      exact hk0.symm
    refine ⟨setBlock w b (.map (es.eraseIdxIfInBounds j) c), ?_, ⟨_, _, ChangeMaps.heap_setBlock_same hb _, stamped_erase hs j, ?_⟩, hgrow _, by simp [setBlock]⟩
    · simp [Builtin.delete_, run_underlying ht, MapKept.run_getObj_map hb, run_checkKey hk hkey, run_findKey hk h1, MapKept.run_setObj_map _ hb, Result.andThen, setBlock]
    · rw [hsub, ChangeMaps.map_eraseIdx, hp, ← ChangeMaps.map_eraseIdx]
      congr 1
      exact (ifilter_erase L j q0 p hq0 hqp hnd).symm
end
end Go.Proofs.YtakmplpfjcddiaaGreatDoor

namespace Go.Proofs.YtakmplpfjcddiaaGreatDoor
open Go.RowKit Go.Shelf Pa
open Go.MapKept
open Go.ChangeMaps (setBlock)
variable {α : Type}
/-- Block mb is a map of these pairs; each value stands for what the list has. -/
def MapB (P : Value → α → Prop) (w : World) (mb : Nat) (l : List (Nat × α)) : Prop :=
  ∃ L, IMap w mb L ∧ L.length = l.length ∧ ∀ (i n : Nat) (x : α), l[i]? = some (n, x) → ∃ v, L[i]? = some ((n : Int), v) ∧ P v x
def pset (l : List (Nat × α)) (n : Nat) (x : α) : List (Nat × α) := if l.any (fun p => decide (p.1 = n)) then l.map (fun p => if p.1 = n then (n, x) else p) else l ++ [(n, x)]
def pdel (l : List (Nat × α)) (n : Nat) : List (Nat × α) := l.filter (fun p => !decide (p.1 = n))
def pget (l : List (Nat × α)) (n : Nat) : Option α := (l.find? (fun p => decide (p.1 = n))).map (·.2)
def phas (l : List (Nat × α)) (n : Nat) : Bool := l.any (fun p => decide (p.1 = n))
theorem pget_none {l : List (Nat × α)} {n : Nat} (h : phas l n = false) : pget l n = none := by
  unfold pget; rw [List.find?_eq_none.2]; · rfl
  intro p hp; unfold phas at h; rw [List.any_eq_false] at h; exact h p hp
theorem pget_some {l : List (Nat × α)} {n : Nat} {x : α} (h : pget l n = some x) : (n, x) ∈ l ∧ phas l n = true := by
  unfold pget at h
  rw [Option.map_eq_some_iff] at h
  obtain ⟨p, hp, rfl⟩ := h
  have h1 := List.mem_of_find?_eq_some hp
  have h2 : p.1 = n := by simpa using List.find?_some hp
  subst h2
  exact ⟨h1, List.any_eq_true.2 ⟨p, h1, by simp⟩⟩
theorem phas_get {l : List (Nat × α)} {n : Nat} (h : phas l n = true) : ∃ x, pget l n = some x := by
  unfold pget
  cases hf : l.find? (fun p => decide (p.1 = n)) with
  | some p => exact ⟨p.2, rfl⟩
  | none =>
    rw [List.find?_eq_none] at hf
    unfold phas at h
    obtain ⟨p, hp, he⟩ := List.any_eq_true.1 h
    exact absurd he (hf p hp)
theorem pget_mem {l : List (Nat × α)} {n : Nat} {x : α} (hn : (l.map (·.1)).Nodup) (h : (n, x) ∈ l) : pget l n = some x := by
  induction l with
  | nil => cases h
  | cons p l ih =>
    unfold pget
    simp only [List.map_cons, List.nodup_cons] at hn
    rcases List.mem_cons.1 h with rfl | h
    · rw [List.find?_cons_of_pos (by simp)]; rfl
    · have hne : p.1 ≠ n := fun e => hn.1 (List.mem_map.2 ⟨(n, x), h, e.symm⟩)
      rw [List.find?_cons_of_neg (by simpa using hne)]
      exact ih hn.2 h
theorem pget_cons (p : Nat × α) (l : List (Nat × α)) (n : Nat) : pget (p :: l) n = if p.1 = n then some p.2 else pget l n := by
  unfold pget
  by_cases h : p.1 = n
  · rw [List.find?_cons_of_pos (by simpa using h), if_pos h]; rfl
  · rw [List.find?_cons_of_neg (by simpa using h), if_neg h]
theorem pget_append (l l' : List (Nat × α)) (n : Nat) : pget (l ++ l') n = (pget l n).or (pget l' n) := by
  induction l with
  | nil => rfl
  | cons p l ih =>
    rw [List.cons_append, pget_cons, pget_cons, ih]
    split <;> rfl
theorem phas_iff {l : List (Nat × α)} {n : Nat} : phas l n = true ↔ n ∈ l.map (·.1) := by
  unfold phas
  rw [List.any_eq_true, List.mem_map]
  exact ⟨fun ⟨p, h, e⟩ => ⟨p, h, by simpa using e⟩, fun ⟨p, h, e⟩ => ⟨p, h, by simpa using e⟩⟩
theorem pget_pset (l : List (Nat × α)) (n m : Nat) (x : α) : pget (pset l n x) m = if m = n then some x else pget l m := by
  unfold pset
  cases h : l.any (fun p => decide (p.1 = n)) with
  | false =>
    rw [if_neg (by simp), pget_append]
    have hn : pget l n = none := pget_none h
    by_cases hm : m = n
    · subst hm
      rw [hn, if_pos rfl, pget_cons, if_pos rfl]; rfl
    · rw [if_neg hm, pget_cons, if_neg (fun e => hm e.symm)]
      cases pget l m <;> rfl
  | true =>
    rw [if_pos rfl]
    induction l with
    | nil => simp at h
    | cons p l ih =>
      rw [List.map_cons, pget_cons, pget_cons]
      by_cases hp : p.1 = n
      · rw [if_pos hp]
        simp only
        by_cases hm : m = n
        · subst hm; rw [if_pos rfl, if_pos rfl]
        · rw [if_neg (fun e => hm e.symm), if_neg hm, if_neg (fun e => hm (e.symm.trans hp))]
          by_cases ha : l.any (fun p => decide (p.1 = n)) = true
          · rw [ih ha, if_neg hm]
          · rw [Bool.not_eq_true] at ha
            have : l.map (fun p => if p.1 = n then (n, x) else p) = l := by
              refine (List.map_congr_left (g := id) fun q hq => ?_).trans (List.map_id l)
              rw [List.any_eq_false] at ha
              have := ha q hq
              rw [if_neg (by simpa using this)]; rfl
            rw [this]
      · rw [if_neg hp]
        have ha : l.any (fun p => decide (p.1 = n)) = true := by
          simpa [List.any_cons, hp] using h
        rw [ih ha]
        by_cases hm : m = n
        · subst hm; rw [if_neg hp, if_pos rfl, if_pos rfl]
        · rw [if_neg hm, if_neg hm]
theorem pset_keys (l : List (Nat × α)) (n : Nat) (x : α) : (pset l n x).map (·.1) = if phas l n = true then l.map (·.1) else l.map (·.1) ++ [n] := by
  unfold pset phas
  split
  · rw [List.map_map]
    refine List.map_congr_left fun p _ => ?_
    simp only [Function.comp]
    split
    · rename_i h; exact h.symm
    · rfl
  · simp
theorem pset_nodup {l : List (Nat × α)} {n : Nat} {x : α} (h : (l.map (·.1)).Nodup) : ((pset l n x).map (·.1)).Nodup := by
  rw [pset_keys]
  split
  · exact h
  · rename_i hn
    rw [List.nodup_append]
    refine ⟨h, by simp, fun a ha b hb e => ?_⟩
    have hb : b = n := by simpa using hb
    exact hn (phas_iff.2 (by rw [← hb, ← e]; exact ha))
theorem pset_mem {l : List (Nat × α)} {n : Nat} {x : α} {p : Nat × α} (h : p ∈ pset l n x) : p = (n, x) ∨ p ∈ l := by
  unfold pset at h
  split at h
  · obtain ⟨q, hq, e⟩ := List.mem_map.1 h
    split at e
    · exact .inl e.symm
    · subst e; exact .inr hq
  · rcases List.mem_append.1 h with h | h
    · exact .inr h
    · exact .inl (by simpa using h)
theorem pset_length (l : List (Nat × α)) (n : Nat) (x : α) : (pset l n x).length = if phas l n = true then l.length else l.length + 1 := by
  have := congrArg List.length (pset_keys l n x)
  rw [List.length_map] at this
  rw [this]
  split <;> simp
section
variable {P : Value → α → Prop} {w : World} {mb : Nat} {l : List (Nat × α)}
theorem MapB.mono {Q : Value → α → Prop} {w' : World} (h : MapB P w mb l) (hb : w'.heap[mb]? = w.heap[mb]?) (hP : ∀ v x, P v x → Q v x) : MapB Q w' mb l := by
  obtain ⟨L, hL, hl, h⟩ := h
  refine ⟨L, hL.keep hb, hl, fun i n x hx => ?_⟩
  obtain ⟨v, hv, h1⟩ := h i n x hx
  exact ⟨v, hv, hP _ _ h1⟩
theorem MapB.lt (h : MapB P w mb l) : mb < w.heap.size := by obtain ⟨L, hL, _⟩ := h; exact hL.lt
theorem MapB.new (w : World) : MapB P (w.alloc (.map #[] 0)) w.heap.size [] := ⟨[], IMap.new w, rfl, fun i n x h => by simp at h⟩
theorem MapB.keys (h : MapB P w mb l) : ∃ L, IMap w mb L ∧ L.map (·.1) = l.map (fun p => (p.1 : Int)) := by
  obtain ⟨L, hL, hl, h⟩ := h
  refine ⟨L, hL, List.ext_getElem? fun i => ?_⟩
  rw [List.getElem?_map, List.getElem?_map]
  cases hi : l[i]? with
  | none => rw [List.getElem?_eq_none (by rw [hl]; exact List.getElem?_eq_none_iff.1 hi)]; rfl
  | some p => obtain ⟨v, hv, _⟩ := h i p.1 p.2 hi; rw [hv]; rfl
theorem MapB.nodup (h : MapB P w mb l) : (l.map (·.1)).Nodup := by
  obtain ⟨L, hL, e⟩ := h.keys
  have h1 := hL.nodup
  rw [e] at h1
  have h2 := List.pairwise_map.1 h1
  exact List.pairwise_map.2 (h2.imp fun {a b} hne e => hne (by rw [e]))
theorem mapB_find {L : List (Int × Value)} (hl : L.length = l.length) (h : ∀ (i n : Nat) (x : α), l[i]? = some (n, x) → ∃ v, L[i]? = some ((n : Int), v) ∧ P v x) (n : Nat) :
    (pget l n = none ∧ L.find? (fun q => decide (q.1 = (n : Int))) = none) ∨
    ∃ x v, pget l n = some x ∧ L.find? (fun q => decide (q.1 = (n : Int))) = some ((n : Int), v) ∧ P v x := by
  induction l generalizing L with
  | nil =>
    have : L = [] := List.length_eq_zero_iff.1 hl
    subst this
    exact .inl ⟨rfl, rfl⟩
  | cons p l ih =>
    obtain ⟨m, x⟩ := p
    obtain ⟨v, hv, h1⟩ := h 0 m x rfl
    cases L with
    | nil => simp at hl
    | cons q L =>
      simp at hv
      subst hv
      rw [pget_cons]
      by_cases hm : m = n
      · subst hm
        exact .inr ⟨x, v, by simp, by simp, h1⟩
      · rw [if_neg hm, List.find?_cons_of_neg (by simp; omega)]
        exact ih (L := L) (by simpa using hl) (fun i n x hx => by simpa using h (i + 1) n x (by simpa using hx))
theorem imap_any {L : List (Int × Value)} (hl : L.length = l.length) (h : ∀ (i n : Nat) (x : α), l[i]? = some (n, x) → ∃ v, L[i]? = some ((n : Int), v) ∧ P v x) (n : Nat) : L.any (fun q => decide (q.1 = (n : Int))) = l.any (fun p => decide (p.1 = n)) := by
  induction l generalizing L with
  | nil =>
    have : L = [] := List.length_eq_zero_iff.1 hl
    subst this; rfl
  | cons p l ih =>
    obtain ⟨m, x⟩ := p
    obtain ⟨v, hv, h1⟩ := h 0 m x rfl
    cases L with
    | nil => simp at hl
    | cons q L =>
      simp at hv
      subst hv
      rw [List.any_cons, List.any_cons, ih (L := L) (by simpa using hl) (fun i n x hx => by simpa using h (i + 1) n x (by simpa using hx))]
      congr 1
      exact decide_eq_decide.2 (by simp only; omega)
variable {Pr : Program} {t k e : TypeId} (ht : Pr.underlying t = some (.map k e)) (hk : Pr.underlying k = some (.int .i64))
include ht hk
/-- A look-up: the zero value, or a value that stands for what the list has. -/
theorem MapB.lookup {z : Value} (hz : ∀ w, (zeroValue e).run Pr w = .ok z w) (h : MapB P w mb l) (n : Nat) :
    (phas l n = false ∧ pget l n = none ∧ (Instr.lookup t (.map (some mb)) (.int .i64 n) false).run Pr w = .ok z w ∧ (Instr.lookup t (.map (some mb)) (.int .i64 n) true).run Pr w = .ok (.tuple #[z, .bool false]) w) ∨
    ∃ x v, phas l n = true ∧ pget l n = some x ∧ P v x ∧ (Instr.lookup t (.map (some mb)) (.int .i64 n) false).run Pr w = .ok v w ∧ (Instr.lookup t (.map (some mb)) (.int .i64 n) true).run Pr w = .ok (.tuple #[v, .bool true]) w := by
  obtain ⟨L, hL, hl, h⟩ := h
  obtain ⟨h1, h2⟩ := IMap.lookup ht hk hz hL (n : Int)
  rcases mapB_find hl h n with ⟨e1, e2⟩ | ⟨x, v, e1, e2, e3⟩
  · rw [e2] at h1 h2
    refine .inl ⟨?_, e1, h1, h2⟩
    cases hp : phas l n with
    | false => rfl
    | true => obtain ⟨x, hx⟩ := phas_get hp; rw [hx] at e1; cases e1
  · rw [e2] at h1 h2
    exact .inr ⟨x, v, (pget_some e1).2, e1, e3, h1, h2⟩
theorem MapB.len (h : MapB P w mb l) (ty : TypeId) : (Builtin.len_ #[t] ty #[.map (some mb)]).run Pr w = .ok (.int .i64 (l.length : Nat)) w := by
  obtain ⟨L, hL, hl, _⟩ := h
  rw [← hl]
  exact IMap.len ht hk hL ty
/-- A store. -/
theorem MapB.update (h : MapB P w mb l) (n : Nat) (v : Value) (x : α) (hv : P v x) :
    ∃ w', (Instr.mapUpdate t (.map (some mb)) (.int .i64 n) v).run Pr w = .ok () w' ∧ MapB P w' mb (pset l n x) ∧ w.grownBy w' (some mb) ∧ w'.heap.size = w.heap.size := by
  obtain ⟨L, hL, hl, h⟩ := h
  obtain ⟨w', h1, h2, h3, h4⟩ := IMap.update ht hk hL (n : Int) v
  refine ⟨w', h1, ⟨_, h2, ?_, ?_⟩, h3, h4⟩
  · unfold iset pset
    rw [imap_any hl h]
    split <;> simp [hl]
  · intro i m y hy
    unfold iset pset at *
    rw [imap_any hl h]
    split at hy
    · rename_i ha
      rw [if_pos ha]
      rw [List.getElem?_map, Option.map_eq_some_iff] at hy
      obtain ⟨p, hp, hpe⟩ := hy
      obtain ⟨u, hu, hP⟩ := h i p.1 p.2 hp
      rw [List.getElem?_map, hu]
      simp only [Option.map_some]
      by_cases hpn : p.1 = n
      · rw [if_pos hpn] at hpe
        injection hpe with e1 e2
        subst e1 e2
        rw [if_pos (by rw [hpn])]
        exact ⟨v, rfl, hv⟩
      · rw [if_neg hpn] at hpe
        rw [if_neg (by omega)]
        subst hpe
        exact ⟨u, rfl, hP⟩
    · rename_i ha
      rw [if_neg ha]
      by_cases hi : i < l.length
      · rw [List.getElem?_append_left hi] at hy
        rw [List.getElem?_append_left (by omega)]
        exact h i m y hy
      · rw [List.getElem?_append_right (by omega)] at hy
        rw [List.getElem?_append_right (by omega)]
        have h0 : i - l.length = 0 := by
          have := (List.getElem?_eq_some_iff.1 hy).1
          simp at this; omega
        rw [h0] at hy
        rw [show i - L.length = 0 from by omega]
        simp at hy
        obtain ⟨rfl, rfl⟩ := hy
        exact ⟨v, rfl, hv⟩
/-- A delete. -/
theorem MapB.delete (h : MapB P w mb l) (n : Nat) (ty : TypeId) :
    ∃ w', (Builtin.delete_ #[t, k] ty #[.map (some mb), .int .i64 n]).run Pr w = .ok (.tuple #[]) w' ∧ MapB P w' mb (pdel l n) ∧ w.grownBy w' (some mb) ∧ w'.heap.size = w.heap.size := by
  obtain ⟨L, hL, hl, h⟩ := h
  obtain ⟨w', h1, h2, h3, h4⟩ := IMap.delete ht hk hL (n : Int) ty
  refine ⟨w', h1, ⟨_, h2, ?_⟩, h3, h4⟩
  clear h1 h2 h3 h4 hL ht hk
  unfold pdel
  induction l generalizing L with
  | nil =>
    have : L = [] := List.length_eq_zero_iff.1 hl
    subst this
    exact ⟨rfl, fun i n x h => by simp at h⟩
  | cons p l ih =>
    obtain ⟨m, x⟩ := p
    obtain ⟨v, hv, hP⟩ := h 0 m x rfl
    cases L with
    | nil => simp at hl
    | cons q L =>
      simp at hv
      subst hv
      obtain ⟨ih1, ih2⟩ := ih (L := L) (by simpa using hl) (fun i n x hx => by simpa using h (i + 1) n x (by simpa using hx))
      by_cases hm : m = n
      · rw [List.filter_cons_of_neg (by simp [hm]), List.filter_cons_of_neg (by simp [hm])]
        exact ⟨ih1, ih2⟩
      · rw [List.filter_cons_of_pos (by simp; omega), List.filter_cons_of_pos (by simpa using hm)]
        refine ⟨by simpa using ih1, fun i n' x' hx => ?_⟩
        cases i with
        | zero => simp at hx; obtain ⟨rfl, rfl⟩ := hx; exact ⟨v, by simp, hP⟩
        | succ i => simpa using ih2 i n' x' (by simpa using hx)
omit hk in
/-- clear. -/
theorem MapB.clear (h : MapB P w mb l) (ty : TypeId) :
    ∃ w', (Builtin.clear_ #[t] ty #[.map (some mb)]).run Pr w = .ok (.tuple #[]) w' ∧ MapB P w' mb [] ∧ w.grownBy w' (some mb) ∧ w'.heap.size = w.heap.size := by
  obtain ⟨L, ⟨es, c, hb, hs, hp⟩, hl, h⟩ := h
  refine ⟨setBlock w mb (.map #[] c), ?_, ⟨[], ⟨#[], c, ChangeMaps.heap_setBlock_same hb _, stamped_empty c, rfl⟩, rfl, fun i n x h => by simp at h⟩, ⟨rfl, rfl, rfl, by simp [setBlock], fun j _ hne => ?_⟩, by simp [setBlock]⟩
  · simp [Builtin.clear_, run_underlying ht, MapKept.run_getObj_map hb, MapKept.run_setObj_map _ hb, Result.andThen, setBlock]
  · simp only [setBlock]
    rw [Array.getElem?_setIfInBounds_ne (fun e => hne (by rw [e]))]
end
end Go.Proofs.YtakmplpfjcddiaaGreatDoor

namespace Go.Proofs.YtakmplpfjcddiaaGreatDoor
open Go.RowKit Go.Shelf Pa
theorem byte_getD (l : Str) (i : Nat) (h : i < l.length) : (l.map (fun x => ((UInt8.toNat x : Nat) : Int))).getD i 0 = ((UInt8.toNat (l[i]'h) : Nat) : Int) := by
  rw [List.getD_eq_getElem?_getD, List.getElem?_map, List.getElem?_eq_getElem h]; rfl
end Go.Proofs.YtakmplpfjcddiaaGreatDoor
