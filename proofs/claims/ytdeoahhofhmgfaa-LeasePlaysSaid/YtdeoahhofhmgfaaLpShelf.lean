/- Contracts of the library, laid at this program by the kit's tools. No condition. -/
import Derived.Shelf.Small.Bits
import Derived.Shelf.Strconv.Itoa0
import Derived.Ground.SlgnProg
import Derived.Shelf.SlicesG.Turned
import Derived.Shelf.SlicesG.SearchI
import Derived.Ground.SlgcProg
import Derived.Shelf.SlicesG.Cmp
import Derived.Shelf.SortG.Plain
import Derived.Shelf.SortG.SortNone
import Derived.Test.YtdeoahhofhmgfaaProg
namespace Go.Proofs
open Go.Shelf
def Try.sort64_ren : Go.Shelf.Ren := ⟨fun | 53 => 105 | 64 => 113 | 63 => 115 | 78 => 125 | 79 => 126 | 70 => 127 | 71 => 128 | 72 => 129 | 73 => 130 | 74 => 131 | 75 => 132 | 59 => 133 | 76 => 134 | 77 => 135 | 88 => 142 | 89 => 137 | 90 => 138 | 91 => 143 | 92 => 144 | 68 => 145 | 96 => 147 | n => n, fun | 22 => 152 | 23 => 2 | 3 => 3 | 51 => 179 | 0 => 0 | 67 => 192 | 69 => 25 | 4 => 4 | 61 => 184 | 60 => 183 | 44 => 189 | 5 => 5 | 9 => 9 | 75 => 199 | 79 => 202 | 83 => 206 | 84 => 207 | n => n, fun | n => n⟩
theorem Try.sort64 : Go.Proofs.SlLaysN.n53 Try.prog Try.sort64_ren := {
  mixed := by kernel_rfl
  f53 := ⟨Try.f105.name, by decide, Try.func105.trans (congrArg some (by kernel_rfl))⟩
  f59 := ⟨Try.f133.name, by decide, Try.func133.trans (congrArg some (by kernel_rfl))⟩
  f63 := ⟨Try.f115.name, by decide, Try.func115.trans (congrArg some (by kernel_rfl))⟩
  f64 := Try.func113.trans (congrArg some (by kernel_rfl))
  f68 := ⟨Try.f145.name, by decide, Try.func145.trans (congrArg some (by kernel_rfl))⟩
  f70 := ⟨Try.f127.name, by decide, Try.func127.trans (congrArg some (by kernel_rfl))⟩
  f71 := ⟨Try.f128.name, by decide, Try.func128.trans (congrArg some (by kernel_rfl))⟩
  f72 := ⟨Try.f129.name, by decide, Try.func129.trans (congrArg some (by kernel_rfl))⟩
  f73 := ⟨Try.f130.name, by decide, Try.func130.trans (congrArg some (by kernel_rfl))⟩
  f74 := ⟨Try.f131.name, by decide, Try.func131.trans (congrArg some (by kernel_rfl))⟩
  f75 := ⟨Try.f132.name, by decide, Try.func132.trans (congrArg some (by kernel_rfl))⟩
  f76 := ⟨Try.f134.name, by decide, Try.func134.trans (congrArg some (by kernel_rfl))⟩
  f77 := ⟨Try.f135.name, by decide, Try.func135.trans (congrArg some (by kernel_rfl))⟩
  f78 := Try.func125.trans (congrArg some (by kernel_rfl))
  f79 := Try.func126.trans (congrArg some (by kernel_rfl))
  f88 := ⟨Try.f142.name, by decide, Try.func142.trans (congrArg some (by kernel_rfl))⟩
  f89 := Try.func137.trans (congrArg some (by kernel_rfl))
  f90 := Try.func138.trans (congrArg some (by kernel_rfl))
  f91 := ⟨Try.f143.name, by decide, Try.func143.trans (congrArg some (by kernel_rfl))⟩
  f92 := ⟨Try.f144.name, by decide, Try.func144.trans (congrArg some (by kernel_rfl))⟩
  f96 := ⟨Try.f147.name, by decide, Try.func147.trans (congrArg some (by kernel_rfl))⟩
  t0 := Try.underlying0
  a0 := Try.isAgg0
  z0 := Try.sizeOf0
  v0 := Try.zeroValue0
  t3 := Try.underlying3
  a3 := Try.isAgg3
  z3 := Try.sizeOf3
  v3 := Try.zeroValue3
  t4 := Try.underlying4
  a4 := Try.isAgg4
  z4 := Try.sizeOf4
  v4 := Try.zeroValue4
  t5 := Try.underlying5
  a5 := Try.isAgg5
  z5 := Try.sizeOf5
  v5 := Try.zeroValue5
  t9 := Try.underlying9
  a9 := Try.isAgg9
  z9 := Try.sizeOf9
  v9 := Try.zeroValue9
  t22 := Try.underlying152
  a22 := Try.isAgg152
  z22 := Try.sizeOf152
  v22 := Try.zeroValue152
  t23 := Try.underlying2
  a23 := Try.isAgg2
  z23 := Try.sizeOf2
  v23 := Try.zeroValue2
  t44 := Try.underlying189
  a44 := Try.isAgg189
  z44 := Try.sizeOf189
  v44 := Try.zeroValue189
  t51 := Try.underlying179
  a51 := Try.isAgg179
  z51 := Try.sizeOf179
  v51 := Try.zeroValue179
  t60 := Try.underlying183
  a60 := Try.isAgg183
  z60 := Try.sizeOf183
  v60 := Try.zeroValue183
  t61 := Try.underlying184
  a61 := Try.isAgg184
  z61 := Try.sizeOf184
  v61 := Try.zeroValue184
  t67 := Try.underlying192
  a67 := Try.isAgg192
  z67 := Try.sizeOf192
  v67 := Try.zeroValue192
  t69 := Try.underlying25
  a69 := Try.isAgg25
  z69 := Try.sizeOf25
  v69 := Try.zeroValue25
  t75 := Try.underlying199
  a75 := Try.isAgg199
  z75 := Try.sizeOf199
  v75 := Try.zeroValue199
  t79 := Try.underlying202
  a79 := Try.isAgg202
  z79 := Try.sizeOf202
  v79 := Try.zeroValue202
  t83 := Try.underlying206
  a83 := Try.isAgg206
  z83 := Try.sizeOf206
  v83 := Try.zeroValue206
  t84 := Try.underlying207
  a84 := Try.isAgg207
  z84 := Try.sizeOf207
  v84 := Try.zeroValue207 }
open Go.Sort Go.RowKit in
theorem Try.slices_Sort_int64 (blk off cap : Nat) (zs : List Int) (w : World) (hH : Holds (Value.int .i64) w blk off zs.toArray) (hblk : blk < w.heap.size) (hsz : zs.length < 4611686018427387904) :
    Calls Try.prog 105 #[.slice (some ⟨blk, off, none⟩) zs.length cap] w fun e w' => e = .returned (.tuple #[]) ∧ ∃ n os, w' = grow (putRow (Value.int .i64) (Sort.ahead w n) blk off (zs.mergeSort fun x y => decide (x ≤ y)).toArray) os := AnyG.slices_Sort_int Try.sort64 blk off cap zs w hH hblk hsz
open Go.RowKit in
theorem Try.slices_Sort_int64_none (p : Option Addr) (cap : Nat) (w : World) :
    Calls Try.prog 105 #[.slice p 0 cap] w fun e w' => e = .returned (.tuple #[]) ∧ w' = w := AnyG.slices_Sort_int_none Try.sort64 p cap w
end Go.Proofs
