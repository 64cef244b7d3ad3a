/- Contracts of the library at this program, as the shelf of the kit lays them. -/
import Derived.Shelf.Bits.Mul64
import Derived.Shelf.SlicesG.Turned
import Derived.Shelf.SlicesG.Equal
import Derived.Shelf.SlicesG.Clone
import Derived.Shelf.SlicesG.SearchI
import Derived.Shelf.SlicesE.Clone
import Derived.Test.YtfdpmkilhllkoaaProg
namespace Go.Proofs
open Go.Shelf
def Try.lays212_ren : Go.Shelf.Ren := ⟨fun | 212 => 236 | 263 => 246 | 264 => 247 | n => n, fun | 46 => 118 | 51 => 94 | 146 => 282 | 53 => 49 | 148 => 284 | n => n, fun | n => n⟩
theorem Try.lays212 : Go.Proofs.Lays.n212 Try.prog Try.lays212_ren := {
  mixed := by kernel_rfl
  f212 := Try.func236.trans (congrArg some (by kernel_rfl))
  f263 := Try.func246.trans (congrArg some (by kernel_rfl))
  f264 := Try.func247.trans (congrArg some (by kernel_rfl))
  t46 := Try.underlying118
  a46 := Try.isAgg118
  z46 := Try.sizeOf118
  v46 := Try.zeroValue118
  t51 := Try.underlying94
  a51 := Try.isAgg94
  z51 := Try.sizeOf94
  v51 := Try.zeroValue94
  t53 := Try.underlying49
  a53 := Try.isAgg49
  z53 := Try.sizeOf49
  v53 := Try.zeroValue49
  t146 := Try.underlying282
  a146 := Try.isAgg282
  z146 := Try.sizeOf282
  v146 := Try.zeroValue282
  t148 := Try.underlying284
  a148 := Try.isAgg284
  z148 := Try.sizeOf284
  v148 := Try.zeroValue284 }
open Go.RowKit Go.Lib in
theorem Try.bits_Mul (x y : Nat) (hx : x < 18446744073709551616) (hy : y < 18446744073709551616) (w : World) :
    Calls Try.prog 236 #[.int .u64 x, .int .u64 y] w fun e w' => e = .returned (.tuple #[.int .u64 ((x * y / 18446744073709551616 : Nat) : Int), .int .u64 ((x * y % 18446744073709551616 : Nat) : Int)]) ∧ w' = w := Any.bits_Mul Try.lays212 x y hx hy w
end Go.Proofs
