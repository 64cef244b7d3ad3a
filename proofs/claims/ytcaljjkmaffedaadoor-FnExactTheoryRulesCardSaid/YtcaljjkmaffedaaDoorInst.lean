/- The engine's classes at this program: its types, its functions. Written by a program. -/
import Derived.Test.YtcaljjkmaffedaaDoorChecked
import Derived.Test.YtcaljjkmaffedaaDoorEngO
namespace Go.Proofs
open Go Go.Eng
set_option linter.unusedVariables false
set_option maxRecDepth 20000
instance : Mixed Tryd.prog := ⟨by kernel_rfl⟩
instance : Sc Tryd.prog 1 := ⟨fun w => Tryd.isAgg1 w, fun w => Tryd.sizeOf1 w⟩
instance : Zr Tryd.prog 1 [.nilFunc] := ⟨_, fun w => Tryd.zeroValue1 w, rfl⟩
instance : Sc Tryd.prog 2 := ⟨fun w => Tryd.isAgg2 w, fun w => Tryd.sizeOf2 w⟩
instance : Zr Tryd.prog 2 [(.int .i64 (0))] := ⟨_, fun w => Tryd.zeroValue2 w, rfl⟩
instance : I64T Tryd.prog 2 := ⟨Tryd.underlying2⟩
instance : Sc Tryd.prog 3 := ⟨fun w => Tryd.isAgg3 w, fun w => Tryd.sizeOf3 w⟩
instance : Zr Tryd.prog 3 [(.int .i64 (0))] := ⟨_, fun w => Tryd.zeroValue3 w, rfl⟩
instance : I64T Tryd.prog 3 := ⟨Tryd.underlying3⟩
instance : Sc Tryd.prog 4 := ⟨fun w => Tryd.isAgg4 w, fun w => Tryd.sizeOf4 w⟩
instance : Zr Tryd.prog 4 [(.bool false)] := ⟨_, fun w => Tryd.zeroValue4 w, rfl⟩
instance : IsBool Tryd.prog 4 := ⟨Tryd.underlying4⟩
instance : Sc Tryd.prog 5 := ⟨fun w => Tryd.isAgg5 w, fun w => Tryd.sizeOf5 w⟩
instance : Zr Tryd.prog 5 [(.int .u8 (0))] := ⟨_, fun w => Tryd.zeroValue5 w, rfl⟩
instance : Sc Tryd.prog 9 := ⟨fun w => Tryd.isAgg9 w, fun w => Tryd.sizeOf9 w⟩
instance : Zr Tryd.prog 9 [(.string ByteArray.empty)] := ⟨_, fun w => Tryd.zeroValue9 w, rfl⟩
instance : IsStr Tryd.prog 9 := ⟨Tryd.underlying9⟩
instance : Sc Tryd.prog 12 := ⟨fun w => Tryd.isAgg12 w, fun w => Tryd.sizeOf12 w⟩
instance : Zr Tryd.prog 12 [(.int .u64 (0))] := ⟨_, fun w => Tryd.zeroValue12 w, rfl⟩
instance : Ag Tryd.prog 13 2 := ⟨fun w => Tryd.isAgg13 w, fun w => Tryd.sizeOf13 w⟩
instance : Zr Tryd.prog 13 [(.string ByteArray.empty), (.int .u64 (0))] := ⟨_, fun w => Tryd.zeroValue13 w, rfl⟩
instance : Fo Tryd.prog 13 0 0 := ⟨fun w a => by simp [Instr.fieldAt, Instr.sureAddr, fieldPlace]⟩
instance : Fo Tryd.prog 13 1 1 := ⟨fun w a => by simp [Instr.fieldAt, Instr.sureAddr, fieldPlace]⟩
instance : StT Tryd.prog 13 [(0, 1), (1, 1)] [(.string ByteArray.empty), (.int .u64 (0))] := ⟨_, Tryd.t13, _, Tryd.underlying13, by kernel_rfl, by kernel_rfl, rfl, rfl⟩
instance : Sc Tryd.prog 20 := ⟨fun w => Tryd.isAgg20 w, fun w => Tryd.sizeOf20 w⟩
instance : Zr Tryd.prog 20 [.nilIface] := ⟨_, fun w => Tryd.zeroValue20 w, rfl⟩
instance : Sc Tryd.prog 21 := ⟨fun w => Tryd.isAgg21 w, fun w => Tryd.sizeOf21 w⟩
instance : Zr Tryd.prog 21 [(.int .i32 (0))] := ⟨_, fun w => Tryd.zeroValue21 w, rfl⟩
instance : Sc Tryd.prog 22 := ⟨fun w => Tryd.isAgg22 w, fun w => Tryd.sizeOf22 w⟩
instance : Zr Tryd.prog 22 [(.slice none 0 0)] := ⟨_, fun w => Tryd.zeroValue22 w, rfl⟩
instance : Sl Tryd.prog 22 2 48 := ⟨61, Tryd.t61, _, Tryd.underlying22, by kernel_rfl, rfl, rfl, rfl, rfl, by decide⟩
instance : SlZ Tryd.prog 22 [(.slice none 0 0), (.slice none 0 0)] := ⟨fun {e i z} h1 h2 h3 => by
  rw [Tryd.underlying22] at h1; cases h1
  rw [show Tryd.prog.info? 61 = some Tryd.t61 by kernel_rfl] at h2; cases h2; cases h3; rfl⟩
instance : Sc Tryd.prog 23 := ⟨fun w => Tryd.isAgg23 w, fun w => Tryd.sizeOf23 w⟩
instance : Zr Tryd.prog 23 [.nilFunc] := ⟨_, fun w => Tryd.zeroValue23 w, rfl⟩
instance : Sc Tryd.prog 24 := ⟨fun w => Tryd.isAgg24 w, fun w => Tryd.sizeOf24 w⟩
instance : Zr Tryd.prog 24 [.nilFunc] := ⟨_, fun w => Tryd.zeroValue24 w, rfl⟩
instance : Sc Tryd.prog 25 := ⟨fun w => Tryd.isAgg25 w, fun w => Tryd.sizeOf25 w⟩
instance : Zr Tryd.prog 25 [.nilFunc] := ⟨_, fun w => Tryd.zeroValue25 w, rfl⟩
instance : Sc Tryd.prog 26 := ⟨fun w => Tryd.isAgg26 w, fun w => Tryd.sizeOf26 w⟩
instance : Zr Tryd.prog 26 [.nilFunc] := ⟨_, fun w => Tryd.zeroValue26 w, rfl⟩
instance : Sc Tryd.prog 27 := ⟨fun w => Tryd.isAgg27 w, fun w => Tryd.sizeOf27 w⟩
instance : Zr Tryd.prog 27 [(.slice none 0 0)] := ⟨_, fun w => Tryd.zeroValue27 w, rfl⟩
instance : Sl Tryd.prog 27 1 8 := ⟨2, Tryd.t2, _, Tryd.underlying27, by kernel_rfl, rfl, rfl, rfl, rfl, by decide⟩
instance : SlZ Tryd.prog 27 [(.int .i64 (0))] := ⟨fun {e i z} h1 h2 h3 => by
  rw [Tryd.underlying27] at h1; cases h1
  rw [show Tryd.prog.info? 2 = some Tryd.t2 by kernel_rfl] at h2; cases h2; cases h3; rfl⟩
instance : Ag Tryd.prog 28 1 := ⟨fun w => Tryd.isAgg28 w, fun w => Tryd.sizeOf28 w⟩
instance : Zr Tryd.prog 28 [(.slice none 0 0)] := ⟨_, fun w => Tryd.zeroValue28 w, rfl⟩
instance : Fo Tryd.prog 28 0 0 := ⟨fun w a => by simp [Instr.fieldAt, Instr.sureAddr, fieldPlace]⟩
instance : StT Tryd.prog 28 [(0, 1)] [(.slice none 0 0)] := ⟨_, Tryd.t28, _, Tryd.underlying28, by kernel_rfl, by kernel_rfl, rfl, rfl⟩
instance : Ag Tryd.prog 29 1 := ⟨fun w => Tryd.isAgg29 w, fun w => Tryd.sizeOf29 w⟩
instance : Zr Tryd.prog 29 [(.slice none 0 0)] := ⟨_, fun w => Tryd.zeroValue29 w, rfl⟩
instance : Fo Tryd.prog 29 0 0 := ⟨fun w a => by simp [Instr.fieldAt, Instr.sureAddr, fieldPlace]⟩
instance : StT Tryd.prog 29 [(0, 1)] [(.slice none 0 0)] := ⟨_, Tryd.t29, _, Tryd.underlying29, by kernel_rfl, by kernel_rfl, rfl, rfl⟩
instance : Sc Tryd.prog 30 := ⟨fun w => Tryd.isAgg30 w, fun w => Tryd.sizeOf30 w⟩
instance : Zr Tryd.prog 30 [(.slice none 0 0)] := ⟨_, fun w => Tryd.zeroValue30 w, rfl⟩
instance : Sl Tryd.prog 30 2 48 := ⟨65, Tryd.t65, _, Tryd.underlying30, by kernel_rfl, rfl, rfl, rfl, rfl, by decide⟩
instance : SlZ Tryd.prog 30 [(.slice none 0 0), (.slice none 0 0)] := ⟨fun {e i z} h1 h2 h3 => by
  rw [Tryd.underlying30] at h1; cases h1
  rw [show Tryd.prog.info? 65 = some Tryd.t65 by kernel_rfl] at h2; cases h2; cases h3; rfl⟩
instance : Ag Tryd.prog 31 2 := ⟨fun w => Tryd.isAgg31 w, fun w => Tryd.sizeOf31 w⟩
instance : Zr Tryd.prog 31 [(.slice none 0 0), (.slice none 0 0)] := ⟨_, fun w => Tryd.zeroValue31 w, rfl⟩
instance : Fo Tryd.prog 31 0 0 := ⟨fun w a => by simp [Instr.fieldAt, Instr.sureAddr, fieldPlace]⟩
instance : Fo Tryd.prog 31 1 1 := ⟨fun w a => by simp [Instr.fieldAt, Instr.sureAddr, fieldPlace]⟩
instance : StT Tryd.prog 31 [(0, 1), (1, 1)] [(.slice none 0 0), (.slice none 0 0)] := ⟨_, Tryd.t31, _, Tryd.underlying31, by kernel_rfl, by kernel_rfl, rfl, rfl⟩
instance : Ag Tryd.prog 32 2 := ⟨fun w => Tryd.isAgg32 w, fun w => Tryd.sizeOf32 w⟩
instance : Zr Tryd.prog 32 [(.slice none 0 0), (.slice none 0 0)] := ⟨_, fun w => Tryd.zeroValue32 w, rfl⟩
instance : Fo Tryd.prog 32 0 0 := ⟨fun w a => by simp [Instr.fieldAt, Instr.sureAddr, fieldPlace]⟩
instance : Fo Tryd.prog 32 1 1 := ⟨fun w a => by simp [Instr.fieldAt, Instr.sureAddr, fieldPlace]⟩
instance : StT Tryd.prog 32 [(0, 1), (1, 1)] [(.slice none 0 0), (.slice none 0 0)] := ⟨_, Tryd.t32, _, Tryd.underlying32, by kernel_rfl, by kernel_rfl, rfl, rfl⟩
instance : Sc Tryd.prog 33 := ⟨fun w => Tryd.isAgg33 w, fun w => Tryd.sizeOf33 w⟩
instance : Zr Tryd.prog 33 [.nilFunc] := ⟨_, fun w => Tryd.zeroValue33 w, rfl⟩
instance : Sc Tryd.prog 34 := ⟨fun w => Tryd.isAgg34 w, fun w => Tryd.sizeOf34 w⟩
instance : Zr Tryd.prog 34 [.nilFunc] := ⟨_, fun w => Tryd.zeroValue34 w, rfl⟩
instance : Sc Tryd.prog 35 := ⟨fun w => Tryd.isAgg35 w, fun w => Tryd.sizeOf35 w⟩
instance : Zr Tryd.prog 35 [.nilFunc] := ⟨_, fun w => Tryd.zeroValue35 w, rfl⟩
instance : Ag Tryd.prog 36 1 := ⟨fun w => Tryd.isAgg36 w, fun w => Tryd.sizeOf36 w⟩
instance : Zr Tryd.prog 36 [(.slice none 0 0)] := ⟨_, fun w => Tryd.zeroValue36 w, rfl⟩
instance : Fo Tryd.prog 36 0 0 := ⟨fun w a => by simp [Instr.fieldAt, Instr.sureAddr, fieldPlace]⟩
instance : StT Tryd.prog 36 [(0, 1)] [(.slice none 0 0)] := ⟨_, Tryd.t36, _, Tryd.underlying36, by kernel_rfl, by kernel_rfl, rfl, rfl⟩
instance : Sc Tryd.prog 37 := ⟨fun w => Tryd.isAgg37 w, fun w => Tryd.sizeOf37 w⟩
instance : Zr Tryd.prog 37 [(.slice none 0 0)] := ⟨_, fun w => Tryd.zeroValue37 w, rfl⟩
instance : Sl Tryd.prog 37 1 24 := ⟨27, Tryd.t27, _, Tryd.underlying37, by kernel_rfl, rfl, rfl, rfl, rfl, by decide⟩
instance : SlZ Tryd.prog 37 [(.slice none 0 0)] := ⟨fun {e i z} h1 h2 h3 => by
  rw [Tryd.underlying37] at h1; cases h1
  rw [show Tryd.prog.info? 27 = some Tryd.t27 by kernel_rfl] at h2; cases h2; cases h3; rfl⟩
instance : Ag Tryd.prog 38 4 := ⟨fun w => Tryd.isAgg38 w, fun w => Tryd.sizeOf38 w⟩
instance : Zr Tryd.prog 38 [(.int .i64 (0)), (.slice none 0 0), (.slice none 0 0), (.slice none 0 0)] := ⟨_, fun w => Tryd.zeroValue38 w, rfl⟩
instance : Fo Tryd.prog 38 0 0 := ⟨fun w a => by simp [Instr.fieldAt, Instr.sureAddr, fieldPlace]⟩
instance : Fo Tryd.prog 38 1 1 := ⟨fun w a => by simp [Instr.fieldAt, Instr.sureAddr, fieldPlace]⟩
instance : Fo Tryd.prog 38 2 2 := ⟨fun w a => by simp [Instr.fieldAt, Instr.sureAddr, fieldPlace]⟩
instance : Fo Tryd.prog 38 3 3 := ⟨fun w a => by simp [Instr.fieldAt, Instr.sureAddr, fieldPlace]⟩
instance : StT Tryd.prog 38 [(0, 1), (1, 1), (2, 1), (3, 1)] [(.int .i64 (0)), (.slice none 0 0), (.slice none 0 0), (.slice none 0 0)] := ⟨_, Tryd.t38, _, Tryd.underlying38, by kernel_rfl, by kernel_rfl, rfl, rfl⟩
instance : Ag Tryd.prog 39 4 := ⟨fun w => Tryd.isAgg39 w, fun w => Tryd.sizeOf39 w⟩
instance : Zr Tryd.prog 39 [(.int .i64 (0)), (.slice none 0 0), (.slice none 0 0), (.slice none 0 0)] := ⟨_, fun w => Tryd.zeroValue39 w, rfl⟩
instance : Fo Tryd.prog 39 0 0 := ⟨fun w a => by simp [Instr.fieldAt, Instr.sureAddr, fieldPlace]⟩
instance : Fo Tryd.prog 39 1 1 := ⟨fun w a => by simp [Instr.fieldAt, Instr.sureAddr, fieldPlace]⟩
instance : Fo Tryd.prog 39 2 2 := ⟨fun w a => by simp [Instr.fieldAt, Instr.sureAddr, fieldPlace]⟩
instance : Fo Tryd.prog 39 3 3 := ⟨fun w a => by simp [Instr.fieldAt, Instr.sureAddr, fieldPlace]⟩
instance : StT Tryd.prog 39 [(0, 1), (1, 1), (2, 1), (3, 1)] [(.int .i64 (0)), (.slice none 0 0), (.slice none 0 0), (.slice none 0 0)] := ⟨_, Tryd.t39, _, Tryd.underlying39, by kernel_rfl, by kernel_rfl, rfl, rfl⟩
instance : Sc Tryd.prog 40 := ⟨fun w => Tryd.isAgg40 w, fun w => Tryd.sizeOf40 w⟩
instance : Zr Tryd.prog 40 [.nilFunc] := ⟨_, fun w => Tryd.zeroValue40 w, rfl⟩
instance : Sc Tryd.prog 41 := ⟨fun w => Tryd.isAgg41 w, fun w => Tryd.sizeOf41 w⟩
instance : Zr Tryd.prog 41 [.nilFunc] := ⟨_, fun w => Tryd.zeroValue41 w, rfl⟩
instance : Sc Tryd.prog 42 := ⟨fun w => Tryd.isAgg42 w, fun w => Tryd.sizeOf42 w⟩
instance : Zr Tryd.prog 42 [.nilFunc] := ⟨_, fun w => Tryd.zeroValue42 w, rfl⟩
instance : Sc Tryd.prog 43 := ⟨fun w => Tryd.isAgg43 w, fun w => Tryd.sizeOf43 w⟩
instance : Zr Tryd.prog 43 [.nilFunc] := ⟨_, fun w => Tryd.zeroValue43 w, rfl⟩
instance : Ag Tryd.prog 44 4 := ⟨fun w => Tryd.isAgg44 w, fun w => Tryd.sizeOf44 w⟩
instance : Zr Tryd.prog 44 [(.int .i64 (0)), (.slice none 0 0), (.slice none 0 0), (.slice none 0 0)] := ⟨_, fun w => Tryd.zeroValue44 w, rfl⟩
instance : Fo Tryd.prog 44 0 0 := ⟨fun w a => by simp [Instr.fieldAt, Instr.sureAddr, fieldPlace]⟩
instance : Fo Tryd.prog 44 1 1 := ⟨fun w a => by simp [Instr.fieldAt, Instr.sureAddr, fieldPlace]⟩
instance : Fo Tryd.prog 44 2 2 := ⟨fun w a => by simp [Instr.fieldAt, Instr.sureAddr, fieldPlace]⟩
instance : Fo Tryd.prog 44 3 3 := ⟨fun w a => by simp [Instr.fieldAt, Instr.sureAddr, fieldPlace]⟩
instance : StT Tryd.prog 44 [(0, 1), (1, 1), (2, 1), (3, 1)] [(.int .i64 (0)), (.slice none 0 0), (.slice none 0 0), (.slice none 0 0)] := ⟨_, Tryd.t44, _, Tryd.underlying44, by kernel_rfl, by kernel_rfl, rfl, rfl⟩
instance : Sc Tryd.prog 45 := ⟨fun w => Tryd.isAgg45 w, fun w => Tryd.sizeOf45 w⟩
instance : Zr Tryd.prog 45 [.nilFunc] := ⟨_, fun w => Tryd.zeroValue45 w, rfl⟩
instance : Sc Tryd.prog 46 := ⟨fun w => Tryd.isAgg46 w, fun w => Tryd.sizeOf46 w⟩
instance : Zr Tryd.prog 46 [.nilFunc] := ⟨_, fun w => Tryd.zeroValue46 w, rfl⟩
instance : Sc Tryd.prog 47 := ⟨fun w => Tryd.isAgg47 w, fun w => Tryd.sizeOf47 w⟩
instance : Zr Tryd.prog 47 [.nilFunc] := ⟨_, fun w => Tryd.zeroValue47 w, rfl⟩
instance : Sc Tryd.prog 48 := ⟨fun w => Tryd.isAgg48 w, fun w => Tryd.sizeOf48 w⟩
instance : Zr Tryd.prog 48 [.nilFunc] := ⟨_, fun w => Tryd.zeroValue48 w, rfl⟩
instance : Sc Tryd.prog 49 := ⟨fun w => Tryd.isAgg49 w, fun w => Tryd.sizeOf49 w⟩
instance : Zr Tryd.prog 49 [(.slice none 0 0)] := ⟨_, fun w => Tryd.zeroValue49 w, rfl⟩
instance : Sl Tryd.prog 49 4 80 := ⟨39, Tryd.t39, _, Tryd.underlying49, by kernel_rfl, rfl, rfl, rfl, rfl, by decide⟩
instance : SlZ Tryd.prog 49 [(.int .i64 (0)), (.slice none 0 0), (.slice none 0 0), (.slice none 0 0)] := ⟨fun {e i z} h1 h2 h3 => by
  rw [Tryd.underlying49] at h1; cases h1
  rw [show Tryd.prog.info? 39 = some Tryd.t39 by kernel_rfl] at h2; cases h2; cases h3; rfl⟩
instance : Ag Tryd.prog 50 1 := ⟨fun w => Tryd.isAgg50 w, fun w => Tryd.sizeOf50 w⟩
instance : Zr Tryd.prog 50 [(.slice none 0 0)] := ⟨_, fun w => Tryd.zeroValue50 w, rfl⟩
instance : Fo Tryd.prog 50 0 0 := ⟨fun w a => by simp [Instr.fieldAt, Instr.sureAddr, fieldPlace]⟩
instance : StT Tryd.prog 50 [(0, 1)] [(.slice none 0 0)] := ⟨_, Tryd.t50, _, Tryd.underlying50, by kernel_rfl, by kernel_rfl, rfl, rfl⟩
instance : Ag Tryd.prog 51 1 := ⟨fun w => Tryd.isAgg51 w, fun w => Tryd.sizeOf51 w⟩
instance : Zr Tryd.prog 51 [(.slice none 0 0)] := ⟨_, fun w => Tryd.zeroValue51 w, rfl⟩
instance : Fo Tryd.prog 51 0 0 := ⟨fun w a => by simp [Instr.fieldAt, Instr.sureAddr, fieldPlace]⟩
instance : StT Tryd.prog 51 [(0, 1)] [(.slice none 0 0)] := ⟨_, Tryd.t51, _, Tryd.underlying51, by kernel_rfl, by kernel_rfl, rfl, rfl⟩
instance : Sc Tryd.prog 52 := ⟨fun w => Tryd.isAgg52 w, fun w => Tryd.sizeOf52 w⟩
instance : Zr Tryd.prog 52 [.nilFunc] := ⟨_, fun w => Tryd.zeroValue52 w, rfl⟩
instance : Sc Tryd.prog 53 := ⟨fun w => Tryd.isAgg53 w, fun w => Tryd.sizeOf53 w⟩
instance : Zr Tryd.prog 53 [.nilFunc] := ⟨_, fun w => Tryd.zeroValue53 w, rfl⟩
instance : Sc Tryd.prog 54 := ⟨fun w => Tryd.isAgg54 w, fun w => Tryd.sizeOf54 w⟩
instance : Zr Tryd.prog 54 [(.slice none 0 0)] := ⟨_, fun w => Tryd.zeroValue54 w, rfl⟩
instance : Sl Tryd.prog 54 4 80 := ⟨44, Tryd.t44, _, Tryd.underlying54, by kernel_rfl, rfl, rfl, rfl, rfl, by decide⟩
instance : SlZ Tryd.prog 54 [(.int .i64 (0)), (.slice none 0 0), (.slice none 0 0), (.slice none 0 0)] := ⟨fun {e i z} h1 h2 h3 => by
  rw [Tryd.underlying54] at h1; cases h1
  rw [show Tryd.prog.info? 44 = some Tryd.t44 by kernel_rfl] at h2; cases h2; cases h3; rfl⟩
instance : Ag Tryd.prog 55 1 := ⟨fun w => Tryd.isAgg55 w, fun w => Tryd.sizeOf55 w⟩
instance : Zr Tryd.prog 55 [(.slice none 0 0)] := ⟨_, fun w => Tryd.zeroValue55 w, rfl⟩
instance : Fo Tryd.prog 55 0 0 := ⟨fun w a => by simp [Instr.fieldAt, Instr.sureAddr, fieldPlace]⟩
instance : StT Tryd.prog 55 [(0, 1)] [(.slice none 0 0)] := ⟨_, Tryd.t55, _, Tryd.underlying55, by kernel_rfl, by kernel_rfl, rfl, rfl⟩
instance : Ag Tryd.prog 56 1 := ⟨fun w => Tryd.isAgg56 w, fun w => Tryd.sizeOf56 w⟩
instance : Zr Tryd.prog 56 [(.slice none 0 0)] := ⟨_, fun w => Tryd.zeroValue56 w, rfl⟩
instance : Fo Tryd.prog 56 0 0 := ⟨fun w a => by simp [Instr.fieldAt, Instr.sureAddr, fieldPlace]⟩
instance : StT Tryd.prog 56 [(0, 1)] [(.slice none 0 0)] := ⟨_, Tryd.t56, _, Tryd.underlying56, by kernel_rfl, by kernel_rfl, rfl, rfl⟩
instance : Sc Tryd.prog 57 := ⟨fun w => Tryd.isAgg57 w, fun w => Tryd.sizeOf57 w⟩
instance : Zr Tryd.prog 57 [.nilFunc] := ⟨_, fun w => Tryd.zeroValue57 w, rfl⟩
instance : Sc Tryd.prog 58 := ⟨fun w => Tryd.isAgg58 w, fun w => Tryd.sizeOf58 w⟩
instance : Zr Tryd.prog 58 [.nilFunc] := ⟨_, fun w => Tryd.zeroValue58 w, rfl⟩
instance : Sc Tryd.prog 59 := ⟨fun w => Tryd.isAgg59 w, fun w => Tryd.sizeOf59 w⟩
instance : Zr Tryd.prog 59 [.nilFunc] := ⟨_, fun w => Tryd.zeroValue59 w, rfl⟩
instance : Ag Tryd.prog 60 2 := ⟨fun w => Tryd.isAgg60 w, fun w => Tryd.sizeOf60 w⟩
instance : Zr Tryd.prog 60 [(.slice none 0 0), (.slice none 0 0)] := ⟨_, fun w => Tryd.zeroValue60 w, rfl⟩
instance : Fo Tryd.prog 60 0 0 := ⟨fun w a => by simp [Instr.fieldAt, Instr.sureAddr, fieldPlace]⟩
instance : Fo Tryd.prog 60 1 1 := ⟨fun w a => by simp [Instr.fieldAt, Instr.sureAddr, fieldPlace]⟩
instance : StT Tryd.prog 60 [(0, 1), (1, 1)] [(.slice none 0 0), (.slice none 0 0)] := ⟨_, Tryd.t60, _, Tryd.underlying60, by kernel_rfl, by kernel_rfl, rfl, rfl⟩
instance : Ag Tryd.prog 61 2 := ⟨fun w => Tryd.isAgg61 w, fun w => Tryd.sizeOf61 w⟩
instance : Zr Tryd.prog 61 [(.slice none 0 0), (.slice none 0 0)] := ⟨_, fun w => Tryd.zeroValue61 w, rfl⟩
instance : Fo Tryd.prog 61 0 0 := ⟨fun w a => by simp [Instr.fieldAt, Instr.sureAddr, fieldPlace]⟩
instance : Fo Tryd.prog 61 1 1 := ⟨fun w a => by simp [Instr.fieldAt, Instr.sureAddr, fieldPlace]⟩
instance : StT Tryd.prog 61 [(0, 1), (1, 1)] [(.slice none 0 0), (.slice none 0 0)] := ⟨_, Tryd.t61, _, Tryd.underlying61, by kernel_rfl, by kernel_rfl, rfl, rfl⟩
instance : Sc Tryd.prog 62 := ⟨fun w => Tryd.isAgg62 w, fun w => Tryd.sizeOf62 w⟩
instance : Zr Tryd.prog 62 [.nilFunc] := ⟨_, fun w => Tryd.zeroValue62 w, rfl⟩
instance : Sc Tryd.prog 64 := ⟨fun w => Tryd.isAgg64 w, fun w => Tryd.sizeOf64 w⟩
instance : Zr Tryd.prog 64 [.nilFunc] := ⟨_, fun w => Tryd.zeroValue64 w, rfl⟩
instance : Ag Tryd.prog 65 2 := ⟨fun w => Tryd.isAgg65 w, fun w => Tryd.sizeOf65 w⟩
instance : Zr Tryd.prog 65 [(.slice none 0 0), (.slice none 0 0)] := ⟨_, fun w => Tryd.zeroValue65 w, rfl⟩
instance : Fo Tryd.prog 65 0 0 := ⟨fun w a => by simp [Instr.fieldAt, Instr.sureAddr, fieldPlace]⟩
instance : Fo Tryd.prog 65 1 1 := ⟨fun w a => by simp [Instr.fieldAt, Instr.sureAddr, fieldPlace]⟩
instance : StT Tryd.prog 65 [(0, 1), (1, 1)] [(.slice none 0 0), (.slice none 0 0)] := ⟨_, Tryd.t65, _, Tryd.underlying65, by kernel_rfl, by kernel_rfl, rfl, rfl⟩
instance : Sc Tryd.prog 66 := ⟨fun w => Tryd.isAgg66 w, fun w => Tryd.sizeOf66 w⟩
instance : Zr Tryd.prog 66 [.nilFunc] := ⟨_, fun w => Tryd.zeroValue66 w, rfl⟩
instance : Sc Tryd.prog 67 := ⟨fun w => Tryd.isAgg67 w, fun w => Tryd.sizeOf67 w⟩
instance : Zr Tryd.prog 67 [.nilFunc] := ⟨_, fun w => Tryd.zeroValue67 w, rfl⟩
instance : Sc Tryd.prog 68 := ⟨fun w => Tryd.isAgg68 w, fun w => Tryd.sizeOf68 w⟩
instance : Zr Tryd.prog 68 [.nilFunc] := ⟨_, fun w => Tryd.zeroValue68 w, rfl⟩
instance : Sc Tryd.prog 69 := ⟨fun w => Tryd.isAgg69 w, fun w => Tryd.sizeOf69 w⟩
instance : Zr Tryd.prog 69 [.nilFunc] := ⟨_, fun w => Tryd.zeroValue69 w, rfl⟩
instance : Sc Tryd.prog 70 := ⟨fun w => Tryd.isAgg70 w, fun w => Tryd.sizeOf70 w⟩
instance : Zr Tryd.prog 70 [.nilFunc] := ⟨_, fun w => Tryd.zeroValue70 w, rfl⟩
instance : Sc Tryd.prog 71 := ⟨fun w => Tryd.isAgg71 w, fun w => Tryd.sizeOf71 w⟩
instance : Zr Tryd.prog 71 [.nilFunc] := ⟨_, fun w => Tryd.zeroValue71 w, rfl⟩
instance : Sc Tryd.prog 72 := ⟨fun w => Tryd.isAgg72 w, fun w => Tryd.sizeOf72 w⟩
instance : Zr Tryd.prog 72 [.nilFunc] := ⟨_, fun w => Tryd.zeroValue72 w, rfl⟩
instance : Sc Tryd.prog 73 := ⟨fun w => Tryd.isAgg73 w, fun w => Tryd.sizeOf73 w⟩
instance : Zr Tryd.prog 73 [.nilFunc] := ⟨_, fun w => Tryd.zeroValue73 w, rfl⟩
instance : Sc Tryd.prog 74 := ⟨fun w => Tryd.isAgg74 w, fun w => Tryd.sizeOf74 w⟩
instance : Zr Tryd.prog 74 [.nilFunc] := ⟨_, fun w => Tryd.zeroValue74 w, rfl⟩
instance : Sc Tryd.prog 75 := ⟨fun w => Tryd.isAgg75 w, fun w => Tryd.sizeOf75 w⟩
instance : Zr Tryd.prog 75 [.nilFunc] := ⟨_, fun w => Tryd.zeroValue75 w, rfl⟩
instance : Sc Tryd.prog 76 := ⟨fun w => Tryd.isAgg76 w, fun w => Tryd.sizeOf76 w⟩
instance : Zr Tryd.prog 76 [(.slice none 0 0)] := ⟨_, fun w => Tryd.zeroValue76 w, rfl⟩
instance : Sl Tryd.prog 76 1 16 := ⟨9, Tryd.t9, _, Tryd.underlying76, by kernel_rfl, rfl, rfl, rfl, rfl, by decide⟩
instance : SlZ Tryd.prog 76 [(.string ByteArray.empty)] := ⟨fun {e i z} h1 h2 h3 => by
  rw [Tryd.underlying76] at h1; cases h1
  rw [show Tryd.prog.info? 9 = some Tryd.t9 by kernel_rfl] at h2; cases h2; cases h3; rfl⟩
instance : Sc Tryd.prog 77 := ⟨fun w => Tryd.isAgg77 w, fun w => Tryd.sizeOf77 w⟩
instance : Zr Tryd.prog 77 [.nilFunc] := ⟨_, fun w => Tryd.zeroValue77 w, rfl⟩
instance : Sc Tryd.prog 78 := ⟨fun w => Tryd.isAgg78 w, fun w => Tryd.sizeOf78 w⟩
instance : Zr Tryd.prog 78 [.nilFunc] := ⟨_, fun w => Tryd.zeroValue78 w, rfl⟩
instance : Sc Tryd.prog 79 := ⟨fun w => Tryd.isAgg79 w, fun w => Tryd.sizeOf79 w⟩
instance : Zr Tryd.prog 79 [.nilFunc] := ⟨_, fun w => Tryd.zeroValue79 w, rfl⟩
instance : Sc Tryd.prog 80 := ⟨fun w => Tryd.isAgg80 w, fun w => Tryd.sizeOf80 w⟩
instance : Zr Tryd.prog 80 [.nilFunc] := ⟨_, fun w => Tryd.zeroValue80 w, rfl⟩
instance : Sc Tryd.prog 81 := ⟨fun w => Tryd.isAgg81 w, fun w => Tryd.sizeOf81 w⟩
instance : Zr Tryd.prog 81 [.nilFunc] := ⟨_, fun w => Tryd.zeroValue81 w, rfl⟩
instance : Sc Tryd.prog 82 := ⟨fun w => Tryd.isAgg82 w, fun w => Tryd.sizeOf82 w⟩
instance : Zr Tryd.prog 82 [.nilFunc] := ⟨_, fun w => Tryd.zeroValue82 w, rfl⟩
instance : Sc Tryd.prog 83 := ⟨fun w => Tryd.isAgg83 w, fun w => Tryd.sizeOf83 w⟩
instance : Zr Tryd.prog 83 [.nilFunc] := ⟨_, fun w => Tryd.zeroValue83 w, rfl⟩
instance : Sc Tryd.prog 84 := ⟨fun w => Tryd.isAgg84 w, fun w => Tryd.sizeOf84 w⟩
instance : Zr Tryd.prog 84 [.nilFunc] := ⟨_, fun w => Tryd.zeroValue84 w, rfl⟩
instance : Sc Tryd.prog 85 := ⟨fun w => Tryd.isAgg85 w, fun w => Tryd.sizeOf85 w⟩
instance : Zr Tryd.prog 85 [.nilFunc] := ⟨_, fun w => Tryd.zeroValue85 w, rfl⟩
instance : Sc Tryd.prog 86 := ⟨fun w => Tryd.isAgg86 w, fun w => Tryd.sizeOf86 w⟩
instance : Zr Tryd.prog 86 [.nilFunc] := ⟨_, fun w => Tryd.zeroValue86 w, rfl⟩
instance : Sc Tryd.prog 87 := ⟨fun w => Tryd.isAgg87 w, fun w => Tryd.sizeOf87 w⟩
instance : Zr Tryd.prog 87 [.nilFunc] := ⟨_, fun w => Tryd.zeroValue87 w, rfl⟩
instance : Sc Tryd.prog 88 := ⟨fun w => Tryd.isAgg88 w, fun w => Tryd.sizeOf88 w⟩
instance : Zr Tryd.prog 88 [.nilFunc] := ⟨_, fun w => Tryd.zeroValue88 w, rfl⟩
instance : Sc Tryd.prog 89 := ⟨fun w => Tryd.isAgg89 w, fun w => Tryd.sizeOf89 w⟩
instance : Zr Tryd.prog 89 [(.pointer none)] := ⟨_, fun w => Tryd.zeroValue89 w, rfl⟩
instance : Sc Tryd.prog 90 := ⟨fun w => Tryd.isAgg90 w, fun w => Tryd.sizeOf90 w⟩
instance : Zr Tryd.prog 90 [(.slice none 0 0)] := ⟨_, fun w => Tryd.zeroValue90 w, rfl⟩
instance : Sl Tryd.prog 90 1 1 := ⟨5, Tryd.t5, _, Tryd.underlying90, by kernel_rfl, rfl, rfl, rfl, rfl, by decide⟩
instance : SlZ Tryd.prog 90 [(.int .u8 (0))] := ⟨fun {e i z} h1 h2 h3 => by
  rw [Tryd.underlying90] at h1; cases h1
  rw [show Tryd.prog.info? 5 = some Tryd.t5 by kernel_rfl] at h2; cases h2; cases h3; rfl⟩
instance : Ag Tryd.prog 91 2 := ⟨fun w => Tryd.isAgg91 w, fun w => Tryd.sizeOf91 w⟩
instance : Zr Tryd.prog 91 [(.pointer none), (.slice none 0 0)] := ⟨_, fun w => Tryd.zeroValue91 w, rfl⟩
instance : Fo Tryd.prog 91 0 0 := ⟨fun w a => by simp [Instr.fieldAt, Instr.sureAddr, fieldPlace]⟩
instance : Fo Tryd.prog 91 1 1 := ⟨fun w a => by simp [Instr.fieldAt, Instr.sureAddr, fieldPlace]⟩
instance : StT Tryd.prog 91 [(0, 1), (1, 1)] [(.pointer none), (.slice none 0 0)] := ⟨_, Tryd.t91, _, Tryd.underlying91, by kernel_rfl, by kernel_rfl, rfl, rfl⟩
instance : Ag Tryd.prog 92 2 := ⟨fun w => Tryd.isAgg92 w, fun w => Tryd.sizeOf92 w⟩
instance : Zr Tryd.prog 92 [(.pointer none), (.slice none 0 0)] := ⟨_, fun w => Tryd.zeroValue92 w, rfl⟩
instance : Fo Tryd.prog 92 0 0 := ⟨fun w a => by simp [Instr.fieldAt, Instr.sureAddr, fieldPlace]⟩
instance : Fo Tryd.prog 92 1 1 := ⟨fun w a => by simp [Instr.fieldAt, Instr.sureAddr, fieldPlace]⟩
instance : StT Tryd.prog 92 [(0, 1), (1, 1)] [(.pointer none), (.slice none 0 0)] := ⟨_, Tryd.t92, _, Tryd.underlying92, by kernel_rfl, by kernel_rfl, rfl, rfl⟩
instance : Sc Tryd.prog 93 := ⟨fun w => Tryd.isAgg93 w, fun w => Tryd.sizeOf93 w⟩
instance : Zr Tryd.prog 93 [.nilIface] := ⟨_, fun w => Tryd.zeroValue93 w, rfl⟩
instance : Sc Tryd.prog 94 := ⟨fun w => Tryd.isAgg94 w, fun w => Tryd.sizeOf94 w⟩
instance : Zr Tryd.prog 94 [.nilIface] := ⟨_, fun w => Tryd.zeroValue94 w, rfl⟩
instance : Sc Tryd.prog 96 := ⟨fun w => Tryd.isAgg96 w, fun w => Tryd.sizeOf96 w⟩
instance : Zr Tryd.prog 96 [.nilFunc] := ⟨_, fun w => Tryd.zeroValue96 w, rfl⟩
instance : Sc Tryd.prog 97 := ⟨fun w => Tryd.isAgg97 w, fun w => Tryd.sizeOf97 w⟩
instance : Zr Tryd.prog 97 [.nilFunc] := ⟨_, fun w => Tryd.zeroValue97 w, rfl⟩
instance : Sc Tryd.prog 98 := ⟨fun w => Tryd.isAgg98 w, fun w => Tryd.sizeOf98 w⟩
instance : Zr Tryd.prog 98 [.nilFunc] := ⟨_, fun w => Tryd.zeroValue98 w, rfl⟩
instance : Sc Tryd.prog 99 := ⟨fun w => Tryd.isAgg99 w, fun w => Tryd.sizeOf99 w⟩
instance : Zr Tryd.prog 99 [.nilFunc] := ⟨_, fun w => Tryd.zeroValue99 w, rfl⟩
instance : Sc Tryd.prog 101 := ⟨fun w => Tryd.isAgg101 w, fun w => Tryd.sizeOf101 w⟩
instance : Zr Tryd.prog 101 [.nilFunc] := ⟨_, fun w => Tryd.zeroValue101 w, rfl⟩
instance : Sc Tryd.prog 103 := ⟨fun w => Tryd.isAgg103 w, fun w => Tryd.sizeOf103 w⟩
instance : Zr Tryd.prog 103 [.nilFunc] := ⟨_, fun w => Tryd.zeroValue103 w, rfl⟩
instance : Sc Tryd.prog 104 := ⟨fun w => Tryd.isAgg104 w, fun w => Tryd.sizeOf104 w⟩
instance : Zr Tryd.prog 104 [.nilFunc] := ⟨_, fun w => Tryd.zeroValue104 w, rfl⟩
instance : Sc Tryd.prog 105 := ⟨fun w => Tryd.isAgg105 w, fun w => Tryd.sizeOf105 w⟩
instance : Zr Tryd.prog 105 [.nilFunc] := ⟨_, fun w => Tryd.zeroValue105 w, rfl⟩
instance : Sc Tryd.prog 106 := ⟨fun w => Tryd.isAgg106 w, fun w => Tryd.sizeOf106 w⟩
instance : Zr Tryd.prog 106 [.nilFunc] := ⟨_, fun w => Tryd.zeroValue106 w, rfl⟩
instance : Sc Tryd.prog 107 := ⟨fun w => Tryd.isAgg107 w, fun w => Tryd.sizeOf107 w⟩
instance : Zr Tryd.prog 107 [.nilFunc] := ⟨_, fun w => Tryd.zeroValue107 w, rfl⟩
instance : Sc Tryd.prog 108 := ⟨fun w => Tryd.isAgg108 w, fun w => Tryd.sizeOf108 w⟩
instance : Zr Tryd.prog 108 [.nilFunc] := ⟨_, fun w => Tryd.zeroValue108 w, rfl⟩
instance : Sc Tryd.prog 109 := ⟨fun w => Tryd.isAgg109 w, fun w => Tryd.sizeOf109 w⟩
instance : Zr Tryd.prog 109 [.nilFunc] := ⟨_, fun w => Tryd.zeroValue109 w, rfl⟩
instance : Sc Tryd.prog 110 := ⟨fun w => Tryd.isAgg110 w, fun w => Tryd.sizeOf110 w⟩
instance : Zr Tryd.prog 110 [.nilFunc] := ⟨_, fun w => Tryd.zeroValue110 w, rfl⟩
instance : Sc Tryd.prog 111 := ⟨fun w => Tryd.isAgg111 w, fun w => Tryd.sizeOf111 w⟩
instance : Zr Tryd.prog 111 [.nilFunc] := ⟨_, fun w => Tryd.zeroValue111 w, rfl⟩
instance : Sc Tryd.prog 112 := ⟨fun w => Tryd.isAgg112 w, fun w => Tryd.sizeOf112 w⟩
instance : Zr Tryd.prog 112 [.nilFunc] := ⟨_, fun w => Tryd.zeroValue112 w, rfl⟩
instance : Sc Tryd.prog 113 := ⟨fun w => Tryd.isAgg113 w, fun w => Tryd.sizeOf113 w⟩
instance : Zr Tryd.prog 113 [.nilFunc] := ⟨_, fun w => Tryd.zeroValue113 w, rfl⟩
instance : Sc Tryd.prog 114 := ⟨fun w => Tryd.isAgg114 w, fun w => Tryd.sizeOf114 w⟩
instance : Zr Tryd.prog 114 [.nilFunc] := ⟨_, fun w => Tryd.zeroValue114 w, rfl⟩
instance : Sc Tryd.prog 115 := ⟨fun w => Tryd.isAgg115 w, fun w => Tryd.sizeOf115 w⟩
instance : Zr Tryd.prog 115 [(.pointer none)] := ⟨_, fun w => Tryd.zeroValue115 w, rfl⟩
instance : Sc Tryd.prog 116 := ⟨fun w => Tryd.isAgg116 w, fun w => Tryd.sizeOf116 w⟩
instance : Zr Tryd.prog 116 [.nilFunc] := ⟨_, fun w => Tryd.zeroValue116 w, rfl⟩
instance : Sc Tryd.prog 117 := ⟨fun w => Tryd.isAgg117 w, fun w => Tryd.sizeOf117 w⟩
instance : Zr Tryd.prog 117 [(.map none)] := ⟨_, fun w => Tryd.zeroValue117 w, rfl⟩
instance : Sc Tryd.prog 119 := ⟨fun w => Tryd.isAgg119 w, fun w => Tryd.sizeOf119 w⟩
instance : Zr Tryd.prog 119 [.nilFunc] := ⟨_, fun w => Tryd.zeroValue119 w, rfl⟩
instance : Sc Tryd.prog 120 := ⟨fun w => Tryd.isAgg120 w, fun w => Tryd.sizeOf120 w⟩
instance : Zr Tryd.prog 120 [.nilFunc] := ⟨_, fun w => Tryd.zeroValue120 w, rfl⟩
instance : Sc Tryd.prog 121 := ⟨fun w => Tryd.isAgg121 w, fun w => Tryd.sizeOf121 w⟩
instance : Zr Tryd.prog 121 [.nilFunc] := ⟨_, fun w => Tryd.zeroValue121 w, rfl⟩
instance : Sc Tryd.prog 122 := ⟨fun w => Tryd.isAgg122 w, fun w => Tryd.sizeOf122 w⟩
instance : Zr Tryd.prog 122 [.nilFunc] := ⟨_, fun w => Tryd.zeroValue122 w, rfl⟩
instance : Sc Tryd.prog 123 := ⟨fun w => Tryd.isAgg123 w, fun w => Tryd.sizeOf123 w⟩
instance : Zr Tryd.prog 123 [.nilFunc] := ⟨_, fun w => Tryd.zeroValue123 w, rfl⟩
instance : Ag Tryd.prog 124 3 := ⟨fun w => Tryd.isAgg124 w, fun w => Tryd.sizeOf124 w⟩
instance : Zr Tryd.prog 124 [(.slice none 0 0), (.slice none 0 0), (.int .i64 (0))] := ⟨_, fun w => Tryd.zeroValue124 w, rfl⟩
instance : Fo Tryd.prog 124 0 0 := ⟨fun w a => by simp [Instr.fieldAt, Instr.sureAddr, fieldPlace]⟩
instance : Fo Tryd.prog 124 1 1 := ⟨fun w a => by simp [Instr.fieldAt, Instr.sureAddr, fieldPlace]⟩
instance : Fo Tryd.prog 124 2 2 := ⟨fun w a => by simp [Instr.fieldAt, Instr.sureAddr, fieldPlace]⟩
instance : StT Tryd.prog 124 [(0, 1), (1, 1), (2, 1)] [(.slice none 0 0), (.slice none 0 0), (.int .i64 (0))] := ⟨_, Tryd.t124, _, Tryd.underlying124, by kernel_rfl, by kernel_rfl, rfl, rfl⟩
instance : Ag Tryd.prog 125 3 := ⟨fun w => Tryd.isAgg125 w, fun w => Tryd.sizeOf125 w⟩
instance : Zr Tryd.prog 125 [(.slice none 0 0), (.slice none 0 0), (.int .i64 (0))] := ⟨_, fun w => Tryd.zeroValue125 w, rfl⟩
instance : Fo Tryd.prog 125 0 0 := ⟨fun w a => by simp [Instr.fieldAt, Instr.sureAddr, fieldPlace]⟩
instance : Fo Tryd.prog 125 1 1 := ⟨fun w a => by simp [Instr.fieldAt, Instr.sureAddr, fieldPlace]⟩
instance : Fo Tryd.prog 125 2 2 := ⟨fun w a => by simp [Instr.fieldAt, Instr.sureAddr, fieldPlace]⟩
instance : StT Tryd.prog 125 [(0, 1), (1, 1), (2, 1)] [(.slice none 0 0), (.slice none 0 0), (.int .i64 (0))] := ⟨_, Tryd.t125, _, Tryd.underlying125, by kernel_rfl, by kernel_rfl, rfl, rfl⟩
instance : Sc Tryd.prog 126 := ⟨fun w => Tryd.isAgg126 w, fun w => Tryd.sizeOf126 w⟩
instance : Zr Tryd.prog 126 [.nilFunc] := ⟨_, fun w => Tryd.zeroValue126 w, rfl⟩
instance : Sc Tryd.prog 127 := ⟨fun w => Tryd.isAgg127 w, fun w => Tryd.sizeOf127 w⟩
instance : Zr Tryd.prog 127 [.nilFunc] := ⟨_, fun w => Tryd.zeroValue127 w, rfl⟩
instance : Sc Tryd.prog 129 := ⟨fun w => Tryd.isAgg129 w, fun w => Tryd.sizeOf129 w⟩
instance : Zr Tryd.prog 129 [.nilFunc] := ⟨_, fun w => Tryd.zeroValue129 w, rfl⟩
instance : Sc Tryd.prog 131 := ⟨fun w => Tryd.isAgg131 w, fun w => Tryd.sizeOf131 w⟩
instance : Zr Tryd.prog 131 [.nilFunc] := ⟨_, fun w => Tryd.zeroValue131 w, rfl⟩
instance : Sc Tryd.prog 133 := ⟨fun w => Tryd.isAgg133 w, fun w => Tryd.sizeOf133 w⟩
instance : Zr Tryd.prog 133 [.nilFunc] := ⟨_, fun w => Tryd.zeroValue133 w, rfl⟩
instance : Sc Tryd.prog 134 := ⟨fun w => Tryd.isAgg134 w, fun w => Tryd.sizeOf134 w⟩
instance : Zr Tryd.prog 134 [.nilFunc] := ⟨_, fun w => Tryd.zeroValue134 w, rfl⟩
instance : Sc Tryd.prog 135 := ⟨fun w => Tryd.isAgg135 w, fun w => Tryd.sizeOf135 w⟩
instance : Zr Tryd.prog 135 [(.pointer none)] := ⟨_, fun w => Tryd.zeroValue135 w, rfl⟩
instance : Sc Tryd.prog 136 := ⟨fun w => Tryd.isAgg136 w, fun w => Tryd.sizeOf136 w⟩
instance : Zr Tryd.prog 136 [.nilFunc] := ⟨_, fun w => Tryd.zeroValue136 w, rfl⟩
instance : Sc Tryd.prog 137 := ⟨fun w => Tryd.isAgg137 w, fun w => Tryd.sizeOf137 w⟩
instance : Zr Tryd.prog 137 [.nilFunc] := ⟨_, fun w => Tryd.zeroValue137 w, rfl⟩
instance : Sc Tryd.prog 138 := ⟨fun w => Tryd.isAgg138 w, fun w => Tryd.sizeOf138 w⟩
instance : Zr Tryd.prog 138 [.nilFunc] := ⟨_, fun w => Tryd.zeroValue138 w, rfl⟩
instance : Sc Tryd.prog 140 := ⟨fun w => Tryd.isAgg140 w, fun w => Tryd.sizeOf140 w⟩
instance : Zr Tryd.prog 140 [.nilFunc] := ⟨_, fun w => Tryd.zeroValue140 w, rfl⟩
instance : Sc Tryd.prog 141 := ⟨fun w => Tryd.isAgg141 w, fun w => Tryd.sizeOf141 w⟩
instance : Zr Tryd.prog 141 [.nilFunc] := ⟨_, fun w => Tryd.zeroValue141 w, rfl⟩
instance : Sc Tryd.prog 142 := ⟨fun w => Tryd.isAgg142 w, fun w => Tryd.sizeOf142 w⟩
instance : Zr Tryd.prog 142 [.nilFunc] := ⟨_, fun w => Tryd.zeroValue142 w, rfl⟩
instance : Sc Tryd.prog 143 := ⟨fun w => Tryd.isAgg143 w, fun w => Tryd.sizeOf143 w⟩
instance : Zr Tryd.prog 143 [.nilFunc] := ⟨_, fun w => Tryd.zeroValue143 w, rfl⟩
instance : Sc Tryd.prog 144 := ⟨fun w => Tryd.isAgg144 w, fun w => Tryd.sizeOf144 w⟩
instance : Zr Tryd.prog 144 [.nilFunc] := ⟨_, fun w => Tryd.zeroValue144 w, rfl⟩
instance : Ag Tryd.prog 145 24 := ⟨fun w => Tryd.isAgg145 w, fun w => Tryd.sizeOf145 w⟩
instance : Zr Tryd.prog 145 [(.int .u8 (0)), (.int .u8 (0)), (.int .u8 (0)), (.int .u8 (0)), (.int .u8 (0)), (.int .u8 (0)), (.int .u8 (0)), (.int .u8 (0)), (.int .u8 (0)), (.int .u8 (0)), (.int .u8 (0)), (.int .u8 (0)), (.int .u8 (0)), (.int .u8 (0)), (.int .u8 (0)), (.int .u8 (0)), (.int .u8 (0)), (.int .u8 (0)), (.int .u8 (0)), (.int .u8 (0)), (.int .u8 (0)), (.int .u8 (0)), (.int .u8 (0)), (.int .u8 (0))] := ⟨_, fun w => Tryd.zeroValue145 w, rfl⟩
instance : ArT Tryd.prog 145 24 := ⟨_, Tryd.t5, Tryd.underlying145, by kernel_rfl, rfl, by decide⟩
instance : Sc Tryd.prog 146 := ⟨fun w => Tryd.isAgg146 w, fun w => Tryd.sizeOf146 w⟩
instance : Zr Tryd.prog 146 [(.int .u64 (0))] := ⟨_, fun w => Tryd.zeroValue146 w, rfl⟩
instance : Sc Tryd.prog 147 := ⟨fun w => Tryd.isAgg147 w, fun w => Tryd.sizeOf147 w⟩
instance : Zr Tryd.prog 147 [.nilFunc] := ⟨_, fun w => Tryd.zeroValue147 w, rfl⟩
instance : Sc Tryd.prog 148 := ⟨fun w => Tryd.isAgg148 w, fun w => Tryd.sizeOf148 w⟩
instance : Zr Tryd.prog 148 [.nilFunc] := ⟨_, fun w => Tryd.zeroValue148 w, rfl⟩
instance : Sc Tryd.prog 150 := ⟨fun w => Tryd.isAgg150 w, fun w => Tryd.sizeOf150 w⟩
instance : Zr Tryd.prog 150 [.nilFunc] := ⟨_, fun w => Tryd.zeroValue150 w, rfl⟩
instance : Sc Tryd.prog 151 := ⟨fun w => Tryd.isAgg151 w, fun w => Tryd.sizeOf151 w⟩
instance : Zr Tryd.prog 151 [.nilFunc] := ⟨_, fun w => Tryd.zeroValue151 w, rfl⟩
instance : Sc Tryd.prog 152 := ⟨fun w => Tryd.isAgg152 w, fun w => Tryd.sizeOf152 w⟩
instance : Zr Tryd.prog 152 [.nilFunc] := ⟨_, fun w => Tryd.zeroValue152 w, rfl⟩
instance : Sc Tryd.prog 153 := ⟨fun w => Tryd.isAgg153 w, fun w => Tryd.sizeOf153 w⟩
instance : Zr Tryd.prog 153 [(.int .u64 (0))] := ⟨_, fun w => Tryd.zeroValue153 w, rfl⟩
instance : Sc Tryd.prog 154 := ⟨fun w => Tryd.isAgg154 w, fun w => Tryd.sizeOf154 w⟩
instance : Zr Tryd.prog 154 [.nilFunc] := ⟨_, fun w => Tryd.zeroValue154 w, rfl⟩
instance : Ag Tryd.prog 155 20 := ⟨fun w => Tryd.isAgg155 w, fun w => Tryd.sizeOf155 w⟩
instance : Zr Tryd.prog 155 [(.int .u64 (0)), (.int .u64 (0)), (.int .u64 (0)), (.int .u64 (0)), (.int .u64 (0)), (.int .u64 (0)), (.int .u64 (0)), (.int .u64 (0)), (.int .u64 (0)), (.int .u64 (0)), (.int .u64 (0)), (.int .u64 (0)), (.int .u64 (0)), (.int .u64 (0)), (.int .u64 (0)), (.int .u64 (0)), (.int .u64 (0)), (.int .u64 (0)), (.int .u64 (0)), (.int .u64 (0))] := ⟨_, fun w => Tryd.zeroValue155 w, rfl⟩
instance : ArT Tryd.prog 155 20 := ⟨_, Tryd.t146, Tryd.underlying155, by kernel_rfl, rfl, by decide⟩
instance : Sc Tryd.prog 156 := ⟨fun w => Tryd.isAgg156 w, fun w => Tryd.sizeOf156 w⟩
instance : Zr Tryd.prog 156 [(.int .u32 (0))] := ⟨_, fun w => Tryd.zeroValue156 w, rfl⟩
instance : Sc Tryd.prog 158 := ⟨fun w => Tryd.isAgg158 w, fun w => Tryd.sizeOf158 w⟩
instance : Zr Tryd.prog 158 [.nilFunc] := ⟨_, fun w => Tryd.zeroValue158 w, rfl⟩
instance : Sc Tryd.prog 159 := ⟨fun w => Tryd.isAgg159 w, fun w => Tryd.sizeOf159 w⟩
instance : Zr Tryd.prog 159 [.nilFunc] := ⟨_, fun w => Tryd.zeroValue159 w, rfl⟩
instance : Sc Tryd.prog 161 := ⟨fun w => Tryd.isAgg161 w, fun w => Tryd.sizeOf161 w⟩
instance : Zr Tryd.prog 161 [.nilFunc] := ⟨_, fun w => Tryd.zeroValue161 w, rfl⟩
instance : Sc Tryd.prog 162 := ⟨fun w => Tryd.isAgg162 w, fun w => Tryd.sizeOf162 w⟩
instance : Zr Tryd.prog 162 [.nilFunc] := ⟨_, fun w => Tryd.zeroValue162 w, rfl⟩
instance : Ag Tryd.prog 163 32 := ⟨fun w => Tryd.isAgg163 w, fun w => Tryd.sizeOf163 w⟩
instance : Zr Tryd.prog 163 [(.int .u8 (0)), (.int .u8 (0)), (.int .u8 (0)), (.int .u8 (0)), (.int .u8 (0)), (.int .u8 (0)), (.int .u8 (0)), (.int .u8 (0)), (.int .u8 (0)), (.int .u8 (0)), (.int .u8 (0)), (.int .u8 (0)), (.int .u8 (0)), (.int .u8 (0)), (.int .u8 (0)), (.int .u8 (0)), (.int .u8 (0)), (.int .u8 (0)), (.int .u8 (0)), (.int .u8 (0)), (.int .u8 (0)), (.int .u8 (0)), (.int .u8 (0)), (.int .u8 (0)), (.int .u8 (0)), (.int .u8 (0)), (.int .u8 (0)), (.int .u8 (0)), (.int .u8 (0)), (.int .u8 (0)), (.int .u8 (0)), (.int .u8 (0))] := ⟨_, fun w => Tryd.zeroValue163 w, rfl⟩
instance : ArT Tryd.prog 163 32 := ⟨_, Tryd.t5, Tryd.underlying163, by kernel_rfl, rfl, by decide⟩
instance : Ag Tryd.prog 164 64 := ⟨fun w => Tryd.isAgg164 w, fun w => Tryd.sizeOf164 w⟩
instance : Zr Tryd.prog 164 [(.int .u8 (0)), (.int .u8 (0)), (.int .u8 (0)), (.int .u8 (0)), (.int .u8 (0)), (.int .u8 (0)), (.int .u8 (0)), (.int .u8 (0)), (.int .u8 (0)), (.int .u8 (0)), (.int .u8 (0)), (.int .u8 (0)), (.int .u8 (0)), (.int .u8 (0)), (.int .u8 (0)), (.int .u8 (0)), (.int .u8 (0)), (.int .u8 (0)), (.int .u8 (0)), (.int .u8 (0)), (.int .u8 (0)), (.int .u8 (0)), (.int .u8 (0)), (.int .u8 (0)), (.int .u8 (0)), (.int .u8 (0)), (.int .u8 (0)), (.int .u8 (0)), (.int .u8 (0)), (.int .u8 (0)), (.int .u8 (0)), (.int .u8 (0)), (.int .u8 (0)), (.int .u8 (0)), (.int .u8 (0)), (.int .u8 (0)), (.int .u8 (0)), (.int .u8 (0)), (.int .u8 (0)), (.int .u8 (0)), (.int .u8 (0)), (.int .u8 (0)), (.int .u8 (0)), (.int .u8 (0)), (.int .u8 (0)), (.int .u8 (0)), (.int .u8 (0)), (.int .u8 (0)), (.int .u8 (0)), (.int .u8 (0)), (.int .u8 (0)), (.int .u8 (0)), (.int .u8 (0)), (.int .u8 (0)), (.int .u8 (0)), (.int .u8 (0)), (.int .u8 (0)), (.int .u8 (0)), (.int .u8 (0)), (.int .u8 (0)), (.int .u8 (0)), (.int .u8 (0)), (.int .u8 (0)), (.int .u8 (0))] := ⟨_, fun w => Tryd.zeroValue164 w, rfl⟩
instance : ArT Tryd.prog 164 64 := ⟨_, Tryd.t5, Tryd.underlying164, by kernel_rfl, rfl, by decide⟩
instance : Sc Tryd.prog 172 := ⟨fun w => Tryd.isAgg172 w, fun w => Tryd.sizeOf172 w⟩
instance : Zr Tryd.prog 172 [.nilFunc] := ⟨_, fun w => Tryd.zeroValue172 w, rfl⟩
instance : Sc Tryd.prog 177 := ⟨fun w => Tryd.isAgg177 w, fun w => Tryd.sizeOf177 w⟩
instance : Zr Tryd.prog 177 [.nilFunc] := ⟨_, fun w => Tryd.zeroValue177 w, rfl⟩
instance : Op_ Tryd.prog 2 (Int) repInt := op_int Tryd.underlying2 (by kernel_rfl)
instance : Op_ Tryd.prog 3 (Int) repInt := op_int Tryd.underlying3 (by kernel_rfl)
instance : Op_ Tryd.prog 4 (Bool) repBool := op_bool Tryd.underlying4 (by kernel_rfl)
instance : Op_ Tryd.prog 9 (ByteArray) repStr := op_str Tryd.underlying9 (by kernel_rfl)
instance : Op_ Tryd.prog 27 (List Int) repList := op_slice Tryd.underlying27 (by kernel_rfl) inferInstance
instance : Op_ Tryd.prog 61 (List Int × List Int) repProd := op_struct Tryd.underlying61 (by kernel_rfl) (opF_cons rfl inferInstance rfl (opF_one rfl inferInstance))
instance : Op_ Tryd.prog 22 (List (List Int × List Int)) repList := op_slice Tryd.underlying22 (by kernel_rfl) inferInstance
instance : Op_ Tryd.prog 28 (List Int) repList := op_struct Tryd.underlying28 (by kernel_rfl) (opF_one rfl inferInstance)
instance : Op_ Tryd.prog 29 (List Int) repList := op_struct Tryd.underlying29 (by kernel_rfl) (opF_one rfl inferInstance)
instance : Op_ Tryd.prog 65 (List Int × List Int) repProd := op_struct Tryd.underlying65 (by kernel_rfl) (opF_cons rfl inferInstance rfl (opF_one rfl inferInstance))
instance : Op_ Tryd.prog 30 (List (List Int × List Int)) repList := op_slice Tryd.underlying30 (by kernel_rfl) inferInstance
instance : Op_ Tryd.prog 31 (List Int × List (List Int × List Int)) repProd := op_struct Tryd.underlying31 (by kernel_rfl) (opF_cons rfl inferInstance rfl (opF_one rfl inferInstance))
instance : Op_ Tryd.prog 32 (List Int × List (List Int × List Int)) repProd := op_struct Tryd.underlying32 (by kernel_rfl) (opF_cons rfl inferInstance rfl (opF_one rfl inferInstance))
instance : Op_ Tryd.prog 36 (List Int) repList := op_struct Tryd.underlying36 (by kernel_rfl) (opF_one rfl inferInstance)
instance : Op_ Tryd.prog 37 (List (List Int)) repList := op_slice Tryd.underlying37 (by kernel_rfl) inferInstance
instance : Op_ Tryd.prog 38 (Int × List Int × List (List Int) × List Int) repProd := op_struct Tryd.underlying38 (by kernel_rfl) (opF_cons rfl inferInstance rfl (opF_cons rfl inferInstance rfl (opF_cons rfl inferInstance rfl (opF_one rfl inferInstance))))
instance : Op_ Tryd.prog 39 (Int × List Int × List (List Int) × List Int) repProd := op_struct Tryd.underlying39 (by kernel_rfl) (opF_cons rfl inferInstance rfl (opF_cons rfl inferInstance rfl (opF_cons rfl inferInstance rfl (opF_one rfl inferInstance))))
instance : Op_ Tryd.prog 44 (Int × List Int × List (List Int) × List Int) repProd := op_struct Tryd.underlying44 (by kernel_rfl) (opF_cons rfl inferInstance rfl (opF_cons rfl inferInstance rfl (opF_cons rfl inferInstance rfl (opF_one rfl inferInstance))))
instance : Op_ Tryd.prog 49 (List (Int × List Int × List (List Int) × List Int)) repList := op_slice Tryd.underlying49 (by kernel_rfl) inferInstance
instance : Op_ Tryd.prog 50 (List (Int × List Int × List (List Int) × List Int)) repList := op_struct Tryd.underlying50 (by kernel_rfl) (opF_one rfl inferInstance)
instance : Op_ Tryd.prog 51 (List (Int × List Int × List (List Int) × List Int)) repList := op_struct Tryd.underlying51 (by kernel_rfl) (opF_one rfl inferInstance)
instance : Op_ Tryd.prog 54 (List (Int × List Int × List (List Int) × List Int)) repList := op_slice Tryd.underlying54 (by kernel_rfl) inferInstance
instance : Op_ Tryd.prog 55 (List (Int × List Int × List (List Int) × List Int)) repList := op_struct Tryd.underlying55 (by kernel_rfl) (opF_one rfl inferInstance)
instance : Op_ Tryd.prog 56 (List (Int × List Int × List (List Int) × List Int)) repList := op_struct Tryd.underlying56 (by kernel_rfl) (opF_one rfl inferInstance)
instance : Op_ Tryd.prog 60 (List Int × List Int) repProd := op_struct Tryd.underlying60 (by kernel_rfl) (opF_cons rfl inferInstance rfl (opF_one rfl inferInstance))
instance : Op_ Tryd.prog 76 (List ByteArray) repList := op_slice Tryd.underlying76 (by kernel_rfl) inferInstance
instance : Op_ Tryd.prog 124 (List Int × List Int × Int) repProd := op_struct Tryd.underlying124 (by kernel_rfl) (opF_cons rfl inferInstance rfl (opF_cons rfl inferInstance rfl (opF_one rfl inferInstance)))
instance : Op_ Tryd.prog 125 (List Int × List Int × Int) repProd := op_struct Tryd.underlying125 (by kernel_rfl) (opF_cons rfl inferInstance rfl (opF_cons rfl inferInstance rfl (opF_one rfl inferInstance)))
instance : IsFn Tryd.prog 2 := isFn_of Tryd.func2 (by kernel_rfl) rfl
instance : IsFn Tryd.prog 3 := isFn_of Tryd.func3 (by kernel_rfl) rfl
instance : IsFn Tryd.prog 4 := isFn_of Tryd.func4 (by kernel_rfl) rfl
instance : IsFn Tryd.prog 5 := isFn_of Tryd.func5 (by kernel_rfl) rfl
instance : IsFn Tryd.prog 6 := isFn_of Tryd.func6 (by kernel_rfl) rfl
instance : IsFn Tryd.prog 7 := isFn_of Tryd.func7 (by kernel_rfl) rfl
instance : IsFn Tryd.prog 8 := isFn_of Tryd.func8 (by kernel_rfl) rfl
instance : IsFn Tryd.prog 9 := isFn_of Tryd.func9 (by kernel_rfl) rfl
instance : IsFn Tryd.prog 10 := isFn_of Tryd.func10 (by kernel_rfl) rfl
instance : IsFn Tryd.prog 11 := isFn_of Tryd.func11 (by kernel_rfl) rfl
instance : IsFn Tryd.prog 12 := isFn_of Tryd.func12 (by kernel_rfl) rfl
instance : IsFn Tryd.prog 13 := isFn_of Tryd.func13 (by kernel_rfl) rfl
instance : IsFn Tryd.prog 14 := isFn_of Tryd.func14 (by kernel_rfl) rfl
instance : IsFn Tryd.prog 15 := isFn_of Tryd.func15 (by kernel_rfl) rfl
instance : IsFn Tryd.prog 16 := isFn_of Tryd.func16 (by kernel_rfl) rfl
instance : IsFn Tryd.prog 17 := isFn_of Tryd.func17 (by kernel_rfl) rfl
instance : IsFn Tryd.prog 18 := isFn_of Tryd.func18 (by kernel_rfl) rfl
instance : IsFn Tryd.prog 19 := isFn_of Tryd.func19 (by kernel_rfl) rfl
instance : IsFn Tryd.prog 20 := isFn_of Tryd.func20 (by kernel_rfl) rfl
instance : IsFn Tryd.prog 21 := isFn_of Tryd.func21 (by kernel_rfl) rfl
instance : IsFn Tryd.prog 22 := isFn_of Tryd.func22 (by kernel_rfl) rfl
instance : IsFn Tryd.prog 23 := isFn_of Tryd.func23 (by kernel_rfl) rfl
instance : IsFn Tryd.prog 24 := isFn_of Tryd.func24 (by kernel_rfl) rfl
instance : IsFn Tryd.prog 25 := isFn_of Tryd.func25 (by kernel_rfl) rfl
instance : IsFn Tryd.prog 26 := isFn_of Tryd.func26 (by kernel_rfl) rfl
instance : IsFn Tryd.prog 27 := isFn_of Tryd.func27 (by kernel_rfl) rfl
instance : IsFn Tryd.prog 28 := isFn_of Tryd.func28 (by kernel_rfl) rfl
instance : IsFn Tryd.prog 29 := isFn_of Tryd.func29 (by kernel_rfl) rfl
instance : IsFn Tryd.prog 30 := isFn_of Tryd.func30 (by kernel_rfl) rfl
instance : IsFn Tryd.prog 31 := isFn_of Tryd.func31 (by kernel_rfl) rfl
instance : IsFn Tryd.prog 32 := isFn_of Tryd.func32 (by kernel_rfl) rfl
instance : IsFn Tryd.prog 33 := isFn_of Tryd.func33 (by kernel_rfl) rfl
instance : IsFn Tryd.prog 34 := isFn_of Tryd.func34 (by kernel_rfl) rfl
instance : IsFn Tryd.prog 35 := isFn_of Tryd.func35 (by kernel_rfl) rfl
instance : IsFn Tryd.prog 36 := isFn_of Tryd.func36 (by kernel_rfl) rfl
instance : IsFn Tryd.prog 37 := isFn_of Tryd.func37 (by kernel_rfl) rfl
instance : IsFn Tryd.prog 38 := isFn_of Tryd.func38 (by kernel_rfl) rfl
instance : IsFn Tryd.prog 39 := isFn_of Tryd.func39 (by kernel_rfl) rfl
instance : IsFn Tryd.prog 40 := isFn_of Tryd.func40 (by kernel_rfl) rfl
instance : IsFn Tryd.prog 41 := isFn_of Tryd.func41 (by kernel_rfl) rfl
instance : IsFn Tryd.prog 42 := isFn_of Tryd.func42 (by kernel_rfl) rfl
instance : IsFn Tryd.prog 43 := isFn_of Tryd.func43 (by kernel_rfl) rfl
instance : IsFn Tryd.prog 44 := isFn_of Tryd.func44 (by kernel_rfl) rfl
instance : IsFn Tryd.prog 45 := isFn_of Tryd.func45 (by kernel_rfl) rfl
instance : IsFn Tryd.prog 46 := isFn_of Tryd.func46 (by kernel_rfl) rfl
instance : IsFn Tryd.prog 47 := isFn_of Tryd.func47 (by kernel_rfl) rfl
instance : IsFn Tryd.prog 48 := isFn_of Tryd.func48 (by kernel_rfl) rfl
instance : IsFn Tryd.prog 49 := isFn_of Tryd.func49 (by kernel_rfl) rfl
instance : IsFn Tryd.prog 50 := isFn_of Tryd.func50 (by kernel_rfl) rfl
instance : IsFn Tryd.prog 51 := isFn_of Tryd.func51 (by kernel_rfl) rfl
instance : IsFn Tryd.prog 52 := isFn_of Tryd.func52 (by kernel_rfl) rfl
instance : IsFn Tryd.prog 53 := isFn_of Tryd.func53 (by kernel_rfl) rfl
instance : IsFn Tryd.prog 54 := isFn_of Tryd.func54 (by kernel_rfl) rfl
instance : IsFn Tryd.prog 55 := isFn_of Tryd.func55 (by kernel_rfl) rfl
instance : IsFn Tryd.prog 56 := isFn_of Tryd.func56 (by kernel_rfl) rfl
instance : IsFn Tryd.prog 57 := isFn_of Tryd.func57 (by kernel_rfl) rfl
instance : IsFn Tryd.prog 58 := isFn_of Tryd.func58 (by kernel_rfl) rfl
instance : IsFn Tryd.prog 59 := isFn_of Tryd.func59 (by kernel_rfl) rfl
instance : IsFn Tryd.prog 60 := isFn_of Tryd.func60 (by kernel_rfl) rfl
instance : IsFn Tryd.prog 61 := isFn_of Tryd.func61 (by kernel_rfl) rfl
instance : IsFn Tryd.prog 62 := isFn_of Tryd.func62 (by kernel_rfl) rfl
instance : IsFn Tryd.prog 63 := isFn_of Tryd.func63 (by kernel_rfl) rfl
instance : IsFn Tryd.prog 64 := isFn_of Tryd.func64 (by kernel_rfl) rfl
instance : IsFn Tryd.prog 65 := isFn_of Tryd.func65 (by kernel_rfl) rfl
instance : IsFn Tryd.prog 66 := isFn_of Tryd.func66 (by kernel_rfl) rfl
instance : IsFn Tryd.prog 67 := isFn_of Tryd.func67 (by kernel_rfl) rfl
instance : IsFn Tryd.prog 68 := isFn_of Tryd.func68 (by kernel_rfl) rfl
instance : IsFn Tryd.prog 69 := isFn_of Tryd.func69 (by kernel_rfl) rfl
instance : IsFn Tryd.prog 70 := isFn_of Tryd.func70 (by kernel_rfl) rfl
instance : IsFn Tryd.prog 71 := isFn_of Tryd.func71 (by kernel_rfl) rfl
instance : IsFn Tryd.prog 72 := isFn_of Tryd.func72 (by kernel_rfl) rfl
instance : IsFn Tryd.prog 73 := isFn_of Tryd.func73 (by kernel_rfl) rfl
instance : IsFn Tryd.prog 74 := isFn_of Tryd.func74 (by kernel_rfl) rfl
instance : IsFn Tryd.prog 75 := isFn_of Tryd.func75 (by kernel_rfl) rfl
instance : IsFn Tryd.prog 76 := isFn_of Tryd.func76 (by kernel_rfl) rfl
instance : IsFn Tryd.prog 77 := isFn_of Tryd.func77 (by kernel_rfl) rfl
instance : IsFn Tryd.prog 78 := isFn_of Tryd.func78 (by kernel_rfl) rfl
instance : IsFn Tryd.prog 79 := isFn_of Tryd.func79 (by kernel_rfl) rfl
instance : IsFn Tryd.prog 80 := isFn_of Tryd.func80 (by kernel_rfl) rfl
instance : IsFn Tryd.prog 81 := isFn_of Tryd.func81 (by kernel_rfl) rfl
instance : IsFn Tryd.prog 82 := isFn_of Tryd.func82 (by kernel_rfl) rfl
instance : IsFn Tryd.prog 83 := isFn_of Tryd.func83 (by kernel_rfl) rfl
instance : IsFn Tryd.prog 84 := isFn_of Tryd.func84 (by kernel_rfl) rfl
instance : IsFn Tryd.prog 85 := isFn_of Tryd.func85 (by kernel_rfl) rfl
instance : IsFn Tryd.prog 86 := isFn_of Tryd.func86 (by kernel_rfl) rfl
instance : IsFn Tryd.prog 87 := isFn_of Tryd.func87 (by kernel_rfl) rfl
instance : IsFn Tryd.prog 88 := isFn_of Tryd.func88 (by kernel_rfl) rfl
instance : IsFn Tryd.prog 89 := isFn_of Tryd.func89 (by kernel_rfl) rfl
instance : IsFn Tryd.prog 90 := isFn_of Tryd.func90 (by kernel_rfl) rfl
instance : IsFn Tryd.prog 91 := isFn_of Tryd.func91 (by kernel_rfl) rfl
instance : IsFn Tryd.prog 92 := isFn_of Tryd.func92 (by kernel_rfl) rfl
instance : IsFn Tryd.prog 93 := isFn_of Tryd.func93 (by kernel_rfl) rfl
instance : IsFn Tryd.prog 94 := isFn_of Tryd.func94 (by kernel_rfl) rfl
instance : IsFn Tryd.prog 95 := isFn_of Tryd.func95 (by kernel_rfl) rfl
instance : IsFn Tryd.prog 96 := isFn_of Tryd.func96 (by kernel_rfl) rfl
instance : IsFn Tryd.prog 97 := isFn_of Tryd.func97 (by kernel_rfl) rfl
instance : IsFn Tryd.prog 98 := isFn_of Tryd.func98 (by kernel_rfl) rfl
instance : IsFn Tryd.prog 99 := isFn_of Tryd.func99 (by kernel_rfl) rfl
instance : IsFn Tryd.prog 100 := isFn_of Tryd.func100 (by kernel_rfl) rfl
instance : IsFn Tryd.prog 101 := isFn_of Tryd.func101 (by kernel_rfl) rfl
instance : IsFn Tryd.prog 102 := isFn_of Tryd.func102 (by kernel_rfl) rfl
instance : IsFn Tryd.prog 103 := isFn_of Tryd.func103 (by kernel_rfl) rfl
instance : IsFn Tryd.prog 104 := isFn_of Tryd.func104 (by kernel_rfl) rfl
instance : IsFn Tryd.prog 105 := isFn_of Tryd.func105 (by kernel_rfl) rfl
instance : IsFn Tryd.prog 106 := isFn_of Tryd.func106 (by kernel_rfl) rfl
instance : IsFn Tryd.prog 107 := isFn_of Tryd.func107 (by kernel_rfl) rfl
instance : IsFn Tryd.prog 108 := isFn_of Tryd.func108 (by kernel_rfl) rfl
instance : IsFn Tryd.prog 109 := isFn_of Tryd.func109 (by kernel_rfl) rfl
instance : IsFn Tryd.prog 110 := isFn_of Tryd.func110 (by kernel_rfl) rfl
instance : IsFn Tryd.prog 111 := isFn_of Tryd.func111 (by kernel_rfl) rfl
instance : IsFn Tryd.prog 113 := isFn_of Tryd.func113 (by kernel_rfl) rfl
instance : IsFn Tryd.prog 114 := isFn_of Tryd.func114 (by kernel_rfl) rfl
instance : IsFn Tryd.prog 115 := isFn_of Tryd.func115 (by kernel_rfl) rfl
instance : IsFn Tryd.prog 116 := isFn_of Tryd.func116 (by kernel_rfl) rfl
instance : IsFn Tryd.prog 117 := isFn_of Tryd.func117 (by kernel_rfl) rfl
instance : IsFn Tryd.prog 119 := isFn_of Tryd.func119 (by kernel_rfl) rfl
instance : IsFn Tryd.prog 120 := isFn_of Tryd.func120 (by kernel_rfl) rfl
instance : IsFn Tryd.prog 121 := isFn_of Tryd.func121 (by kernel_rfl) rfl
instance : IsFn Tryd.prog 122 := isFn_of Tryd.func122 (by kernel_rfl) rfl
instance : IsFn Tryd.prog 123 := isFn_of Tryd.func123 (by kernel_rfl) rfl
instance : IsFn Tryd.prog 124 := isFn_of Tryd.func124 (by kernel_rfl) rfl
instance : IsFn Tryd.prog 125 := isFn_of Tryd.func125 (by kernel_rfl) rfl
instance : IsFn Tryd.prog 126 := isFn_of Tryd.func126 (by kernel_rfl) rfl
instance : IsFn Tryd.prog 127 := isFn_of Tryd.func127 (by kernel_rfl) rfl
instance : IsFn Tryd.prog 128 := isFn_of Tryd.func128 (by kernel_rfl) rfl
instance : IsFn Tryd.prog 129 := isFn_of Tryd.func129 (by kernel_rfl) rfl
instance : IsFn Tryd.prog 131 := isFn_of Tryd.func131 (by kernel_rfl) rfl
instance : IsFn Tryd.prog 132 := isFn_of Tryd.func132 (by kernel_rfl) rfl
instance : IsFn Tryd.prog 133 := isFn_of Tryd.func133 (by kernel_rfl) rfl
instance : IsFn Tryd.prog 134 := isFn_of Tryd.func134 (by kernel_rfl) rfl
instance : IsFn Tryd.prog 135 := isFn_of Tryd.func135 (by kernel_rfl) rfl
instance : IsFn Tryd.prog 136 := isFn_of Tryd.func136 (by kernel_rfl) rfl
instance : IsFn Tryd.prog 137 := isFn_of Tryd.func137 (by kernel_rfl) rfl
instance : IsFn Tryd.prog 139 := isFn_of Tryd.func139 (by kernel_rfl) rfl
instance : IsFn Tryd.prog 140 := isFn_of Tryd.func140 (by kernel_rfl) rfl
instance : IsFn Tryd.prog 141 := isFn_of Tryd.func141 (by kernel_rfl) rfl
instance : IsFn Tryd.prog 166 := isFn_of Tryd.func166 (by kernel_rfl) rfl
instance : ResC Tryd.f2 [] := ⟨rfl⟩
instance : ResC Tryd.f3 [.tmp 2] := ⟨rfl⟩
instance : ResC Tryd.f4 [.tmp 2] := ⟨rfl⟩
instance : ResC Tryd.f5 [.tmp 4] := ⟨rfl⟩
instance : ResC Tryd.f6 [.tmp 4] := ⟨rfl⟩
instance : ResC Tryd.f7 [.tmp 2] := ⟨rfl⟩
instance : ResC Tryd.f8 [.tmp 2] := ⟨rfl⟩
instance : ResC Tryd.f9 [.tmp 4] := ⟨rfl⟩
instance : ResC Tryd.f10 [.tmp 4] := ⟨rfl⟩
instance : ResC Tryd.f11 [.tmp 4] := ⟨rfl⟩
instance : ResC Tryd.f12 [.cell 2 32] := ⟨rfl⟩
instance : ResC Tryd.f13 [.cell 2 32] := ⟨rfl⟩
instance : ResC Tryd.f14 [.tmp 4] := ⟨rfl⟩
instance : ResC Tryd.f15 [.tmp 4] := ⟨rfl⟩
instance : ResC Tryd.f16 [.tmp 4] := ⟨rfl⟩
instance : ResC Tryd.f17 [.tmp 4] := ⟨rfl⟩
instance : ResC Tryd.f18 [.tmp 4] := ⟨rfl⟩
instance : ResC Tryd.f19 [.tmp 4] := ⟨rfl⟩
instance : ResC Tryd.f20 [.cell 2 29] := ⟨rfl⟩
instance : ResC Tryd.f21 [.cell 2 44] := ⟨rfl⟩
instance : ResC Tryd.f22 [.tmp 4] := ⟨rfl⟩
instance : ResC Tryd.f23 [.tmp 4] := ⟨rfl⟩
instance : ResC Tryd.f24 [.tmp 4] := ⟨rfl⟩
instance : ResC Tryd.f25 [.tmp 4] := ⟨rfl⟩
instance : ResC Tryd.f26 [.tmp 4] := ⟨rfl⟩
instance : ResC Tryd.f27 [.cell 2 56] := ⟨rfl⟩
instance : ResC Tryd.f28 [.tmp 4] := ⟨rfl⟩
instance : ResC Tryd.f29 [.tmp 4] := ⟨rfl⟩
instance : ResC Tryd.f30 [.cell 0 61] := ⟨rfl⟩
instance : ResC Tryd.f31 [.tmp 2] := ⟨rfl⟩
instance : ResC Tryd.f32 [.cell 2 32, .tmp 3] := ⟨rfl⟩
instance : ResC Tryd.f33 [.tmp 4] := ⟨rfl⟩
instance : ResC Tryd.f34 [.tmp 4] := ⟨rfl⟩
instance : ResC Tryd.f35 [.tmp 4] := ⟨rfl⟩
instance : ResC Tryd.f36 [.tmp 2] := ⟨rfl⟩
instance : ResC Tryd.f37 [.cell 0 29] := ⟨rfl⟩
instance : ResC Tryd.f38 [.tmp 2] := ⟨rfl⟩
instance : ResC Tryd.f39 [.tmp 4] := ⟨rfl⟩
instance : ResC Tryd.f40 [.tmp 4] := ⟨rfl⟩
instance : ResC Tryd.f41 [.tmp 4] := ⟨rfl⟩
instance : ResC Tryd.f42 [.tmp 4] := ⟨rfl⟩
instance : ResC Tryd.f43 [.tmp 4] := ⟨rfl⟩
instance : ResC Tryd.f44 [.tmp 4] := ⟨rfl⟩
instance : ResC Tryd.f45 [.tmp 4] := ⟨rfl⟩
instance : ResC Tryd.f46 [.tmp 2] := ⟨rfl⟩
instance : ResC Tryd.f47 [.tmp 4] := ⟨rfl⟩
instance : ResC Tryd.f48 [.tmp 4] := ⟨rfl⟩
instance : ResC Tryd.f49 [.tmp 4] := ⟨rfl⟩
instance : ResC Tryd.f50 [.tmp 4] := ⟨rfl⟩
instance : ResC Tryd.f51 [.tmp 2] := ⟨rfl⟩
instance : ResC Tryd.f52 [.tmp 2] := ⟨rfl⟩
instance : ResC Tryd.f53 [.tmp 2] := ⟨rfl⟩
instance : ResC Tryd.f54 [.tmp 2] := ⟨rfl⟩
instance : ResC Tryd.f55 [.tmp 2] := ⟨rfl⟩
instance : ResC Tryd.f56 [.tmp 4] := ⟨rfl⟩
instance : ResC Tryd.f57 [.tmp 4] := ⟨rfl⟩
instance : ResC Tryd.f58 [.tmp 4] := ⟨rfl⟩
instance : ResC Tryd.f59 [.tmp 4] := ⟨rfl⟩
instance : ResC Tryd.f60 [.tmp 2] := ⟨rfl⟩
instance : ResC Tryd.f61 [.tmp 2] := ⟨rfl⟩
instance : ResC Tryd.f62 [.tmp 4] := ⟨rfl⟩
instance : ResC Tryd.f63 [.tmp 4] := ⟨rfl⟩
instance : ResC Tryd.f64 [.tmp 4] := ⟨rfl⟩
instance : ResC Tryd.f65 [.tmp 2] := ⟨rfl⟩
instance : ResC Tryd.f66 [.tmp 2] := ⟨rfl⟩
instance : ResC Tryd.f67 [.tmp 2] := ⟨rfl⟩
instance : ResC Tryd.f68 [.tmp 4, .tmp 5] := ⟨rfl⟩
instance : ResC Tryd.f69 [.tmp 2] := ⟨rfl⟩
instance : ResC Tryd.f70 [.tmp 4] := ⟨rfl⟩
instance : ResC Tryd.f71 [.tmp 0] := ⟨rfl⟩
instance : ResC Tryd.f72 [.tmp 2, .tmp 3] := ⟨rfl⟩
instance : ResC Tryd.f73 [.cell 0 29] := ⟨rfl⟩
instance : ResC Tryd.f74 [.cell 4 65, .tmp 5] := ⟨rfl⟩
instance : ResC Tryd.f75 [.tmp 6] := ⟨rfl⟩
instance : ResC Tryd.f76 [.tmp 4] := ⟨rfl⟩
instance : ResC Tryd.f77 [.tmp 2] := ⟨rfl⟩
instance : ResC Tryd.f78 [.tmp 6] := ⟨rfl⟩
instance : ResC Tryd.f79 [.tmp 6] := ⟨rfl⟩
instance : ResC Tryd.f80 [.tmp 0] := ⟨rfl⟩
instance : ResC Tryd.f81 [.tmp 2] := ⟨rfl⟩
instance : ResC Tryd.f82 [.tmp 2] := ⟨rfl⟩
instance : ResC Tryd.f83 [.tmp 4] := ⟨rfl⟩
instance : ResC Tryd.f84 [.tmp 3] := ⟨rfl⟩
instance : ResC Tryd.f85 [.tmp 2] := ⟨rfl⟩
instance : ResC Tryd.f86 [.tmp 6] := ⟨rfl⟩
instance : ResC Tryd.f87 [.tmp 8] := ⟨rfl⟩
instance : ResC Tryd.f88 [] := ⟨rfl⟩
instance : ResC Tryd.f89 [.tmp 0] := ⟨rfl⟩
instance : ResC Tryd.f90 [.tmp 4] := ⟨rfl⟩
instance : ResC Tryd.f91 [.tmp 2] := ⟨rfl⟩
instance : ResC Tryd.f92 [] := ⟨rfl⟩
instance : ResC Tryd.f93 [.tmp 0, .tmp 1] := ⟨rfl⟩
instance : ResC Tryd.f94 [.tmp 0, .tmp 1] := ⟨rfl⟩
instance : ResC Tryd.f95 [.tmp 0, .tmp 1] := ⟨rfl⟩
instance : ResC Tryd.f96 [.tmp 0, .tmp 1] := ⟨rfl⟩
instance : ResC Tryd.f97 [.tmp 0, .tmp 1] := ⟨rfl⟩
instance : ResC Tryd.f98 [.tmp 0, .tmp 1] := ⟨rfl⟩
instance : ResC Tryd.f99 [.tmp 0, .tmp 1] := ⟨rfl⟩
instance : ResC Tryd.f100 [.tmp 2] := ⟨rfl⟩
instance : ResC Tryd.f101 [.tmp 6, .tmp 7, .tmp 8] := ⟨rfl⟩
instance : ResC Tryd.f102 [.tmp 4] := ⟨rfl⟩
instance : ResC Tryd.f103 [.tmp 4] := ⟨rfl⟩
instance : ResC Tryd.f104 [.tmp 2] := ⟨rfl⟩
instance : ResC Tryd.f105 [.tmp 6] := ⟨rfl⟩
instance : ResC Tryd.f106 [.tmp 2] := ⟨rfl⟩
instance : ResC Tryd.f107 [.tmp 4] := ⟨rfl⟩
instance : ResC Tryd.f108 [.tmp 2] := ⟨rfl⟩
instance : ResC Tryd.f109 [.tmp 2] := ⟨rfl⟩
instance : ResC Tryd.f110 [.tmp 4] := ⟨rfl⟩
instance : ResC Tryd.f111 [] := ⟨rfl⟩
instance : ResC Tryd.f113 [.tmp 4, .tmp 5, .tmp 6] := ⟨rfl⟩
instance : ResC Tryd.f114 [.tmp 4, .tmp 5] := ⟨rfl⟩
instance : ResC Tryd.f115 [.tmp 4] := ⟨rfl⟩
instance : ResC Tryd.f116 [.tmp 2] := ⟨rfl⟩
instance : ResC Tryd.f117 [.tmp 4] := ⟨rfl⟩
instance : ResC Tryd.f119 [.tmp 4, .tmp 5, .tmp 6] := ⟨rfl⟩
instance : ResC Tryd.f120 [.tmp 2, .tmp 3] := ⟨rfl⟩
instance : ResC Tryd.f121 [.tmp 4] := ⟨rfl⟩
instance : ResC Tryd.f122 [.tmp 4] := ⟨rfl⟩
instance : ResC Tryd.f123 [.tmp 4] := ⟨rfl⟩
instance : ResC Tryd.f124 [.tmp 4] := ⟨rfl⟩
instance : ResC Tryd.f125 [.tmp 2] := ⟨rfl⟩
instance : ResC Tryd.f126 [.tmp 2] := ⟨rfl⟩
instance : ResC Tryd.f127 [] := ⟨rfl⟩
instance : ResC Tryd.f128 [.tmp 10, .tmp 11] := ⟨rfl⟩
instance : ResC Tryd.f129 [.tmp 4] := ⟨rfl⟩
instance : ResC Tryd.f131 [.tmp 2] := ⟨rfl⟩
instance : ResC Tryd.f132 [.tmp 4] := ⟨rfl⟩
instance : ResC Tryd.f133 [.tmp 2] := ⟨rfl⟩
instance : ResC Tryd.f134 [.tmp 2] := ⟨rfl⟩
instance : ResC Tryd.f135 [.tmp 2] := ⟨rfl⟩
instance : ResC Tryd.f136 [.tmp 2] := ⟨rfl⟩
instance : ResC Tryd.f137 [.tmp 2] := ⟨rfl⟩
instance : ResC Tryd.f139 [.tmp 2, .tmp 3] := ⟨rfl⟩
instance : ResC Tryd.f140 [.tmp 2] := ⟨rfl⟩
instance : ResC Tryd.f141 [.tmp 2] := ⟨rfl⟩
instance : ResC Tryd.f166 [] := ⟨rfl⟩
end Go.Proofs
