/- The engine's classes at this program: its types, its functions. Written by a program. -/
import Derived.Test.YtfpjpbkilahopaaDoorChecked
import Derived.Test.YtfpjpbkilahopaaDoorEngO
namespace Go.Proofs
open Go Go.Eng
set_option linter.unusedVariables false
set_option maxRecDepth 20000
instance : Mixed Tryd.prog := ⟨by kernel_rfl⟩
instance : Sc Tryd.prog 1 := ⟨fun w => Tryd.isAgg1 w, fun w => Tryd.sizeOf1 w⟩
instance : Zr Tryd.prog 1 [.nilFunc] := ⟨_, fun w => Tryd.zeroValue1 w, rfl⟩
instance : Sc Tryd.prog 2 := ⟨fun w => Tryd.isAgg2 w, fun w => Tryd.sizeOf2 w⟩
instance : Zr Tryd.prog 2 [(.int .i64 (0))] := ⟨_, fun w => Tryd.zeroValue2 w, rfl⟩
instance : I64T Tryd.prog 2 := ⟨Tryd.underlying2⟩
instance : Sc Tryd.prog 3 := ⟨fun w => Tryd.isAgg3 w, fun w => Tryd.sizeOf3 w⟩
instance : Zr Tryd.prog 3 [(.int .i64 (0))] := ⟨_, fun w => Tryd.zeroValue3 w, rfl⟩
instance : I64T Tryd.prog 3 := ⟨Tryd.underlying3⟩
instance : Sc Tryd.prog 4 := ⟨fun w => Tryd.isAgg4 w, fun w => Tryd.sizeOf4 w⟩
instance : Zr Tryd.prog 4 [(.bool false)] := ⟨_, fun w => Tryd.zeroValue4 w, rfl⟩
instance : IsBool Tryd.prog 4 := ⟨Tryd.underlying4⟩
instance : Sc Tryd.prog 5 := ⟨fun w => Tryd.isAgg5 w, fun w => Tryd.sizeOf5 w⟩
instance : Zr Tryd.prog 5 [(.int .u8 (0))] := ⟨_, fun w => Tryd.zeroValue5 w, rfl⟩
instance : Sc Tryd.prog 9 := ⟨fun w => Tryd.isAgg9 w, fun w => Tryd.sizeOf9 w⟩
instance : Zr Tryd.prog 9 [(.string ByteArray.empty)] := ⟨_, fun w => Tryd.zeroValue9 w, rfl⟩
instance : IsStr Tryd.prog 9 := ⟨Tryd.underlying9⟩
instance : Sc Tryd.prog 12 := ⟨fun w => Tryd.isAgg12 w, fun w => Tryd.sizeOf12 w⟩
instance : Zr Tryd.prog 12 [(.int .u64 (0))] := ⟨_, fun w => Tryd.zeroValue12 w, rfl⟩
instance : Ag Tryd.prog 13 2 := ⟨fun w => Tryd.isAgg13 w, fun w => Tryd.sizeOf13 w⟩
instance : Zr Tryd.prog 13 [(.string ByteArray.empty), (.int .u64 (0))] := ⟨_, fun w => Tryd.zeroValue13 w, rfl⟩
instance : Fo Tryd.prog 13 0 0 := ⟨fun w a => by simp [Instr.fieldAt, Instr.sureAddr, fieldPlace]⟩
instance : Fo Tryd.prog 13 1 1 := ⟨fun w a => by simp [Instr.fieldAt, Instr.sureAddr, fieldPlace]⟩
instance : StT Tryd.prog 13 [(0, 1), (1, 1)] [(.string ByteArray.empty), (.int .u64 (0))] := ⟨_, Tryd.t13, _, Tryd.underlying13, by kernel_rfl, by kernel_rfl, rfl, rfl⟩
instance : Sc Tryd.prog 20 := ⟨fun w => Tryd.isAgg20 w, fun w => Tryd.sizeOf20 w⟩
instance : Zr Tryd.prog 20 [.nilIface] := ⟨_, fun w => Tryd.zeroValue20 w, rfl⟩
instance : Sc Tryd.prog 21 := ⟨fun w => Tryd.isAgg21 w, fun w => Tryd.sizeOf21 w⟩
instance : Zr Tryd.prog 21 [(.int .i32 (0))] := ⟨_, fun w => Tryd.zeroValue21 w, rfl⟩
instance : Sc Tryd.prog 22 := ⟨fun w => Tryd.isAgg22 w, fun w => Tryd.sizeOf22 w⟩
instance : Zr Tryd.prog 22 [(.slice none 0 0)] := ⟨_, fun w => Tryd.zeroValue22 w, rfl⟩
instance : Sl Tryd.prog 22 1 8 := ⟨2, Tryd.t2, _, Tryd.underlying22, by kernel_rfl, rfl, rfl, rfl, rfl, by decide⟩
instance : SlZ Tryd.prog 22 [(.int .i64 (0))] := ⟨fun {e i z} h1 h2 h3 => by
  rw [Tryd.underlying22] at h1; cases h1
  rw [show Tryd.prog.info? 2 = some Tryd.t2 by kernel_rfl] at h2; cases h2; cases h3; rfl⟩
instance : Ag Tryd.prog 23 1 := ⟨fun w => Tryd.isAgg23 w, fun w => Tryd.sizeOf23 w⟩
instance : Zr Tryd.prog 23 [(.slice none 0 0)] := ⟨_, fun w => Tryd.zeroValue23 w, rfl⟩
instance : Fo Tryd.prog 23 0 0 := ⟨fun w a => by simp [Instr.fieldAt, Instr.sureAddr, fieldPlace]⟩
instance : StT Tryd.prog 23 [(0, 1)] [(.slice none 0 0)] := ⟨_, Tryd.t23, _, Tryd.underlying23, by kernel_rfl, by kernel_rfl, rfl, rfl⟩
instance : Ag Tryd.prog 24 1 := ⟨fun w => Tryd.isAgg24 w, fun w => Tryd.sizeOf24 w⟩
instance : Zr Tryd.prog 24 [(.slice none 0 0)] := ⟨_, fun w => Tryd.zeroValue24 w, rfl⟩
instance : Fo Tryd.prog 24 0 0 := ⟨fun w a => by simp [Instr.fieldAt, Instr.sureAddr, fieldPlace]⟩
instance : StT Tryd.prog 24 [(0, 1)] [(.slice none 0 0)] := ⟨_, Tryd.t24, _, Tryd.underlying24, by kernel_rfl, by kernel_rfl, rfl, rfl⟩
instance : Ag Tryd.prog 25 3 := ⟨fun w => Tryd.isAgg25 w, fun w => Tryd.sizeOf25 w⟩
instance : Zr Tryd.prog 25 [(.int .i64 (0)), (.slice none 0 0), (.slice none 0 0)] := ⟨_, fun w => Tryd.zeroValue25 w, rfl⟩
instance : Fo Tryd.prog 25 0 0 := ⟨fun w a => by simp [Instr.fieldAt, Instr.sureAddr, fieldPlace]⟩
instance : Fo Tryd.prog 25 1 1 := ⟨fun w a => by simp [Instr.fieldAt, Instr.sureAddr, fieldPlace]⟩
instance : Fo Tryd.prog 25 2 2 := ⟨fun w a => by simp [Instr.fieldAt, Instr.sureAddr, fieldPlace]⟩
instance : StT Tryd.prog 25 [(0, 1), (1, 1), (2, 1)] [(.int .i64 (0)), (.slice none 0 0), (.slice none 0 0)] := ⟨_, Tryd.t25, _, Tryd.underlying25, by kernel_rfl, by kernel_rfl, rfl, rfl⟩
instance : Ag Tryd.prog 26 3 := ⟨fun w => Tryd.isAgg26 w, fun w => Tryd.sizeOf26 w⟩
instance : Zr Tryd.prog 26 [(.int .i64 (0)), (.slice none 0 0), (.slice none 0 0)] := ⟨_, fun w => Tryd.zeroValue26 w, rfl⟩
instance : Fo Tryd.prog 26 0 0 := ⟨fun w a => by simp [Instr.fieldAt, Instr.sureAddr, fieldPlace]⟩
instance : Fo Tryd.prog 26 1 1 := ⟨fun w a => by simp [Instr.fieldAt, Instr.sureAddr, fieldPlace]⟩
instance : Fo Tryd.prog 26 2 2 := ⟨fun w a => by simp [Instr.fieldAt, Instr.sureAddr, fieldPlace]⟩
instance : StT Tryd.prog 26 [(0, 1), (1, 1), (2, 1)] [(.int .i64 (0)), (.slice none 0 0), (.slice none 0 0)] := ⟨_, Tryd.t26, _, Tryd.underlying26, by kernel_rfl, by kernel_rfl, rfl, rfl⟩
instance : Sc Tryd.prog 27 := ⟨fun w => Tryd.isAgg27 w, fun w => Tryd.sizeOf27 w⟩
instance : Zr Tryd.prog 27 [.nilFunc] := ⟨_, fun w => Tryd.zeroValue27 w, rfl⟩
instance : Sc Tryd.prog 28 := ⟨fun w => Tryd.isAgg28 w, fun w => Tryd.sizeOf28 w⟩
instance : Zr Tryd.prog 28 [.nilFunc] := ⟨_, fun w => Tryd.zeroValue28 w, rfl⟩
instance : Sc Tryd.prog 29 := ⟨fun w => Tryd.isAgg29 w, fun w => Tryd.sizeOf29 w⟩
instance : Zr Tryd.prog 29 [.nilFunc] := ⟨_, fun w => Tryd.zeroValue29 w, rfl⟩
instance : Ag Tryd.prog 30 1 := ⟨fun w => Tryd.isAgg30 w, fun w => Tryd.sizeOf30 w⟩
instance : Zr Tryd.prog 30 [(.slice none 0 0)] := ⟨_, fun w => Tryd.zeroValue30 w, rfl⟩
instance : Fo Tryd.prog 30 0 0 := ⟨fun w a => by simp [Instr.fieldAt, Instr.sureAddr, fieldPlace]⟩
instance : StT Tryd.prog 30 [(0, 1)] [(.slice none 0 0)] := ⟨_, Tryd.t30, _, Tryd.underlying30, by kernel_rfl, by kernel_rfl, rfl, rfl⟩
instance : Sc Tryd.prog 31 := ⟨fun w => Tryd.isAgg31 w, fun w => Tryd.sizeOf31 w⟩
instance : Zr Tryd.prog 31 [.nilFunc] := ⟨_, fun w => Tryd.zeroValue31 w, rfl⟩
instance : Ag Tryd.prog 32 3 := ⟨fun w => Tryd.isAgg32 w, fun w => Tryd.sizeOf32 w⟩
instance : Zr Tryd.prog 32 [(.int .i64 (0)), (.slice none 0 0), (.slice none 0 0)] := ⟨_, fun w => Tryd.zeroValue32 w, rfl⟩
instance : Fo Tryd.prog 32 0 0 := ⟨fun w a => by simp [Instr.fieldAt, Instr.sureAddr, fieldPlace]⟩
instance : Fo Tryd.prog 32 1 1 := ⟨fun w a => by simp [Instr.fieldAt, Instr.sureAddr, fieldPlace]⟩
instance : Fo Tryd.prog 32 2 2 := ⟨fun w a => by simp [Instr.fieldAt, Instr.sureAddr, fieldPlace]⟩
instance : StT Tryd.prog 32 [(0, 1), (1, 1), (2, 1)] [(.int .i64 (0)), (.slice none 0 0), (.slice none 0 0)] := ⟨_, Tryd.t32, _, Tryd.underlying32, by kernel_rfl, by kernel_rfl, rfl, rfl⟩
instance : Sc Tryd.prog 33 := ⟨fun w => Tryd.isAgg33 w, fun w => Tryd.sizeOf33 w⟩
instance : Zr Tryd.prog 33 [.nilFunc] := ⟨_, fun w => Tryd.zeroValue33 w, rfl⟩
instance : Sc Tryd.prog 34 := ⟨fun w => Tryd.isAgg34 w, fun w => Tryd.sizeOf34 w⟩
instance : Zr Tryd.prog 34 [.nilFunc] := ⟨_, fun w => Tryd.zeroValue34 w, rfl⟩
instance : Sc Tryd.prog 35 := ⟨fun w => Tryd.isAgg35 w, fun w => Tryd.sizeOf35 w⟩
instance : Zr Tryd.prog 35 [.nilFunc] := ⟨_, fun w => Tryd.zeroValue35 w, rfl⟩
instance : Sc Tryd.prog 36 := ⟨fun w => Tryd.isAgg36 w, fun w => Tryd.sizeOf36 w⟩
instance : Zr Tryd.prog 36 [.nilFunc] := ⟨_, fun w => Tryd.zeroValue36 w, rfl⟩
instance : Sc Tryd.prog 37 := ⟨fun w => Tryd.isAgg37 w, fun w => Tryd.sizeOf37 w⟩
instance : Zr Tryd.prog 37 [(.slice none 0 0)] := ⟨_, fun w => Tryd.zeroValue37 w, rfl⟩
instance : Sl Tryd.prog 37 2 48 := ⟨47, Tryd.t47, _, Tryd.underlying37, by kernel_rfl, rfl, rfl, rfl, rfl, by decide⟩
instance : SlZ Tryd.prog 37 [(.slice none 0 0), (.slice none 0 0)] := ⟨fun {e i z} h1 h2 h3 => by
  rw [Tryd.underlying37] at h1; cases h1
  rw [show Tryd.prog.info? 47 = some Tryd.t47 by kernel_rfl] at h2; cases h2; cases h3; rfl⟩
instance : Sc Tryd.prog 38 := ⟨fun w => Tryd.isAgg38 w, fun w => Tryd.sizeOf38 w⟩
instance : Zr Tryd.prog 38 [.nilFunc] := ⟨_, fun w => Tryd.zeroValue38 w, rfl⟩
instance : Sc Tryd.prog 39 := ⟨fun w => Tryd.isAgg39 w, fun w => Tryd.sizeOf39 w⟩
instance : Zr Tryd.prog 39 [.nilFunc] := ⟨_, fun w => Tryd.zeroValue39 w, rfl⟩
instance : Sc Tryd.prog 40 := ⟨fun w => Tryd.isAgg40 w, fun w => Tryd.sizeOf40 w⟩
instance : Zr Tryd.prog 40 [.nilFunc] := ⟨_, fun w => Tryd.zeroValue40 w, rfl⟩
instance : Sc Tryd.prog 41 := ⟨fun w => Tryd.isAgg41 w, fun w => Tryd.sizeOf41 w⟩
instance : Zr Tryd.prog 41 [.nilFunc] := ⟨_, fun w => Tryd.zeroValue41 w, rfl⟩
instance : Sc Tryd.prog 42 := ⟨fun w => Tryd.isAgg42 w, fun w => Tryd.sizeOf42 w⟩
instance : Zr Tryd.prog 42 [.nilFunc] := ⟨_, fun w => Tryd.zeroValue42 w, rfl⟩
instance : Sc Tryd.prog 43 := ⟨fun w => Tryd.isAgg43 w, fun w => Tryd.sizeOf43 w⟩
instance : Zr Tryd.prog 43 [.nilFunc] := ⟨_, fun w => Tryd.zeroValue43 w, rfl⟩
instance : Sc Tryd.prog 44 := ⟨fun w => Tryd.isAgg44 w, fun w => Tryd.sizeOf44 w⟩
instance : Zr Tryd.prog 44 [.nilFunc] := ⟨_, fun w => Tryd.zeroValue44 w, rfl⟩
instance : Sc Tryd.prog 45 := ⟨fun w => Tryd.isAgg45 w, fun w => Tryd.sizeOf45 w⟩
instance : Zr Tryd.prog 45 [.nilFunc] := ⟨_, fun w => Tryd.zeroValue45 w, rfl⟩
instance : Ag Tryd.prog 46 2 := ⟨fun w => Tryd.isAgg46 w, fun w => Tryd.sizeOf46 w⟩
instance : Zr Tryd.prog 46 [(.slice none 0 0), (.slice none 0 0)] := ⟨_, fun w => Tryd.zeroValue46 w, rfl⟩
instance : Fo Tryd.prog 46 0 0 := ⟨fun w a => by simp [Instr.fieldAt, Instr.sureAddr, fieldPlace]⟩
instance : Fo Tryd.prog 46 1 1 := ⟨fun w a => by simp [Instr.fieldAt, Instr.sureAddr, fieldPlace]⟩
instance : StT Tryd.prog 46 [(0, 1), (1, 1)] [(.slice none 0 0), (.slice none 0 0)] := ⟨_, Tryd.t46, _, Tryd.underlying46, by kernel_rfl, by kernel_rfl, rfl, rfl⟩
instance : Ag Tryd.prog 47 2 := ⟨fun w => Tryd.isAgg47 w, fun w => Tryd.sizeOf47 w⟩
instance : Zr Tryd.prog 47 [(.slice none 0 0), (.slice none 0 0)] := ⟨_, fun w => Tryd.zeroValue47 w, rfl⟩
instance : Fo Tryd.prog 47 0 0 := ⟨fun w a => by simp [Instr.fieldAt, Instr.sureAddr, fieldPlace]⟩
instance : Fo Tryd.prog 47 1 1 := ⟨fun w a => by simp [Instr.fieldAt, Instr.sureAddr, fieldPlace]⟩
instance : StT Tryd.prog 47 [(0, 1), (1, 1)] [(.slice none 0 0), (.slice none 0 0)] := ⟨_, Tryd.t47, _, Tryd.underlying47, by kernel_rfl, by kernel_rfl, rfl, rfl⟩
instance : Sc Tryd.prog 48 := ⟨fun w => Tryd.isAgg48 w, fun w => Tryd.sizeOf48 w⟩
instance : Zr Tryd.prog 48 [.nilFunc] := ⟨_, fun w => Tryd.zeroValue48 w, rfl⟩
instance : Sc Tryd.prog 49 := ⟨fun w => Tryd.isAgg49 w, fun w => Tryd.sizeOf49 w⟩
instance : Zr Tryd.prog 49 [(.slice none 0 0)] := ⟨_, fun w => Tryd.zeroValue49 w, rfl⟩
instance : Sl Tryd.prog 49 2 48 := ⟨54, Tryd.t54, _, Tryd.underlying49, by kernel_rfl, rfl, rfl, rfl, rfl, by decide⟩
instance : SlZ Tryd.prog 49 [(.slice none 0 0), (.slice none 0 0)] := ⟨fun {e i z} h1 h2 h3 => by
  rw [Tryd.underlying49] at h1; cases h1
  rw [show Tryd.prog.info? 54 = some Tryd.t54 by kernel_rfl] at h2; cases h2; cases h3; rfl⟩
instance : Ag Tryd.prog 50 2 := ⟨fun w => Tryd.isAgg50 w, fun w => Tryd.sizeOf50 w⟩
instance : Zr Tryd.prog 50 [(.slice none 0 0), (.slice none 0 0)] := ⟨_, fun w => Tryd.zeroValue50 w, rfl⟩
instance : Fo Tryd.prog 50 0 0 := ⟨fun w a => by simp [Instr.fieldAt, Instr.sureAddr, fieldPlace]⟩
instance : Fo Tryd.prog 50 1 1 := ⟨fun w a => by simp [Instr.fieldAt, Instr.sureAddr, fieldPlace]⟩
instance : StT Tryd.prog 50 [(0, 1), (1, 1)] [(.slice none 0 0), (.slice none 0 0)] := ⟨_, Tryd.t50, _, Tryd.underlying50, by kernel_rfl, by kernel_rfl, rfl, rfl⟩
instance : Ag Tryd.prog 51 2 := ⟨fun w => Tryd.isAgg51 w, fun w => Tryd.sizeOf51 w⟩
instance : Zr Tryd.prog 51 [(.slice none 0 0), (.slice none 0 0)] := ⟨_, fun w => Tryd.zeroValue51 w, rfl⟩
instance : Fo Tryd.prog 51 0 0 := ⟨fun w a => by simp [Instr.fieldAt, Instr.sureAddr, fieldPlace]⟩
instance : Fo Tryd.prog 51 1 1 := ⟨fun w a => by simp [Instr.fieldAt, Instr.sureAddr, fieldPlace]⟩
instance : StT Tryd.prog 51 [(0, 1), (1, 1)] [(.slice none 0 0), (.slice none 0 0)] := ⟨_, Tryd.t51, _, Tryd.underlying51, by kernel_rfl, by kernel_rfl, rfl, rfl⟩
instance : Sc Tryd.prog 53 := ⟨fun w => Tryd.isAgg53 w, fun w => Tryd.sizeOf53 w⟩
instance : Zr Tryd.prog 53 [.nilFunc] := ⟨_, fun w => Tryd.zeroValue53 w, rfl⟩
instance : Ag Tryd.prog 54 2 := ⟨fun w => Tryd.isAgg54 w, fun w => Tryd.sizeOf54 w⟩
instance : Zr Tryd.prog 54 [(.slice none 0 0), (.slice none 0 0)] := ⟨_, fun w => Tryd.zeroValue54 w, rfl⟩
instance : Fo Tryd.prog 54 0 0 := ⟨fun w a => by simp [Instr.fieldAt, Instr.sureAddr, fieldPlace]⟩
instance : Fo Tryd.prog 54 1 1 := ⟨fun w a => by simp [Instr.fieldAt, Instr.sureAddr, fieldPlace]⟩
instance : StT Tryd.prog 54 [(0, 1), (1, 1)] [(.slice none 0 0), (.slice none 0 0)] := ⟨_, Tryd.t54, _, Tryd.underlying54, by kernel_rfl, by kernel_rfl, rfl, rfl⟩
instance : Sc Tryd.prog 55 := ⟨fun w => Tryd.isAgg55 w, fun w => Tryd.sizeOf55 w⟩
instance : Zr Tryd.prog 55 [.nilFunc] := ⟨_, fun w => Tryd.zeroValue55 w, rfl⟩
instance : Sc Tryd.prog 56 := ⟨fun w => Tryd.isAgg56 w, fun w => Tryd.sizeOf56 w⟩
instance : Zr Tryd.prog 56 [.nilFunc] := ⟨_, fun w => Tryd.zeroValue56 w, rfl⟩
instance : Sc Tryd.prog 57 := ⟨fun w => Tryd.isAgg57 w, fun w => Tryd.sizeOf57 w⟩
instance : Zr Tryd.prog 57 [.nilFunc] := ⟨_, fun w => Tryd.zeroValue57 w, rfl⟩
instance : Sc Tryd.prog 58 := ⟨fun w => Tryd.isAgg58 w, fun w => Tryd.sizeOf58 w⟩
instance : Zr Tryd.prog 58 [(.slice none 0 0)] := ⟨_, fun w => Tryd.zeroValue58 w, rfl⟩
instance : Sl Tryd.prog 58 1 16 := ⟨9, Tryd.t9, _, Tryd.underlying58, by kernel_rfl, rfl, rfl, rfl, rfl, by decide⟩
instance : SlZ Tryd.prog 58 [(.string ByteArray.empty)] := ⟨fun {e i z} h1 h2 h3 => by
  rw [Tryd.underlying58] at h1; cases h1
  rw [show Tryd.prog.info? 9 = some Tryd.t9 by kernel_rfl] at h2; cases h2; cases h3; rfl⟩
instance : Sc Tryd.prog 59 := ⟨fun w => Tryd.isAgg59 w, fun w => Tryd.sizeOf59 w⟩
instance : Zr Tryd.prog 59 [.nilFunc] := ⟨_, fun w => Tryd.zeroValue59 w, rfl⟩
instance : Sc Tryd.prog 61 := ⟨fun w => Tryd.isAgg61 w, fun w => Tryd.sizeOf61 w⟩
instance : Zr Tryd.prog 61 [.nilFunc] := ⟨_, fun w => Tryd.zeroValue61 w, rfl⟩
instance : Sc Tryd.prog 62 := ⟨fun w => Tryd.isAgg62 w, fun w => Tryd.sizeOf62 w⟩
instance : Zr Tryd.prog 62 [.nilFunc] := ⟨_, fun w => Tryd.zeroValue62 w, rfl⟩
instance : Sc Tryd.prog 64 := ⟨fun w => Tryd.isAgg64 w, fun w => Tryd.sizeOf64 w⟩
instance : Zr Tryd.prog 64 [.nilFunc] := ⟨_, fun w => Tryd.zeroValue64 w, rfl⟩
instance : Sc Tryd.prog 65 := ⟨fun w => Tryd.isAgg65 w, fun w => Tryd.sizeOf65 w⟩
instance : Zr Tryd.prog 65 [.nilFunc] := ⟨_, fun w => Tryd.zeroValue65 w, rfl⟩
instance : Sc Tryd.prog 66 := ⟨fun w => Tryd.isAgg66 w, fun w => Tryd.sizeOf66 w⟩
instance : Zr Tryd.prog 66 [.nilFunc] := ⟨_, fun w => Tryd.zeroValue66 w, rfl⟩
instance : Sc Tryd.prog 67 := ⟨fun w => Tryd.isAgg67 w, fun w => Tryd.sizeOf67 w⟩
instance : Zr Tryd.prog 67 [.nilFunc] := ⟨_, fun w => Tryd.zeroValue67 w, rfl⟩
instance : Sc Tryd.prog 68 := ⟨fun w => Tryd.isAgg68 w, fun w => Tryd.sizeOf68 w⟩
instance : Zr Tryd.prog 68 [.nilFunc] := ⟨_, fun w => Tryd.zeroValue68 w, rfl⟩
instance : Sc Tryd.prog 69 := ⟨fun w => Tryd.isAgg69 w, fun w => Tryd.sizeOf69 w⟩
instance : Zr Tryd.prog 69 [.nilFunc] := ⟨_, fun w => Tryd.zeroValue69 w, rfl⟩
instance : Sc Tryd.prog 70 := ⟨fun w => Tryd.isAgg70 w, fun w => Tryd.sizeOf70 w⟩
instance : Zr Tryd.prog 70 [.nilFunc] := ⟨_, fun w => Tryd.zeroValue70 w, rfl⟩
instance : Sc Tryd.prog 71 := ⟨fun w => Tryd.isAgg71 w, fun w => Tryd.sizeOf71 w⟩
instance : Zr Tryd.prog 71 [.nilFunc] := ⟨_, fun w => Tryd.zeroValue71 w, rfl⟩
instance : Sc Tryd.prog 72 := ⟨fun w => Tryd.isAgg72 w, fun w => Tryd.sizeOf72 w⟩
instance : Zr Tryd.prog 72 [(.pointer none)] := ⟨_, fun w => Tryd.zeroValue72 w, rfl⟩
instance : Sc Tryd.prog 73 := ⟨fun w => Tryd.isAgg73 w, fun w => Tryd.sizeOf73 w⟩
instance : Zr Tryd.prog 73 [(.slice none 0 0)] := ⟨_, fun w => Tryd.zeroValue73 w, rfl⟩
instance : Sl Tryd.prog 73 1 1 := ⟨5, Tryd.t5, _, Tryd.underlying73, by kernel_rfl, rfl, rfl, rfl, rfl, by decide⟩
instance : SlZ Tryd.prog 73 [(.int .u8 (0))] := ⟨fun {e i z} h1 h2 h3 => by
  rw [Tryd.underlying73] at h1; cases h1
  rw [show Tryd.prog.info? 5 = some Tryd.t5 by kernel_rfl] at h2; cases h2; cases h3; rfl⟩
instance : Ag Tryd.prog 74 2 := ⟨fun w => Tryd.isAgg74 w, fun w => Tryd.sizeOf74 w⟩
instance : Zr Tryd.prog 74 [(.pointer none), (.slice none 0 0)] := ⟨_, fun w => Tryd.zeroValue74 w, rfl⟩
instance : Fo Tryd.prog 74 0 0 := ⟨fun w a => by simp [Instr.fieldAt, Instr.sureAddr, fieldPlace]⟩
instance : Fo Tryd.prog 74 1 1 := ⟨fun w a => by simp [Instr.fieldAt, Instr.sureAddr, fieldPlace]⟩
instance : StT Tryd.prog 74 [(0, 1), (1, 1)] [(.pointer none), (.slice none 0 0)] := ⟨_, Tryd.t74, _, Tryd.underlying74, by kernel_rfl, by kernel_rfl, rfl, rfl⟩
instance : Ag Tryd.prog 75 2 := ⟨fun w => Tryd.isAgg75 w, fun w => Tryd.sizeOf75 w⟩
instance : Zr Tryd.prog 75 [(.pointer none), (.slice none 0 0)] := ⟨_, fun w => Tryd.zeroValue75 w, rfl⟩
instance : Fo Tryd.prog 75 0 0 := ⟨fun w a => by simp [Instr.fieldAt, Instr.sureAddr, fieldPlace]⟩
instance : Fo Tryd.prog 75 1 1 := ⟨fun w a => by simp [Instr.fieldAt, Instr.sureAddr, fieldPlace]⟩
instance : StT Tryd.prog 75 [(0, 1), (1, 1)] [(.pointer none), (.slice none 0 0)] := ⟨_, Tryd.t75, _, Tryd.underlying75, by kernel_rfl, by kernel_rfl, rfl, rfl⟩
instance : Sc Tryd.prog 76 := ⟨fun w => Tryd.isAgg76 w, fun w => Tryd.sizeOf76 w⟩
instance : Zr Tryd.prog 76 [.nilFunc] := ⟨_, fun w => Tryd.zeroValue76 w, rfl⟩
instance : Sc Tryd.prog 77 := ⟨fun w => Tryd.isAgg77 w, fun w => Tryd.sizeOf77 w⟩
instance : Zr Tryd.prog 77 [.nilFunc] := ⟨_, fun w => Tryd.zeroValue77 w, rfl⟩
instance : Sc Tryd.prog 78 := ⟨fun w => Tryd.isAgg78 w, fun w => Tryd.sizeOf78 w⟩
instance : Zr Tryd.prog 78 [.nilFunc] := ⟨_, fun w => Tryd.zeroValue78 w, rfl⟩
instance : Sc Tryd.prog 79 := ⟨fun w => Tryd.isAgg79 w, fun w => Tryd.sizeOf79 w⟩
instance : Zr Tryd.prog 79 [(.map none)] := ⟨_, fun w => Tryd.zeroValue79 w, rfl⟩
instance : Sc Tryd.prog 81 := ⟨fun w => Tryd.isAgg81 w, fun w => Tryd.sizeOf81 w⟩
instance : Zr Tryd.prog 81 [.nilFunc] := ⟨_, fun w => Tryd.zeroValue81 w, rfl⟩
instance : Sc Tryd.prog 82 := ⟨fun w => Tryd.isAgg82 w, fun w => Tryd.sizeOf82 w⟩
instance : Zr Tryd.prog 82 [.nilFunc] := ⟨_, fun w => Tryd.zeroValue82 w, rfl⟩
instance : Sc Tryd.prog 83 := ⟨fun w => Tryd.isAgg83 w, fun w => Tryd.sizeOf83 w⟩
instance : Zr Tryd.prog 83 [.nilFunc] := ⟨_, fun w => Tryd.zeroValue83 w, rfl⟩
instance : Ag Tryd.prog 84 3 := ⟨fun w => Tryd.isAgg84 w, fun w => Tryd.sizeOf84 w⟩
instance : Zr Tryd.prog 84 [(.slice none 0 0), (.slice none 0 0), (.int .i64 (0))] := ⟨_, fun w => Tryd.zeroValue84 w, rfl⟩
instance : Fo Tryd.prog 84 0 0 := ⟨fun w a => by simp [Instr.fieldAt, Instr.sureAddr, fieldPlace]⟩
instance : Fo Tryd.prog 84 1 1 := ⟨fun w a => by simp [Instr.fieldAt, Instr.sureAddr, fieldPlace]⟩
instance : Fo Tryd.prog 84 2 2 := ⟨fun w a => by simp [Instr.fieldAt, Instr.sureAddr, fieldPlace]⟩
instance : StT Tryd.prog 84 [(0, 1), (1, 1), (2, 1)] [(.slice none 0 0), (.slice none 0 0), (.int .i64 (0))] := ⟨_, Tryd.t84, _, Tryd.underlying84, by kernel_rfl, by kernel_rfl, rfl, rfl⟩
instance : Ag Tryd.prog 85 3 := ⟨fun w => Tryd.isAgg85 w, fun w => Tryd.sizeOf85 w⟩
instance : Zr Tryd.prog 85 [(.slice none 0 0), (.slice none 0 0), (.int .i64 (0))] := ⟨_, fun w => Tryd.zeroValue85 w, rfl⟩
instance : Fo Tryd.prog 85 0 0 := ⟨fun w a => by simp [Instr.fieldAt, Instr.sureAddr, fieldPlace]⟩
instance : Fo Tryd.prog 85 1 1 := ⟨fun w a => by simp [Instr.fieldAt, Instr.sureAddr, fieldPlace]⟩
instance : Fo Tryd.prog 85 2 2 := ⟨fun w a => by simp [Instr.fieldAt, Instr.sureAddr, fieldPlace]⟩
instance : StT Tryd.prog 85 [(0, 1), (1, 1), (2, 1)] [(.slice none 0 0), (.slice none 0 0), (.int .i64 (0))] := ⟨_, Tryd.t85, _, Tryd.underlying85, by kernel_rfl, by kernel_rfl, rfl, rfl⟩
instance : Sc Tryd.prog 86 := ⟨fun w => Tryd.isAgg86 w, fun w => Tryd.sizeOf86 w⟩
instance : Zr Tryd.prog 86 [.nilFunc] := ⟨_, fun w => Tryd.zeroValue86 w, rfl⟩
instance : Sc Tryd.prog 87 := ⟨fun w => Tryd.isAgg87 w, fun w => Tryd.sizeOf87 w⟩
instance : Zr Tryd.prog 87 [.nilIface] := ⟨_, fun w => Tryd.zeroValue87 w, rfl⟩
instance : Sc Tryd.prog 88 := ⟨fun w => Tryd.isAgg88 w, fun w => Tryd.sizeOf88 w⟩
instance : Zr Tryd.prog 88 [.nilIface] := ⟨_, fun w => Tryd.zeroValue88 w, rfl⟩
instance : Sc Tryd.prog 90 := ⟨fun w => Tryd.isAgg90 w, fun w => Tryd.sizeOf90 w⟩
instance : Zr Tryd.prog 90 [.nilFunc] := ⟨_, fun w => Tryd.zeroValue90 w, rfl⟩
instance : Sc Tryd.prog 91 := ⟨fun w => Tryd.isAgg91 w, fun w => Tryd.sizeOf91 w⟩
instance : Zr Tryd.prog 91 [.nilFunc] := ⟨_, fun w => Tryd.zeroValue91 w, rfl⟩
instance : Sc Tryd.prog 92 := ⟨fun w => Tryd.isAgg92 w, fun w => Tryd.sizeOf92 w⟩
instance : Zr Tryd.prog 92 [(.pointer none)] := ⟨_, fun w => Tryd.zeroValue92 w, rfl⟩
instance : Sc Tryd.prog 94 := ⟨fun w => Tryd.isAgg94 w, fun w => Tryd.sizeOf94 w⟩
instance : Zr Tryd.prog 94 [.nilFunc] := ⟨_, fun w => Tryd.zeroValue94 w, rfl⟩
instance : Sc Tryd.prog 96 := ⟨fun w => Tryd.isAgg96 w, fun w => Tryd.sizeOf96 w⟩
instance : Zr Tryd.prog 96 [.nilFunc] := ⟨_, fun w => Tryd.zeroValue96 w, rfl⟩
instance : Sc Tryd.prog 97 := ⟨fun w => Tryd.isAgg97 w, fun w => Tryd.sizeOf97 w⟩
instance : Zr Tryd.prog 97 [.nilFunc] := ⟨_, fun w => Tryd.zeroValue97 w, rfl⟩
instance : Sc Tryd.prog 98 := ⟨fun w => Tryd.isAgg98 w, fun w => Tryd.sizeOf98 w⟩
instance : Zr Tryd.prog 98 [(.pointer none)] := ⟨_, fun w => Tryd.zeroValue98 w, rfl⟩
instance : Sc Tryd.prog 99 := ⟨fun w => Tryd.isAgg99 w, fun w => Tryd.sizeOf99 w⟩
instance : Zr Tryd.prog 99 [.nilFunc] := ⟨_, fun w => Tryd.zeroValue99 w, rfl⟩
instance : Sc Tryd.prog 100 := ⟨fun w => Tryd.isAgg100 w, fun w => Tryd.sizeOf100 w⟩
instance : Zr Tryd.prog 100 [.nilFunc] := ⟨_, fun w => Tryd.zeroValue100 w, rfl⟩
instance : Sc Tryd.prog 102 := ⟨fun w => Tryd.isAgg102 w, fun w => Tryd.sizeOf102 w⟩
instance : Zr Tryd.prog 102 [.nilFunc] := ⟨_, fun w => Tryd.zeroValue102 w, rfl⟩
instance : Sc Tryd.prog 103 := ⟨fun w => Tryd.isAgg103 w, fun w => Tryd.sizeOf103 w⟩
instance : Zr Tryd.prog 103 [.nilFunc] := ⟨_, fun w => Tryd.zeroValue103 w, rfl⟩
instance : Sc Tryd.prog 104 := ⟨fun w => Tryd.isAgg104 w, fun w => Tryd.sizeOf104 w⟩
instance : Zr Tryd.prog 104 [.nilFunc] := ⟨_, fun w => Tryd.zeroValue104 w, rfl⟩
instance : Sc Tryd.prog 106 := ⟨fun w => Tryd.isAgg106 w, fun w => Tryd.sizeOf106 w⟩
instance : Zr Tryd.prog 106 [.nilFunc] := ⟨_, fun w => Tryd.zeroValue106 w, rfl⟩
instance : Sc Tryd.prog 107 := ⟨fun w => Tryd.isAgg107 w, fun w => Tryd.sizeOf107 w⟩
instance : Zr Tryd.prog 107 [.nilFunc] := ⟨_, fun w => Tryd.zeroValue107 w, rfl⟩
instance : Sc Tryd.prog 108 := ⟨fun w => Tryd.isAgg108 w, fun w => Tryd.sizeOf108 w⟩
instance : Zr Tryd.prog 108 [.nilFunc] := ⟨_, fun w => Tryd.zeroValue108 w, rfl⟩
instance : Ag Tryd.prog 109 24 := ⟨fun w => Tryd.isAgg109 w, fun w => Tryd.sizeOf109 w⟩
instance : Zr Tryd.prog 109 [(.int .u8 (0)), (.int .u8 (0)), (.int .u8 (0)), (.int .u8 (0)), (.int .u8 (0)), (.int .u8 (0)), (.int .u8 (0)), (.int .u8 (0)), (.int .u8 (0)), (.int .u8 (0)), (.int .u8 (0)), (.int .u8 (0)), (.int .u8 (0)), (.int .u8 (0)), (.int .u8 (0)), (.int .u8 (0)), (.int .u8 (0)), (.int .u8 (0)), (.int .u8 (0)), (.int .u8 (0)), (.int .u8 (0)), (.int .u8 (0)), (.int .u8 (0)), (.int .u8 (0))] := ⟨_, fun w => Tryd.zeroValue109 w, rfl⟩
instance : ArT Tryd.prog 109 24 := ⟨_, Tryd.t5, Tryd.underlying109, by kernel_rfl, rfl, by decide⟩
instance : Sc Tryd.prog 110 := ⟨fun w => Tryd.isAgg110 w, fun w => Tryd.sizeOf110 w⟩
instance : Zr Tryd.prog 110 [(.int .u64 (0))] := ⟨_, fun w => Tryd.zeroValue110 w, rfl⟩
instance : Sc Tryd.prog 111 := ⟨fun w => Tryd.isAgg111 w, fun w => Tryd.sizeOf111 w⟩
instance : Zr Tryd.prog 111 [.nilFunc] := ⟨_, fun w => Tryd.zeroValue111 w, rfl⟩
instance : Sc Tryd.prog 112 := ⟨fun w => Tryd.isAgg112 w, fun w => Tryd.sizeOf112 w⟩
instance : Zr Tryd.prog 112 [.nilFunc] := ⟨_, fun w => Tryd.zeroValue112 w, rfl⟩
instance : Sc Tryd.prog 114 := ⟨fun w => Tryd.isAgg114 w, fun w => Tryd.sizeOf114 w⟩
instance : Zr Tryd.prog 114 [.nilFunc] := ⟨_, fun w => Tryd.zeroValue114 w, rfl⟩
instance : Sc Tryd.prog 115 := ⟨fun w => Tryd.isAgg115 w, fun w => Tryd.sizeOf115 w⟩
instance : Zr Tryd.prog 115 [.nilFunc] := ⟨_, fun w => Tryd.zeroValue115 w, rfl⟩
instance : Sc Tryd.prog 116 := ⟨fun w => Tryd.isAgg116 w, fun w => Tryd.sizeOf116 w⟩
instance : Zr Tryd.prog 116 [.nilFunc] := ⟨_, fun w => Tryd.zeroValue116 w, rfl⟩
instance : Sc Tryd.prog 117 := ⟨fun w => Tryd.isAgg117 w, fun w => Tryd.sizeOf117 w⟩
instance : Zr Tryd.prog 117 [(.int .u64 (0))] := ⟨_, fun w => Tryd.zeroValue117 w, rfl⟩
instance : Sc Tryd.prog 118 := ⟨fun w => Tryd.isAgg118 w, fun w => Tryd.sizeOf118 w⟩
instance : Zr Tryd.prog 118 [.nilFunc] := ⟨_, fun w => Tryd.zeroValue118 w, rfl⟩
instance : Ag Tryd.prog 119 20 := ⟨fun w => Tryd.isAgg119 w, fun w => Tryd.sizeOf119 w⟩
instance : Zr Tryd.prog 119 [(.int .u64 (0)), (.int .u64 (0)), (.int .u64 (0)), (.int .u64 (0)), (.int .u64 (0)), (.int .u64 (0)), (.int .u64 (0)), (.int .u64 (0)), (.int .u64 (0)), (.int .u64 (0)), (.int .u64 (0)), (.int .u64 (0)), (.int .u64 (0)), (.int .u64 (0)), (.int .u64 (0)), (.int .u64 (0)), (.int .u64 (0)), (.int .u64 (0)), (.int .u64 (0)), (.int .u64 (0))] := ⟨_, fun w => Tryd.zeroValue119 w, rfl⟩
instance : ArT Tryd.prog 119 20 := ⟨_, Tryd.t110, Tryd.underlying119, by kernel_rfl, rfl, by decide⟩
instance : Sc Tryd.prog 120 := ⟨fun w => Tryd.isAgg120 w, fun w => Tryd.sizeOf120 w⟩
instance : Zr Tryd.prog 120 [(.int .u32 (0))] := ⟨_, fun w => Tryd.zeroValue120 w, rfl⟩
instance : Sc Tryd.prog 122 := ⟨fun w => Tryd.isAgg122 w, fun w => Tryd.sizeOf122 w⟩
instance : Zr Tryd.prog 122 [.nilFunc] := ⟨_, fun w => Tryd.zeroValue122 w, rfl⟩
instance : Sc Tryd.prog 123 := ⟨fun w => Tryd.isAgg123 w, fun w => Tryd.sizeOf123 w⟩
instance : Zr Tryd.prog 123 [.nilFunc] := ⟨_, fun w => Tryd.zeroValue123 w, rfl⟩
instance : Sc Tryd.prog 125 := ⟨fun w => Tryd.isAgg125 w, fun w => Tryd.sizeOf125 w⟩
instance : Zr Tryd.prog 125 [.nilFunc] := ⟨_, fun w => Tryd.zeroValue125 w, rfl⟩
instance : Sc Tryd.prog 126 := ⟨fun w => Tryd.isAgg126 w, fun w => Tryd.sizeOf126 w⟩
instance : Zr Tryd.prog 126 [.nilFunc] := ⟨_, fun w => Tryd.zeroValue126 w, rfl⟩
instance : Ag Tryd.prog 127 32 := ⟨fun w => Tryd.isAgg127 w, fun w => Tryd.sizeOf127 w⟩
instance : Zr Tryd.prog 127 [(.int .u8 (0)), (.int .u8 (0)), (.int .u8 (0)), (.int .u8 (0)), (.int .u8 (0)), (.int .u8 (0)), (.int .u8 (0)), (.int .u8 (0)), (.int .u8 (0)), (.int .u8 (0)), (.int .u8 (0)), (.int .u8 (0)), (.int .u8 (0)), (.int .u8 (0)), (.int .u8 (0)), (.int .u8 (0)), (.int .u8 (0)), (.int .u8 (0)), (.int .u8 (0)), (.int .u8 (0)), (.int .u8 (0)), (.int .u8 (0)), (.int .u8 (0)), (.int .u8 (0)), (.int .u8 (0)), (.int .u8 (0)), (.int .u8 (0)), (.int .u8 (0)), (.int .u8 (0)), (.int .u8 (0)), (.int .u8 (0)), (.int .u8 (0))] := ⟨_, fun w => Tryd.zeroValue127 w, rfl⟩
instance : ArT Tryd.prog 127 32 := ⟨_, Tryd.t5, Tryd.underlying127, by kernel_rfl, rfl, by decide⟩
instance : Ag Tryd.prog 128 64 := ⟨fun w => Tryd.isAgg128 w, fun w => Tryd.sizeOf128 w⟩
instance : Zr Tryd.prog 128 [(.int .u8 (0)), (.int .u8 (0)), (.int .u8 (0)), (.int .u8 (0)), (.int .u8 (0)), (.int .u8 (0)), (.int .u8 (0)), (.int .u8 (0)), (.int .u8 (0)), (.int .u8 (0)), (.int .u8 (0)), (.int .u8 (0)), (.int .u8 (0)), (.int .u8 (0)), (.int .u8 (0)), (.int .u8 (0)), (.int .u8 (0)), (.int .u8 (0)), (.int .u8 (0)), (.int .u8 (0)), (.int .u8 (0)), (.int .u8 (0)), (.int .u8 (0)), (.int .u8 (0)), (.int .u8 (0)), (.int .u8 (0)), (.int .u8 (0)), (.int .u8 (0)), (.int .u8 (0)), (.int .u8 (0)), (.int .u8 (0)), (.int .u8 (0)), (.int .u8 (0)), (.int .u8 (0)), (.int .u8 (0)), (.int .u8 (0)), (.int .u8 (0)), (.int .u8 (0)), (.int .u8 (0)), (.int .u8 (0)), (.int .u8 (0)), (.int .u8 (0)), (.int .u8 (0)), (.int .u8 (0)), (.int .u8 (0)), (.int .u8 (0)), (.int .u8 (0)), (.int .u8 (0)), (.int .u8 (0)), (.int .u8 (0)), (.int .u8 (0)), (.int .u8 (0)), (.int .u8 (0)), (.int .u8 (0)), (.int .u8 (0)), (.int .u8 (0)), (.int .u8 (0)), (.int .u8 (0)), (.int .u8 (0)), (.int .u8 (0)), (.int .u8 (0)), (.int .u8 (0)), (.int .u8 (0)), (.int .u8 (0))] := ⟨_, fun w => Tryd.zeroValue128 w, rfl⟩
instance : ArT Tryd.prog 128 64 := ⟨_, Tryd.t5, Tryd.underlying128, by kernel_rfl, rfl, by decide⟩
instance : Sc Tryd.prog 136 := ⟨fun w => Tryd.isAgg136 w, fun w => Tryd.sizeOf136 w⟩
instance : Zr Tryd.prog 136 [.nilFunc] := ⟨_, fun w => Tryd.zeroValue136 w, rfl⟩
instance : Sc Tryd.prog 141 := ⟨fun w => Tryd.isAgg141 w, fun w => Tryd.sizeOf141 w⟩
instance : Zr Tryd.prog 141 [.nilFunc] := ⟨_, fun w => Tryd.zeroValue141 w, rfl⟩
instance : Op_ Tryd.prog 2 (Int) repInt := op_int Tryd.underlying2 (by kernel_rfl)
instance : Op_ Tryd.prog 3 (Int) repInt := op_int Tryd.underlying3 (by kernel_rfl)
instance : Op_ Tryd.prog 4 (Bool) repBool := op_bool Tryd.underlying4 (by kernel_rfl)
instance : Op_ Tryd.prog 9 (ByteArray) repStr := op_str Tryd.underlying9 (by kernel_rfl)
instance : Op_ Tryd.prog 22 (List Int) repList := op_slice Tryd.underlying22 (by kernel_rfl) inferInstance
instance : Op_ Tryd.prog 23 (List Int) repList := op_struct Tryd.underlying23 (by kernel_rfl) (opF_one rfl inferInstance)
instance : Op_ Tryd.prog 24 (List Int) repList := op_struct Tryd.underlying24 (by kernel_rfl) (opF_one rfl inferInstance)
instance : Op_ Tryd.prog 25 (Int × List Int × List Int) repProd := op_struct Tryd.underlying25 (by kernel_rfl) (opF_cons rfl inferInstance rfl (opF_cons rfl inferInstance rfl (opF_one rfl inferInstance)))
instance : Op_ Tryd.prog 26 (Int × List Int × List Int) repProd := op_struct Tryd.underlying26 (by kernel_rfl) (opF_cons rfl inferInstance rfl (opF_cons rfl inferInstance rfl (opF_one rfl inferInstance)))
instance : Op_ Tryd.prog 30 (List Int) repList := op_struct Tryd.underlying30 (by kernel_rfl) (opF_one rfl inferInstance)
instance : Op_ Tryd.prog 32 (Int × List Int × List Int) repProd := op_struct Tryd.underlying32 (by kernel_rfl) (opF_cons rfl inferInstance rfl (opF_cons rfl inferInstance rfl (opF_one rfl inferInstance)))
instance : Op_ Tryd.prog 47 (List Int × List Int) repProd := op_struct Tryd.underlying47 (by kernel_rfl) (opF_cons rfl inferInstance rfl (opF_one rfl inferInstance))
instance : Op_ Tryd.prog 37 (List (List Int × List Int)) repList := op_slice Tryd.underlying37 (by kernel_rfl) inferInstance
instance : Op_ Tryd.prog 46 (List Int × List Int) repProd := op_struct Tryd.underlying46 (by kernel_rfl) (opF_cons rfl inferInstance rfl (opF_one rfl inferInstance))
instance : Op_ Tryd.prog 54 (List Int × List Int) repProd := op_struct Tryd.underlying54 (by kernel_rfl) (opF_cons rfl inferInstance rfl (opF_one rfl inferInstance))
instance : Op_ Tryd.prog 49 (List (List Int × List Int)) repList := op_slice Tryd.underlying49 (by kernel_rfl) inferInstance
instance : Op_ Tryd.prog 50 (List Int × List (List Int × List Int)) repProd := op_struct Tryd.underlying50 (by kernel_rfl) (opF_cons rfl inferInstance rfl (opF_one rfl inferInstance))
instance : Op_ Tryd.prog 51 (List Int × List (List Int × List Int)) repProd := op_struct Tryd.underlying51 (by kernel_rfl) (opF_cons rfl inferInstance rfl (opF_one rfl inferInstance))
instance : Op_ Tryd.prog 58 (List ByteArray) repList := op_slice Tryd.underlying58 (by kernel_rfl) inferInstance
instance : Op_ Tryd.prog 84 (List Int × List Int × Int) repProd := op_struct Tryd.underlying84 (by kernel_rfl) (opF_cons rfl inferInstance rfl (opF_cons rfl inferInstance rfl (opF_one rfl inferInstance)))
instance : Op_ Tryd.prog 85 (List Int × List Int × Int) repProd := op_struct Tryd.underlying85 (by kernel_rfl) (opF_cons rfl inferInstance rfl (opF_cons rfl inferInstance rfl (opF_one rfl inferInstance)))
instance : IsFn Tryd.prog 2 := isFn_of Tryd.func2 (by kernel_rfl) rfl
instance : IsFn Tryd.prog 3 := isFn_of Tryd.func3 (by kernel_rfl) rfl
instance : IsFn Tryd.prog 4 := isFn_of Tryd.func4 (by kernel_rfl) rfl
instance : IsFn Tryd.prog 5 := isFn_of Tryd.func5 (by kernel_rfl) rfl
instance : IsFn Tryd.prog 6 := isFn_of Tryd.func6 (by kernel_rfl) rfl
instance : IsFn Tryd.prog 7 := isFn_of Tryd.func7 (by kernel_rfl) rfl
instance : IsFn Tryd.prog 8 := isFn_of Tryd.func8 (by kernel_rfl) rfl
instance : IsFn Tryd.prog 9 := isFn_of Tryd.func9 (by kernel_rfl) rfl
instance : IsFn Tryd.prog 10 := isFn_of Tryd.func10 (by kernel_rfl) rfl
instance : IsFn Tryd.prog 11 := isFn_of Tryd.func11 (by kernel_rfl) rfl
instance : IsFn Tryd.prog 12 := isFn_of Tryd.func12 (by kernel_rfl) rfl
instance : IsFn Tryd.prog 13 := isFn_of Tryd.func13 (by kernel_rfl) rfl
instance : IsFn Tryd.prog 14 := isFn_of Tryd.func14 (by kernel_rfl) rfl
instance : IsFn Tryd.prog 15 := isFn_of Tryd.func15 (by kernel_rfl) rfl
instance : IsFn Tryd.prog 16 := isFn_of Tryd.func16 (by kernel_rfl) rfl
instance : IsFn Tryd.prog 17 := isFn_of Tryd.func17 (by kernel_rfl) rfl
instance : IsFn Tryd.prog 18 := isFn_of Tryd.func18 (by kernel_rfl) rfl
instance : IsFn Tryd.prog 19 := isFn_of Tryd.func19 (by kernel_rfl) rfl
instance : IsFn Tryd.prog 20 := isFn_of Tryd.func20 (by kernel_rfl) rfl
instance : IsFn Tryd.prog 21 := isFn_of Tryd.func21 (by kernel_rfl) rfl
instance : IsFn Tryd.prog 22 := isFn_of Tryd.func22 (by kernel_rfl) rfl
instance : IsFn Tryd.prog 23 := isFn_of Tryd.func23 (by kernel_rfl) rfl
instance : IsFn Tryd.prog 24 := isFn_of Tryd.func24 (by kernel_rfl) rfl
instance : IsFn Tryd.prog 25 := isFn_of Tryd.func25 (by kernel_rfl) rfl
instance : IsFn Tryd.prog 26 := isFn_of Tryd.func26 (by kernel_rfl) rfl
instance : IsFn Tryd.prog 27 := isFn_of Tryd.func27 (by kernel_rfl) rfl
instance : IsFn Tryd.prog 28 := isFn_of Tryd.func28 (by kernel_rfl) rfl
instance : IsFn Tryd.prog 29 := isFn_of Tryd.func29 (by kernel_rfl) rfl
instance : IsFn Tryd.prog 30 := isFn_of Tryd.func30 (by kernel_rfl) rfl
instance : IsFn Tryd.prog 31 := isFn_of Tryd.func31 (by kernel_rfl) rfl
instance : IsFn Tryd.prog 32 := isFn_of Tryd.func32 (by kernel_rfl) rfl
instance : IsFn Tryd.prog 33 := isFn_of Tryd.func33 (by kernel_rfl) rfl
instance : IsFn Tryd.prog 34 := isFn_of Tryd.func34 (by kernel_rfl) rfl
instance : IsFn Tryd.prog 35 := isFn_of Tryd.func35 (by kernel_rfl) rfl
instance : IsFn Tryd.prog 36 := isFn_of Tryd.func36 (by kernel_rfl) rfl
instance : IsFn Tryd.prog 37 := isFn_of Tryd.func37 (by kernel_rfl) rfl
instance : IsFn Tryd.prog 38 := isFn_of Tryd.func38 (by kernel_rfl) rfl
instance : IsFn Tryd.prog 39 := isFn_of Tryd.func39 (by kernel_rfl) rfl
instance : IsFn Tryd.prog 40 := isFn_of Tryd.func40 (by kernel_rfl) rfl
instance : IsFn Tryd.prog 41 := isFn_of Tryd.func41 (by kernel_rfl) rfl
instance : IsFn Tryd.prog 42 := isFn_of Tryd.func42 (by kernel_rfl) rfl
instance : IsFn Tryd.prog 43 := isFn_of Tryd.func43 (by kernel_rfl) rfl
instance : IsFn Tryd.prog 44 := isFn_of Tryd.func44 (by kernel_rfl) rfl
instance : IsFn Tryd.prog 45 := isFn_of Tryd.func45 (by kernel_rfl) rfl
instance : IsFn Tryd.prog 46 := isFn_of Tryd.func46 (by kernel_rfl) rfl
instance : IsFn Tryd.prog 47 := isFn_of Tryd.func47 (by kernel_rfl) rfl
instance : IsFn Tryd.prog 48 := isFn_of Tryd.func48 (by kernel_rfl) rfl
instance : IsFn Tryd.prog 49 := isFn_of Tryd.func49 (by kernel_rfl) rfl
instance : IsFn Tryd.prog 50 := isFn_of Tryd.func50 (by kernel_rfl) rfl
instance : IsFn Tryd.prog 51 := isFn_of Tryd.func51 (by kernel_rfl) rfl
instance : IsFn Tryd.prog 52 := isFn_of Tryd.func52 (by kernel_rfl) rfl
instance : IsFn Tryd.prog 53 := isFn_of Tryd.func53 (by kernel_rfl) rfl
instance : IsFn Tryd.prog 54 := isFn_of Tryd.func54 (by kernel_rfl) rfl
instance : IsFn Tryd.prog 55 := isFn_of Tryd.func55 (by kernel_rfl) rfl
instance : IsFn Tryd.prog 56 := isFn_of Tryd.func56 (by kernel_rfl) rfl
instance : IsFn Tryd.prog 57 := isFn_of Tryd.func57 (by kernel_rfl) rfl
instance : IsFn Tryd.prog 58 := isFn_of Tryd.func58 (by kernel_rfl) rfl
instance : IsFn Tryd.prog 59 := isFn_of Tryd.func59 (by kernel_rfl) rfl
instance : IsFn Tryd.prog 60 := isFn_of Tryd.func60 (by kernel_rfl) rfl
instance : IsFn Tryd.prog 61 := isFn_of Tryd.func61 (by kernel_rfl) rfl
instance : IsFn Tryd.prog 62 := isFn_of Tryd.func62 (by kernel_rfl) rfl
instance : IsFn Tryd.prog 63 := isFn_of Tryd.func63 (by kernel_rfl) rfl
instance : IsFn Tryd.prog 64 := isFn_of Tryd.func64 (by kernel_rfl) rfl
instance : IsFn Tryd.prog 65 := isFn_of Tryd.func65 (by kernel_rfl) rfl
instance : IsFn Tryd.prog 66 := isFn_of Tryd.func66 (by kernel_rfl) rfl
instance : IsFn Tryd.prog 67 := isFn_of Tryd.func67 (by kernel_rfl) rfl
instance : IsFn Tryd.prog 68 := isFn_of Tryd.func68 (by kernel_rfl) rfl
instance : IsFn Tryd.prog 69 := isFn_of Tryd.func69 (by kernel_rfl) rfl
instance : IsFn Tryd.prog 70 := isFn_of Tryd.func70 (by kernel_rfl) rfl
instance : IsFn Tryd.prog 71 := isFn_of Tryd.func71 (by kernel_rfl) rfl
instance : IsFn Tryd.prog 73 := isFn_of Tryd.func73 (by kernel_rfl) rfl
instance : IsFn Tryd.prog 74 := isFn_of Tryd.func74 (by kernel_rfl) rfl
instance : IsFn Tryd.prog 75 := isFn_of Tryd.func75 (by kernel_rfl) rfl
instance : IsFn Tryd.prog 76 := isFn_of Tryd.func76 (by kernel_rfl) rfl
instance : IsFn Tryd.prog 77 := isFn_of Tryd.func77 (by kernel_rfl) rfl
instance : IsFn Tryd.prog 78 := isFn_of Tryd.func78 (by kernel_rfl) rfl
instance : IsFn Tryd.prog 79 := isFn_of Tryd.func79 (by kernel_rfl) rfl
instance : IsFn Tryd.prog 81 := isFn_of Tryd.func81 (by kernel_rfl) rfl
instance : IsFn Tryd.prog 82 := isFn_of Tryd.func82 (by kernel_rfl) rfl
instance : IsFn Tryd.prog 83 := isFn_of Tryd.func83 (by kernel_rfl) rfl
instance : IsFn Tryd.prog 84 := isFn_of Tryd.func84 (by kernel_rfl) rfl
instance : IsFn Tryd.prog 85 := isFn_of Tryd.func85 (by kernel_rfl) rfl
instance : IsFn Tryd.prog 86 := isFn_of Tryd.func86 (by kernel_rfl) rfl
instance : IsFn Tryd.prog 87 := isFn_of Tryd.func87 (by kernel_rfl) rfl
instance : IsFn Tryd.prog 89 := isFn_of Tryd.func89 (by kernel_rfl) rfl
instance : IsFn Tryd.prog 90 := isFn_of Tryd.func90 (by kernel_rfl) rfl
instance : IsFn Tryd.prog 91 := isFn_of Tryd.func91 (by kernel_rfl) rfl
instance : IsFn Tryd.prog 116 := isFn_of Tryd.func116 (by kernel_rfl) rfl
instance : ResC Tryd.f2 [] := ⟨rfl⟩
instance : ResC Tryd.f3 [.tmp 4] := ⟨rfl⟩
instance : ResC Tryd.f4 [.tmp 2] := ⟨rfl⟩
instance : ResC Tryd.f5 [.tmp 4] := ⟨rfl⟩
instance : ResC Tryd.f6 [.tmp 4] := ⟨rfl⟩
instance : ResC Tryd.f7 [.tmp 4] := ⟨rfl⟩
instance : ResC Tryd.f8 [.cell 2 30] := ⟨rfl⟩
instance : ResC Tryd.f9 [.cell 2 32] := ⟨rfl⟩
instance : ResC Tryd.f10 [.tmp 4] := ⟨rfl⟩
instance : ResC Tryd.f11 [.tmp 4] := ⟨rfl⟩
instance : ResC Tryd.f12 [.tmp 4] := ⟨rfl⟩
instance : ResC Tryd.f13 [.tmp 2] := ⟨rfl⟩
instance : ResC Tryd.f14 [.tmp 2] := ⟨rfl⟩
instance : ResC Tryd.f15 [.tmp 4] := ⟨rfl⟩
instance : ResC Tryd.f16 [.tmp 4] := ⟨rfl⟩
instance : ResC Tryd.f17 [.tmp 4] := ⟨rfl⟩
instance : ResC Tryd.f18 [.tmp 4] := ⟨rfl⟩
instance : ResC Tryd.f19 [.tmp 4] := ⟨rfl⟩
instance : ResC Tryd.f20 [.tmp 2] := ⟨rfl⟩
instance : ResC Tryd.f21 [.tmp 4] := ⟨rfl⟩
instance : ResC Tryd.f22 [.tmp 4] := ⟨rfl⟩
instance : ResC Tryd.f23 [.cell 0 47] := ⟨rfl⟩
instance : ResC Tryd.f24 [.tmp 2] := ⟨rfl⟩
instance : ResC Tryd.f25 [.cell 2 51, .tmp 3] := ⟨rfl⟩
instance : ResC Tryd.f26 [.tmp 4] := ⟨rfl⟩
instance : ResC Tryd.f27 [.tmp 4] := ⟨rfl⟩
instance : ResC Tryd.f28 [.tmp 4] := ⟨rfl⟩
instance : ResC Tryd.f29 [.tmp 4] := ⟨rfl⟩
instance : ResC Tryd.f30 [.tmp 6] := ⟨rfl⟩
instance : ResC Tryd.f31 [.tmp 4] := ⟨rfl⟩
instance : ResC Tryd.f32 [.tmp 4] := ⟨rfl⟩
instance : ResC Tryd.f33 [.tmp 0] := ⟨rfl⟩
instance : ResC Tryd.f34 [.tmp 2, .tmp 3] := ⟨rfl⟩
instance : ResC Tryd.f35 [.cell 0 30] := ⟨rfl⟩
instance : ResC Tryd.f36 [.cell 4 54, .tmp 5] := ⟨rfl⟩
instance : ResC Tryd.f37 [.tmp 2] := ⟨rfl⟩
instance : ResC Tryd.f38 [.tmp 6] := ⟨rfl⟩
instance : ResC Tryd.f39 [.tmp 6] := ⟨rfl⟩
instance : ResC Tryd.f40 [.tmp 2] := ⟨rfl⟩
instance : ResC Tryd.f41 [.tmp 6] := ⟨rfl⟩
instance : ResC Tryd.f42 [.tmp 2] := ⟨rfl⟩
instance : ResC Tryd.f43 [.tmp 2] := ⟨rfl⟩
instance : ResC Tryd.f44 [.tmp 6] := ⟨rfl⟩
instance : ResC Tryd.f45 [.tmp 8] := ⟨rfl⟩
instance : ResC Tryd.f46 [.tmp 2] := ⟨rfl⟩
instance : ResC Tryd.f47 [.tmp 0, .tmp 1] := ⟨rfl⟩
instance : ResC Tryd.f48 [.tmp 0, .tmp 1] := ⟨rfl⟩
instance : ResC Tryd.f49 [.tmp 0, .tmp 1] := ⟨rfl⟩
instance : ResC Tryd.f50 [.tmp 0, .tmp 1] := ⟨rfl⟩
instance : ResC Tryd.f51 [.tmp 0, .tmp 1] := ⟨rfl⟩
instance : ResC Tryd.f52 [.tmp 0, .tmp 1] := ⟨rfl⟩
instance : ResC Tryd.f53 [.tmp 0, .tmp 1] := ⟨rfl⟩
instance : ResC Tryd.f54 [.tmp 2] := ⟨rfl⟩
instance : ResC Tryd.f55 [.tmp 6, .tmp 7, .tmp 8] := ⟨rfl⟩
instance : ResC Tryd.f56 [.tmp 4] := ⟨rfl⟩
instance : ResC Tryd.f57 [.tmp 4] := ⟨rfl⟩
instance : ResC Tryd.f58 [.tmp 2] := ⟨rfl⟩
instance : ResC Tryd.f59 [.tmp 4, .tmp 5] := ⟨rfl⟩
instance : ResC Tryd.f60 [.tmp 2] := ⟨rfl⟩
instance : ResC Tryd.f61 [.tmp 4] := ⟨rfl⟩
instance : ResC Tryd.f62 [.tmp 4, .tmp 5, .tmp 6] := ⟨rfl⟩
instance : ResC Tryd.f63 [.tmp 4, .tmp 5] := ⟨rfl⟩
instance : ResC Tryd.f64 [.tmp 4] := ⟨rfl⟩
instance : ResC Tryd.f65 [.tmp 2] := ⟨rfl⟩
instance : ResC Tryd.f66 [] := ⟨rfl⟩
instance : ResC Tryd.f67 [.tmp 4] := ⟨rfl⟩
instance : ResC Tryd.f68 [.tmp 4, .tmp 5, .tmp 6] := ⟨rfl⟩
instance : ResC Tryd.f69 [.tmp 2, .tmp 3] := ⟨rfl⟩
instance : ResC Tryd.f70 [.tmp 4] := ⟨rfl⟩
instance : ResC Tryd.f71 [.tmp 4] := ⟨rfl⟩
instance : ResC Tryd.f73 [.tmp 4] := ⟨rfl⟩
instance : ResC Tryd.f74 [.tmp 4] := ⟨rfl⟩
instance : ResC Tryd.f75 [.tmp 2] := ⟨rfl⟩
instance : ResC Tryd.f76 [.tmp 2] := ⟨rfl⟩
instance : ResC Tryd.f77 [] := ⟨rfl⟩
instance : ResC Tryd.f78 [.tmp 10, .tmp 11] := ⟨rfl⟩
instance : ResC Tryd.f79 [.tmp 4] := ⟨rfl⟩
instance : ResC Tryd.f81 [.tmp 2] := ⟨rfl⟩
instance : ResC Tryd.f82 [.tmp 4] := ⟨rfl⟩
instance : ResC Tryd.f83 [.tmp 2] := ⟨rfl⟩
instance : ResC Tryd.f84 [.tmp 2] := ⟨rfl⟩
instance : ResC Tryd.f85 [.tmp 2] := ⟨rfl⟩
instance : ResC Tryd.f86 [.tmp 2] := ⟨rfl⟩
instance : ResC Tryd.f87 [.tmp 2] := ⟨rfl⟩
instance : ResC Tryd.f89 [.tmp 2, .tmp 3] := ⟨rfl⟩
instance : ResC Tryd.f90 [.tmp 2] := ⟨rfl⟩
instance : ResC Tryd.f91 [.tmp 2] := ⟨rfl⟩
instance : ResC Tryd.f116 [] := ⟨rfl⟩
end Go.Proofs
