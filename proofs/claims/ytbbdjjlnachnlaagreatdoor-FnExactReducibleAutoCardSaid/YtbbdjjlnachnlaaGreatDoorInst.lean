/- The engine's classes at this program: its types, its functions. Written by a program. -/
import Derived.Test.YtbbdjjlnachnlaaGreatDoorChecked
import Derived.Test.YtbbdjjlnachnlaaGreatDoorEngO
namespace Go.Proofs
open Go Go.Eng
set_option linter.unusedVariables false
set_option maxRecDepth 20000
instance : Mixed Tryz.prog := ⟨by kernel_rfl⟩
instance : Sc Tryz.prog 1 := ⟨fun w => Tryz.isAgg1 w, fun w => Tryz.sizeOf1 w⟩
instance : Zr Tryz.prog 1 [.nilFunc] := ⟨_, fun w => Tryz.zeroValue1 w, rfl⟩
instance : Sc Tryz.prog 2 := ⟨fun w => Tryz.isAgg2 w, fun w => Tryz.sizeOf2 w⟩
instance : Zr Tryz.prog 2 [(.int .i64 (0))] := ⟨_, fun w => Tryz.zeroValue2 w, rfl⟩
instance : I64T Tryz.prog 2 := ⟨Tryz.underlying2⟩
instance : Sc Tryz.prog 3 := ⟨fun w => Tryz.isAgg3 w, fun w => Tryz.sizeOf3 w⟩
instance : Zr Tryz.prog 3 [(.int .i64 (0))] := ⟨_, fun w => Tryz.zeroValue3 w, rfl⟩
instance : I64T Tryz.prog 3 := ⟨Tryz.underlying3⟩
instance : Sc Tryz.prog 4 := ⟨fun w => Tryz.isAgg4 w, fun w => Tryz.sizeOf4 w⟩
instance : Zr Tryz.prog 4 [(.bool false)] := ⟨_, fun w => Tryz.zeroValue4 w, rfl⟩
instance : IsBool Tryz.prog 4 := ⟨Tryz.underlying4⟩
instance : Sc Tryz.prog 5 := ⟨fun w => Tryz.isAgg5 w, fun w => Tryz.sizeOf5 w⟩
instance : Zr Tryz.prog 5 [(.int .u8 (0))] := ⟨_, fun w => Tryz.zeroValue5 w, rfl⟩
instance : Sc Tryz.prog 9 := ⟨fun w => Tryz.isAgg9 w, fun w => Tryz.sizeOf9 w⟩
instance : Zr Tryz.prog 9 [(.string ByteArray.empty)] := ⟨_, fun w => Tryz.zeroValue9 w, rfl⟩
instance : IsStr Tryz.prog 9 := ⟨Tryz.underlying9⟩
instance : Sc Tryz.prog 12 := ⟨fun w => Tryz.isAgg12 w, fun w => Tryz.sizeOf12 w⟩
instance : Zr Tryz.prog 12 [(.int .u64 (0))] := ⟨_, fun w => Tryz.zeroValue12 w, rfl⟩
instance : Ag Tryz.prog 13 2 := ⟨fun w => Tryz.isAgg13 w, fun w => Tryz.sizeOf13 w⟩
instance : Zr Tryz.prog 13 [(.string ByteArray.empty), (.int .u64 (0))] := ⟨_, fun w => Tryz.zeroValue13 w, rfl⟩
instance : Fo Tryz.prog 13 0 0 := ⟨fun w a => by simp [Instr.fieldAt, Instr.sureAddr, fieldPlace]⟩
instance : Fo Tryz.prog 13 1 1 := ⟨fun w a => by simp [Instr.fieldAt, Instr.sureAddr, fieldPlace]⟩
instance : StT Tryz.prog 13 [(0, 1), (1, 1)] [(.string ByteArray.empty), (.int .u64 (0))] := ⟨_, Tryz.t13, _, Tryz.underlying13, by kernel_rfl, by kernel_rfl, rfl, rfl⟩
instance : Sc Tryz.prog 20 := ⟨fun w => Tryz.isAgg20 w, fun w => Tryz.sizeOf20 w⟩
instance : Zr Tryz.prog 20 [.nilIface] := ⟨_, fun w => Tryz.zeroValue20 w, rfl⟩
instance : Sc Tryz.prog 21 := ⟨fun w => Tryz.isAgg21 w, fun w => Tryz.sizeOf21 w⟩
instance : Zr Tryz.prog 21 [(.int .i32 (0))] := ⟨_, fun w => Tryz.zeroValue21 w, rfl⟩
instance : Sc Tryz.prog 22 := ⟨fun w => Tryz.isAgg22 w, fun w => Tryz.sizeOf22 w⟩
instance : Zr Tryz.prog 22 [(.slice none 0 0)] := ⟨_, fun w => Tryz.zeroValue22 w, rfl⟩
instance : Sl Tryz.prog 22 1 1 := ⟨5, Tryz.t5, _, Tryz.underlying22, by kernel_rfl, rfl, rfl, rfl, rfl, by decide⟩
instance : SlZ Tryz.prog 22 [(.int .u8 (0))] := ⟨fun {e i z} h1 h2 h3 => by
  rw [Tryz.underlying22] at h1; cases h1
  rw [show Tryz.prog.info? 5 = some Tryz.t5 by kernel_rfl] at h2; cases h2; cases h3; rfl⟩
instance : Sc Tryz.prog 23 := ⟨fun w => Tryz.isAgg23 w, fun w => Tryz.sizeOf23 w⟩
instance : Zr Tryz.prog 23 [.nilFunc] := ⟨_, fun w => Tryz.zeroValue23 w, rfl⟩
instance : Sc Tryz.prog 24 := ⟨fun w => Tryz.isAgg24 w, fun w => Tryz.sizeOf24 w⟩
instance : Zr Tryz.prog 24 [(.slice none 0 0)] := ⟨_, fun w => Tryz.zeroValue24 w, rfl⟩
instance : Sl Tryz.prog 24 1 8 := ⟨2, Tryz.t2, _, Tryz.underlying24, by kernel_rfl, rfl, rfl, rfl, rfl, by decide⟩
instance : SlZ Tryz.prog 24 [(.int .i64 (0))] := ⟨fun {e i z} h1 h2 h3 => by
  rw [Tryz.underlying24] at h1; cases h1
  rw [show Tryz.prog.info? 2 = some Tryz.t2 by kernel_rfl] at h2; cases h2; cases h3; rfl⟩
instance : Ag Tryz.prog 25 1 := ⟨fun w => Tryz.isAgg25 w, fun w => Tryz.sizeOf25 w⟩
instance : Zr Tryz.prog 25 [(.slice none 0 0)] := ⟨_, fun w => Tryz.zeroValue25 w, rfl⟩
instance : Fo Tryz.prog 25 0 0 := ⟨fun w a => by simp [Instr.fieldAt, Instr.sureAddr, fieldPlace]⟩
instance : StT Tryz.prog 25 [(0, 1)] [(.slice none 0 0)] := ⟨_, Tryz.t25, _, Tryz.underlying25, by kernel_rfl, by kernel_rfl, rfl, rfl⟩
instance : Ag Tryz.prog 26 1 := ⟨fun w => Tryz.isAgg26 w, fun w => Tryz.sizeOf26 w⟩
instance : Zr Tryz.prog 26 [(.slice none 0 0)] := ⟨_, fun w => Tryz.zeroValue26 w, rfl⟩
instance : Fo Tryz.prog 26 0 0 := ⟨fun w a => by simp [Instr.fieldAt, Instr.sureAddr, fieldPlace]⟩
instance : StT Tryz.prog 26 [(0, 1)] [(.slice none 0 0)] := ⟨_, Tryz.t26, _, Tryz.underlying26, by kernel_rfl, by kernel_rfl, rfl, rfl⟩
instance : Sc Tryz.prog 27 := ⟨fun w => Tryz.isAgg27 w, fun w => Tryz.sizeOf27 w⟩
instance : Zr Tryz.prog 27 [(.slice none 0 0)] := ⟨_, fun w => Tryz.zeroValue27 w, rfl⟩
instance : Sl Tryz.prog 27 2 48 := ⟨95, Tryz.t95, _, Tryz.underlying27, by kernel_rfl, rfl, rfl, rfl, rfl, by decide⟩
instance : SlZ Tryz.prog 27 [(.slice none 0 0), (.slice none 0 0)] := ⟨fun {e i z} h1 h2 h3 => by
  rw [Tryz.underlying27] at h1; cases h1
  rw [show Tryz.prog.info? 95 = some Tryz.t95 by kernel_rfl] at h2; cases h2; cases h3; rfl⟩
instance : Ag Tryz.prog 28 2 := ⟨fun w => Tryz.isAgg28 w, fun w => Tryz.sizeOf28 w⟩
instance : Zr Tryz.prog 28 [(.slice none 0 0), (.slice none 0 0)] := ⟨_, fun w => Tryz.zeroValue28 w, rfl⟩
instance : Fo Tryz.prog 28 0 0 := ⟨fun w a => by simp [Instr.fieldAt, Instr.sureAddr, fieldPlace]⟩
instance : Fo Tryz.prog 28 1 1 := ⟨fun w a => by simp [Instr.fieldAt, Instr.sureAddr, fieldPlace]⟩
instance : StT Tryz.prog 28 [(0, 1), (1, 1)] [(.slice none 0 0), (.slice none 0 0)] := ⟨_, Tryz.t28, _, Tryz.underlying28, by kernel_rfl, by kernel_rfl, rfl, rfl⟩
instance : Ag Tryz.prog 29 2 := ⟨fun w => Tryz.isAgg29 w, fun w => Tryz.sizeOf29 w⟩
instance : Zr Tryz.prog 29 [(.slice none 0 0), (.slice none 0 0)] := ⟨_, fun w => Tryz.zeroValue29 w, rfl⟩
instance : Fo Tryz.prog 29 0 0 := ⟨fun w a => by simp [Instr.fieldAt, Instr.sureAddr, fieldPlace]⟩
instance : Fo Tryz.prog 29 1 1 := ⟨fun w a => by simp [Instr.fieldAt, Instr.sureAddr, fieldPlace]⟩
instance : StT Tryz.prog 29 [(0, 1), (1, 1)] [(.slice none 0 0), (.slice none 0 0)] := ⟨_, Tryz.t29, _, Tryz.underlying29, by kernel_rfl, by kernel_rfl, rfl, rfl⟩
instance : Sc Tryz.prog 31 := ⟨fun w => Tryz.isAgg31 w, fun w => Tryz.sizeOf31 w⟩
instance : Zr Tryz.prog 31 [.nilFunc] := ⟨_, fun w => Tryz.zeroValue31 w, rfl⟩
instance : Sc Tryz.prog 32 := ⟨fun w => Tryz.isAgg32 w, fun w => Tryz.sizeOf32 w⟩
instance : Zr Tryz.prog 32 [(.slice none 0 0)] := ⟨_, fun w => Tryz.zeroValue32 w, rfl⟩
instance : Sl Tryz.prog 32 3 40 := ⟨77, Tryz.t77, _, Tryz.underlying32, by kernel_rfl, rfl, rfl, rfl, rfl, by decide⟩
instance : SlZ Tryz.prog 32 [(.int .i64 (0)), (.slice none 0 0), (.int .i64 (0))] := ⟨fun {e i z} h1 h2 h3 => by
  rw [Tryz.underlying32] at h1; cases h1
  rw [show Tryz.prog.info? 77 = some Tryz.t77 by kernel_rfl] at h2; cases h2; cases h3; rfl⟩
instance : Ag Tryz.prog 33 3 := ⟨fun w => Tryz.isAgg33 w, fun w => Tryz.sizeOf33 w⟩
instance : Zr Tryz.prog 33 [(.int .i64 (0)), (.slice none 0 0), (.slice none 0 0)] := ⟨_, fun w => Tryz.zeroValue33 w, rfl⟩
instance : Fo Tryz.prog 33 0 0 := ⟨fun w a => by simp [Instr.fieldAt, Instr.sureAddr, fieldPlace]⟩
instance : Fo Tryz.prog 33 1 1 := ⟨fun w a => by simp [Instr.fieldAt, Instr.sureAddr, fieldPlace]⟩
instance : Fo Tryz.prog 33 2 2 := ⟨fun w a => by simp [Instr.fieldAt, Instr.sureAddr, fieldPlace]⟩
instance : StT Tryz.prog 33 [(0, 1), (1, 1), (2, 1)] [(.int .i64 (0)), (.slice none 0 0), (.slice none 0 0)] := ⟨_, Tryz.t33, _, Tryz.underlying33, by kernel_rfl, by kernel_rfl, rfl, rfl⟩
instance : Ag Tryz.prog 34 3 := ⟨fun w => Tryz.isAgg34 w, fun w => Tryz.sizeOf34 w⟩
instance : Zr Tryz.prog 34 [(.int .i64 (0)), (.slice none 0 0), (.slice none 0 0)] := ⟨_, fun w => Tryz.zeroValue34 w, rfl⟩
instance : Fo Tryz.prog 34 0 0 := ⟨fun w a => by simp [Instr.fieldAt, Instr.sureAddr, fieldPlace]⟩
instance : Fo Tryz.prog 34 1 1 := ⟨fun w a => by simp [Instr.fieldAt, Instr.sureAddr, fieldPlace]⟩
instance : Fo Tryz.prog 34 2 2 := ⟨fun w a => by simp [Instr.fieldAt, Instr.sureAddr, fieldPlace]⟩
instance : StT Tryz.prog 34 [(0, 1), (1, 1), (2, 1)] [(.int .i64 (0)), (.slice none 0 0), (.slice none 0 0)] := ⟨_, Tryz.t34, _, Tryz.underlying34, by kernel_rfl, by kernel_rfl, rfl, rfl⟩
instance : Sc Tryz.prog 36 := ⟨fun w => Tryz.isAgg36 w, fun w => Tryz.sizeOf36 w⟩
instance : Zr Tryz.prog 36 [.nilFunc] := ⟨_, fun w => Tryz.zeroValue36 w, rfl⟩
instance : Sc Tryz.prog 37 := ⟨fun w => Tryz.isAgg37 w, fun w => Tryz.sizeOf37 w⟩
instance : Zr Tryz.prog 37 [.nilFunc] := ⟨_, fun w => Tryz.zeroValue37 w, rfl⟩
instance : Sc Tryz.prog 38 := ⟨fun w => Tryz.isAgg38 w, fun w => Tryz.sizeOf38 w⟩
instance : Zr Tryz.prog 38 [.nilFunc] := ⟨_, fun w => Tryz.zeroValue38 w, rfl⟩
instance : Sc Tryz.prog 39 := ⟨fun w => Tryz.isAgg39 w, fun w => Tryz.sizeOf39 w⟩
instance : Zr Tryz.prog 39 [.nilFunc] := ⟨_, fun w => Tryz.zeroValue39 w, rfl⟩
instance : Sc Tryz.prog 40 := ⟨fun w => Tryz.isAgg40 w, fun w => Tryz.sizeOf40 w⟩
instance : Zr Tryz.prog 40 [.nilFunc] := ⟨_, fun w => Tryz.zeroValue40 w, rfl⟩
instance : Sc Tryz.prog 41 := ⟨fun w => Tryz.isAgg41 w, fun w => Tryz.sizeOf41 w⟩
instance : Zr Tryz.prog 41 [.nilFunc] := ⟨_, fun w => Tryz.zeroValue41 w, rfl⟩
instance : Ag Tryz.prog 42 1 := ⟨fun w => Tryz.isAgg42 w, fun w => Tryz.sizeOf42 w⟩
instance : Zr Tryz.prog 42 [(.slice none 0 0)] := ⟨_, fun w => Tryz.zeroValue42 w, rfl⟩
instance : Fo Tryz.prog 42 0 0 := ⟨fun w a => by simp [Instr.fieldAt, Instr.sureAddr, fieldPlace]⟩
instance : StT Tryz.prog 42 [(0, 1)] [(.slice none 0 0)] := ⟨_, Tryz.t42, _, Tryz.underlying42, by kernel_rfl, by kernel_rfl, rfl, rfl⟩
instance : Sc Tryz.prog 43 := ⟨fun w => Tryz.isAgg43 w, fun w => Tryz.sizeOf43 w⟩
instance : Zr Tryz.prog 43 [(.slice none 0 0)] := ⟨_, fun w => Tryz.zeroValue43 w, rfl⟩
instance : Sl Tryz.prog 43 2 48 := ⟨138, Tryz.t138, _, Tryz.underlying43, by kernel_rfl, rfl, rfl, rfl, rfl, by decide⟩
instance : SlZ Tryz.prog 43 [(.slice none 0 0), (.slice none 0 0)] := ⟨fun {e i z} h1 h2 h3 => by
  rw [Tryz.underlying43] at h1; cases h1
  rw [show Tryz.prog.info? 138 = some Tryz.t138 by kernel_rfl] at h2; cases h2; cases h3; rfl⟩
instance : Ag Tryz.prog 44 2 := ⟨fun w => Tryz.isAgg44 w, fun w => Tryz.sizeOf44 w⟩
instance : Zr Tryz.prog 44 [(.slice none 0 0), (.slice none 0 0)] := ⟨_, fun w => Tryz.zeroValue44 w, rfl⟩
instance : Fo Tryz.prog 44 0 0 := ⟨fun w a => by simp [Instr.fieldAt, Instr.sureAddr, fieldPlace]⟩
instance : Fo Tryz.prog 44 1 1 := ⟨fun w a => by simp [Instr.fieldAt, Instr.sureAddr, fieldPlace]⟩
instance : StT Tryz.prog 44 [(0, 1), (1, 1)] [(.slice none 0 0), (.slice none 0 0)] := ⟨_, Tryz.t44, _, Tryz.underlying44, by kernel_rfl, by kernel_rfl, rfl, rfl⟩
instance : Ag Tryz.prog 45 2 := ⟨fun w => Tryz.isAgg45 w, fun w => Tryz.sizeOf45 w⟩
instance : Zr Tryz.prog 45 [(.slice none 0 0), (.slice none 0 0)] := ⟨_, fun w => Tryz.zeroValue45 w, rfl⟩
instance : Fo Tryz.prog 45 0 0 := ⟨fun w a => by simp [Instr.fieldAt, Instr.sureAddr, fieldPlace]⟩
instance : Fo Tryz.prog 45 1 1 := ⟨fun w a => by simp [Instr.fieldAt, Instr.sureAddr, fieldPlace]⟩
instance : StT Tryz.prog 45 [(0, 1), (1, 1)] [(.slice none 0 0), (.slice none 0 0)] := ⟨_, Tryz.t45, _, Tryz.underlying45, by kernel_rfl, by kernel_rfl, rfl, rfl⟩
instance : Sc Tryz.prog 46 := ⟨fun w => Tryz.isAgg46 w, fun w => Tryz.sizeOf46 w⟩
instance : Zr Tryz.prog 46 [.nilFunc] := ⟨_, fun w => Tryz.zeroValue46 w, rfl⟩
instance : Sc Tryz.prog 47 := ⟨fun w => Tryz.isAgg47 w, fun w => Tryz.sizeOf47 w⟩
instance : Zr Tryz.prog 47 [.nilFunc] := ⟨_, fun w => Tryz.zeroValue47 w, rfl⟩
instance : Sc Tryz.prog 48 := ⟨fun w => Tryz.isAgg48 w, fun w => Tryz.sizeOf48 w⟩
instance : Zr Tryz.prog 48 [.nilFunc] := ⟨_, fun w => Tryz.zeroValue48 w, rfl⟩
instance : Sc Tryz.prog 49 := ⟨fun w => Tryz.isAgg49 w, fun w => Tryz.sizeOf49 w⟩
instance : Zr Tryz.prog 49 [.nilFunc] := ⟨_, fun w => Tryz.zeroValue49 w, rfl⟩
instance : Sc Tryz.prog 50 := ⟨fun w => Tryz.isAgg50 w, fun w => Tryz.sizeOf50 w⟩
instance : Zr Tryz.prog 50 [.nilFunc] := ⟨_, fun w => Tryz.zeroValue50 w, rfl⟩
instance : Sc Tryz.prog 51 := ⟨fun w => Tryz.isAgg51 w, fun w => Tryz.sizeOf51 w⟩
instance : Zr Tryz.prog 51 [.nilFunc] := ⟨_, fun w => Tryz.zeroValue51 w, rfl⟩
instance : Sc Tryz.prog 52 := ⟨fun w => Tryz.isAgg52 w, fun w => Tryz.sizeOf52 w⟩
instance : Zr Tryz.prog 52 [.nilFunc] := ⟨_, fun w => Tryz.zeroValue52 w, rfl⟩
instance : Sc Tryz.prog 53 := ⟨fun w => Tryz.isAgg53 w, fun w => Tryz.sizeOf53 w⟩
instance : Zr Tryz.prog 53 [.nilFunc] := ⟨_, fun w => Tryz.zeroValue53 w, rfl⟩
instance : Sc Tryz.prog 54 := ⟨fun w => Tryz.isAgg54 w, fun w => Tryz.sizeOf54 w⟩
instance : Zr Tryz.prog 54 [.nilFunc] := ⟨_, fun w => Tryz.zeroValue54 w, rfl⟩
instance : Sc Tryz.prog 55 := ⟨fun w => Tryz.isAgg55 w, fun w => Tryz.sizeOf55 w⟩
instance : Zr Tryz.prog 55 [.nilFunc] := ⟨_, fun w => Tryz.zeroValue55 w, rfl⟩
instance : Sc Tryz.prog 56 := ⟨fun w => Tryz.isAgg56 w, fun w => Tryz.sizeOf56 w⟩
instance : Zr Tryz.prog 56 [(.pointer none)] := ⟨_, fun w => Tryz.zeroValue56 w, rfl⟩
instance : Sc Tryz.prog 57 := ⟨fun w => Tryz.isAgg57 w, fun w => Tryz.sizeOf57 w⟩
instance : Zr Tryz.prog 57 [.nilFunc] := ⟨_, fun w => Tryz.zeroValue57 w, rfl⟩
instance : Sc Tryz.prog 58 := ⟨fun w => Tryz.isAgg58 w, fun w => Tryz.sizeOf58 w⟩
instance : Zr Tryz.prog 58 [.nilFunc] := ⟨_, fun w => Tryz.zeroValue58 w, rfl⟩
instance : Sc Tryz.prog 59 := ⟨fun w => Tryz.isAgg59 w, fun w => Tryz.sizeOf59 w⟩
instance : Zr Tryz.prog 59 [.nilFunc] := ⟨_, fun w => Tryz.zeroValue59 w, rfl⟩
instance : Sc Tryz.prog 60 := ⟨fun w => Tryz.isAgg60 w, fun w => Tryz.sizeOf60 w⟩
instance : Zr Tryz.prog 60 [.nilFunc] := ⟨_, fun w => Tryz.zeroValue60 w, rfl⟩
instance : Sc Tryz.prog 61 := ⟨fun w => Tryz.isAgg61 w, fun w => Tryz.sizeOf61 w⟩
instance : Zr Tryz.prog 61 [(.slice none 0 0)] := ⟨_, fun w => Tryz.zeroValue61 w, rfl⟩
instance : Sl Tryz.prog 61 1 24 := ⟨24, Tryz.t24, _, Tryz.underlying61, by kernel_rfl, rfl, rfl, rfl, rfl, by decide⟩
instance : SlZ Tryz.prog 61 [(.slice none 0 0)] := ⟨fun {e i z} h1 h2 h3 => by
  rw [Tryz.underlying61] at h1; cases h1
  rw [show Tryz.prog.info? 24 = some Tryz.t24 by kernel_rfl] at h2; cases h2; cases h3; rfl⟩
instance : Sc Tryz.prog 62 := ⟨fun w => Tryz.isAgg62 w, fun w => Tryz.sizeOf62 w⟩
instance : Zr Tryz.prog 62 [.nilFunc] := ⟨_, fun w => Tryz.zeroValue62 w, rfl⟩
instance : Sc Tryz.prog 63 := ⟨fun w => Tryz.isAgg63 w, fun w => Tryz.sizeOf63 w⟩
instance : Zr Tryz.prog 63 [.nilFunc] := ⟨_, fun w => Tryz.zeroValue63 w, rfl⟩
instance : Sc Tryz.prog 64 := ⟨fun w => Tryz.isAgg64 w, fun w => Tryz.sizeOf64 w⟩
instance : Zr Tryz.prog 64 [.nilFunc] := ⟨_, fun w => Tryz.zeroValue64 w, rfl⟩
instance : Sc Tryz.prog 65 := ⟨fun w => Tryz.isAgg65 w, fun w => Tryz.sizeOf65 w⟩
instance : Zr Tryz.prog 65 [.nilFunc] := ⟨_, fun w => Tryz.zeroValue65 w, rfl⟩
instance : Sc Tryz.prog 66 := ⟨fun w => Tryz.isAgg66 w, fun w => Tryz.sizeOf66 w⟩
instance : Zr Tryz.prog 66 [.nilFunc] := ⟨_, fun w => Tryz.zeroValue66 w, rfl⟩
instance : Sc Tryz.prog 67 := ⟨fun w => Tryz.isAgg67 w, fun w => Tryz.sizeOf67 w⟩
instance : Zr Tryz.prog 67 [(.int .u32 (0))] := ⟨_, fun w => Tryz.zeroValue67 w, rfl⟩
instance : Sc Tryz.prog 68 := ⟨fun w => Tryz.isAgg68 w, fun w => Tryz.sizeOf68 w⟩
instance : Zr Tryz.prog 68 [(.int .u32 (0))] := ⟨_, fun w => Tryz.zeroValue68 w, rfl⟩
instance : Sc Tryz.prog 69 := ⟨fun w => Tryz.isAgg69 w, fun w => Tryz.sizeOf69 w⟩
instance : Zr Tryz.prog 69 [.nilFunc] := ⟨_, fun w => Tryz.zeroValue69 w, rfl⟩
instance : Sc Tryz.prog 70 := ⟨fun w => Tryz.isAgg70 w, fun w => Tryz.sizeOf70 w⟩
instance : Zr Tryz.prog 70 [.nilFunc] := ⟨_, fun w => Tryz.zeroValue70 w, rfl⟩
instance : Sc Tryz.prog 71 := ⟨fun w => Tryz.isAgg71 w, fun w => Tryz.sizeOf71 w⟩
instance : Zr Tryz.prog 71 [.nilFunc] := ⟨_, fun w => Tryz.zeroValue71 w, rfl⟩
instance : Sc Tryz.prog 72 := ⟨fun w => Tryz.isAgg72 w, fun w => Tryz.sizeOf72 w⟩
instance : Zr Tryz.prog 72 [.nilFunc] := ⟨_, fun w => Tryz.zeroValue72 w, rfl⟩
instance : Sc Tryz.prog 73 := ⟨fun w => Tryz.isAgg73 w, fun w => Tryz.sizeOf73 w⟩
instance : Zr Tryz.prog 73 [.nilFunc] := ⟨_, fun w => Tryz.zeroValue73 w, rfl⟩
instance : Sc Tryz.prog 74 := ⟨fun w => Tryz.isAgg74 w, fun w => Tryz.sizeOf74 w⟩
instance : Zr Tryz.prog 74 [.nilFunc] := ⟨_, fun w => Tryz.zeroValue74 w, rfl⟩
instance : Sc Tryz.prog 75 := ⟨fun w => Tryz.isAgg75 w, fun w => Tryz.sizeOf75 w⟩
instance : Zr Tryz.prog 75 [.nilFunc] := ⟨_, fun w => Tryz.zeroValue75 w, rfl⟩
instance : Ag Tryz.prog 76 3 := ⟨fun w => Tryz.isAgg76 w, fun w => Tryz.sizeOf76 w⟩
instance : Zr Tryz.prog 76 [(.int .i64 (0)), (.slice none 0 0), (.int .i64 (0))] := ⟨_, fun w => Tryz.zeroValue76 w, rfl⟩
instance : Fo Tryz.prog 76 0 0 := ⟨fun w a => by simp [Instr.fieldAt, Instr.sureAddr, fieldPlace]⟩
instance : Fo Tryz.prog 76 1 1 := ⟨fun w a => by simp [Instr.fieldAt, Instr.sureAddr, fieldPlace]⟩
instance : Fo Tryz.prog 76 2 2 := ⟨fun w a => by simp [Instr.fieldAt, Instr.sureAddr, fieldPlace]⟩
instance : StT Tryz.prog 76 [(0, 1), (1, 1), (2, 1)] [(.int .i64 (0)), (.slice none 0 0), (.int .i64 (0))] := ⟨_, Tryz.t76, _, Tryz.underlying76, by kernel_rfl, by kernel_rfl, rfl, rfl⟩
instance : Ag Tryz.prog 77 3 := ⟨fun w => Tryz.isAgg77 w, fun w => Tryz.sizeOf77 w⟩
instance : Zr Tryz.prog 77 [(.int .i64 (0)), (.slice none 0 0), (.int .i64 (0))] := ⟨_, fun w => Tryz.zeroValue77 w, rfl⟩
instance : Fo Tryz.prog 77 0 0 := ⟨fun w a => by simp [Instr.fieldAt, Instr.sureAddr, fieldPlace]⟩
instance : Fo Tryz.prog 77 1 1 := ⟨fun w a => by simp [Instr.fieldAt, Instr.sureAddr, fieldPlace]⟩
instance : Fo Tryz.prog 77 2 2 := ⟨fun w a => by simp [Instr.fieldAt, Instr.sureAddr, fieldPlace]⟩
instance : StT Tryz.prog 77 [(0, 1), (1, 1), (2, 1)] [(.int .i64 (0)), (.slice none 0 0), (.int .i64 (0))] := ⟨_, Tryz.t77, _, Tryz.underlying77, by kernel_rfl, by kernel_rfl, rfl, rfl⟩
instance : Sc Tryz.prog 78 := ⟨fun w => Tryz.isAgg78 w, fun w => Tryz.sizeOf78 w⟩
instance : Zr Tryz.prog 78 [.nilFunc] := ⟨_, fun w => Tryz.zeroValue78 w, rfl⟩
instance : Sc Tryz.prog 79 := ⟨fun w => Tryz.isAgg79 w, fun w => Tryz.sizeOf79 w⟩
instance : Zr Tryz.prog 79 [.nilFunc] := ⟨_, fun w => Tryz.zeroValue79 w, rfl⟩
instance : Sc Tryz.prog 80 := ⟨fun w => Tryz.isAgg80 w, fun w => Tryz.sizeOf80 w⟩
instance : Zr Tryz.prog 80 [.nilFunc] := ⟨_, fun w => Tryz.zeroValue80 w, rfl⟩
instance : Sc Tryz.prog 81 := ⟨fun w => Tryz.isAgg81 w, fun w => Tryz.sizeOf81 w⟩
instance : Zr Tryz.prog 81 [.nilFunc] := ⟨_, fun w => Tryz.zeroValue81 w, rfl⟩
instance : Sc Tryz.prog 82 := ⟨fun w => Tryz.isAgg82 w, fun w => Tryz.sizeOf82 w⟩
instance : Zr Tryz.prog 82 [.nilFunc] := ⟨_, fun w => Tryz.zeroValue82 w, rfl⟩
instance : Sc Tryz.prog 83 := ⟨fun w => Tryz.isAgg83 w, fun w => Tryz.sizeOf83 w⟩
instance : Zr Tryz.prog 83 [.nilFunc] := ⟨_, fun w => Tryz.zeroValue83 w, rfl⟩
instance : Sc Tryz.prog 84 := ⟨fun w => Tryz.isAgg84 w, fun w => Tryz.sizeOf84 w⟩
instance : Zr Tryz.prog 84 [.nilFunc] := ⟨_, fun w => Tryz.zeroValue84 w, rfl⟩
instance : Sc Tryz.prog 85 := ⟨fun w => Tryz.isAgg85 w, fun w => Tryz.sizeOf85 w⟩
instance : Zr Tryz.prog 85 [.nilFunc] := ⟨_, fun w => Tryz.zeroValue85 w, rfl⟩
instance : Sc Tryz.prog 86 := ⟨fun w => Tryz.isAgg86 w, fun w => Tryz.sizeOf86 w⟩
instance : Zr Tryz.prog 86 [.nilFunc] := ⟨_, fun w => Tryz.zeroValue86 w, rfl⟩
instance : Sc Tryz.prog 87 := ⟨fun w => Tryz.isAgg87 w, fun w => Tryz.sizeOf87 w⟩
instance : Zr Tryz.prog 87 [.nilFunc] := ⟨_, fun w => Tryz.zeroValue87 w, rfl⟩
instance : Sc Tryz.prog 88 := ⟨fun w => Tryz.isAgg88 w, fun w => Tryz.sizeOf88 w⟩
instance : Zr Tryz.prog 88 [.nilFunc] := ⟨_, fun w => Tryz.zeroValue88 w, rfl⟩
instance : Sc Tryz.prog 89 := ⟨fun w => Tryz.isAgg89 w, fun w => Tryz.sizeOf89 w⟩
instance : Zr Tryz.prog 89 [.nilFunc] := ⟨_, fun w => Tryz.zeroValue89 w, rfl⟩
instance : Ag Tryz.prog 90 3 := ⟨fun w => Tryz.isAgg90 w, fun w => Tryz.sizeOf90 w⟩
instance : Zr Tryz.prog 90 [(.slice none 0 0), (.int .i64 (0)), (.int .i64 (0))] := ⟨_, fun w => Tryz.zeroValue90 w, rfl⟩
instance : Fo Tryz.prog 90 0 0 := ⟨fun w a => by simp [Instr.fieldAt, Instr.sureAddr, fieldPlace]⟩
instance : Fo Tryz.prog 90 1 1 := ⟨fun w a => by simp [Instr.fieldAt, Instr.sureAddr, fieldPlace]⟩
instance : Fo Tryz.prog 90 2 2 := ⟨fun w a => by simp [Instr.fieldAt, Instr.sureAddr, fieldPlace]⟩
instance : StT Tryz.prog 90 [(0, 1), (1, 1), (2, 1)] [(.slice none 0 0), (.int .i64 (0)), (.int .i64 (0))] := ⟨_, Tryz.t90, _, Tryz.underlying90, by kernel_rfl, by kernel_rfl, rfl, rfl⟩
instance : Ag Tryz.prog 91 3 := ⟨fun w => Tryz.isAgg91 w, fun w => Tryz.sizeOf91 w⟩
instance : Zr Tryz.prog 91 [(.slice none 0 0), (.int .i64 (0)), (.int .i64 (0))] := ⟨_, fun w => Tryz.zeroValue91 w, rfl⟩
instance : Fo Tryz.prog 91 0 0 := ⟨fun w a => by simp [Instr.fieldAt, Instr.sureAddr, fieldPlace]⟩
instance : Fo Tryz.prog 91 1 1 := ⟨fun w a => by simp [Instr.fieldAt, Instr.sureAddr, fieldPlace]⟩
instance : Fo Tryz.prog 91 2 2 := ⟨fun w a => by simp [Instr.fieldAt, Instr.sureAddr, fieldPlace]⟩
instance : StT Tryz.prog 91 [(0, 1), (1, 1), (2, 1)] [(.slice none 0 0), (.int .i64 (0)), (.int .i64 (0))] := ⟨_, Tryz.t91, _, Tryz.underlying91, by kernel_rfl, by kernel_rfl, rfl, rfl⟩
instance : Sc Tryz.prog 92 := ⟨fun w => Tryz.isAgg92 w, fun w => Tryz.sizeOf92 w⟩
instance : Zr Tryz.prog 92 [.nilFunc] := ⟨_, fun w => Tryz.zeroValue92 w, rfl⟩
instance : Sc Tryz.prog 93 := ⟨fun w => Tryz.isAgg93 w, fun w => Tryz.sizeOf93 w⟩
instance : Zr Tryz.prog 93 [.nilFunc] := ⟨_, fun w => Tryz.zeroValue93 w, rfl⟩
instance : Ag Tryz.prog 94 2 := ⟨fun w => Tryz.isAgg94 w, fun w => Tryz.sizeOf94 w⟩
instance : Zr Tryz.prog 94 [(.slice none 0 0), (.slice none 0 0)] := ⟨_, fun w => Tryz.zeroValue94 w, rfl⟩
instance : Fo Tryz.prog 94 0 0 := ⟨fun w a => by simp [Instr.fieldAt, Instr.sureAddr, fieldPlace]⟩
instance : Fo Tryz.prog 94 1 1 := ⟨fun w a => by simp [Instr.fieldAt, Instr.sureAddr, fieldPlace]⟩
instance : StT Tryz.prog 94 [(0, 1), (1, 1)] [(.slice none 0 0), (.slice none 0 0)] := ⟨_, Tryz.t94, _, Tryz.underlying94, by kernel_rfl, by kernel_rfl, rfl, rfl⟩
instance : Ag Tryz.prog 95 2 := ⟨fun w => Tryz.isAgg95 w, fun w => Tryz.sizeOf95 w⟩
instance : Zr Tryz.prog 95 [(.slice none 0 0), (.slice none 0 0)] := ⟨_, fun w => Tryz.zeroValue95 w, rfl⟩
instance : Fo Tryz.prog 95 0 0 := ⟨fun w a => by simp [Instr.fieldAt, Instr.sureAddr, fieldPlace]⟩
instance : Fo Tryz.prog 95 1 1 := ⟨fun w a => by simp [Instr.fieldAt, Instr.sureAddr, fieldPlace]⟩
instance : StT Tryz.prog 95 [(0, 1), (1, 1)] [(.slice none 0 0), (.slice none 0 0)] := ⟨_, Tryz.t95, _, Tryz.underlying95, by kernel_rfl, by kernel_rfl, rfl, rfl⟩
instance : Sc Tryz.prog 96 := ⟨fun w => Tryz.isAgg96 w, fun w => Tryz.sizeOf96 w⟩
instance : Zr Tryz.prog 96 [.nilFunc] := ⟨_, fun w => Tryz.zeroValue96 w, rfl⟩
instance : Ag Tryz.prog 97 1 := ⟨fun w => Tryz.isAgg97 w, fun w => Tryz.sizeOf97 w⟩
instance : Zr Tryz.prog 97 [(.slice none 0 0)] := ⟨_, fun w => Tryz.zeroValue97 w, rfl⟩
instance : Fo Tryz.prog 97 0 0 := ⟨fun w a => by simp [Instr.fieldAt, Instr.sureAddr, fieldPlace]⟩
instance : StT Tryz.prog 97 [(0, 1)] [(.slice none 0 0)] := ⟨_, Tryz.t97, _, Tryz.underlying97, by kernel_rfl, by kernel_rfl, rfl, rfl⟩
instance : Ag Tryz.prog 98 1 := ⟨fun w => Tryz.isAgg98 w, fun w => Tryz.sizeOf98 w⟩
instance : Zr Tryz.prog 98 [(.slice none 0 0)] := ⟨_, fun w => Tryz.zeroValue98 w, rfl⟩
instance : Fo Tryz.prog 98 0 0 := ⟨fun w a => by simp [Instr.fieldAt, Instr.sureAddr, fieldPlace]⟩
instance : StT Tryz.prog 98 [(0, 1)] [(.slice none 0 0)] := ⟨_, Tryz.t98, _, Tryz.underlying98, by kernel_rfl, by kernel_rfl, rfl, rfl⟩
instance : Sc Tryz.prog 99 := ⟨fun w => Tryz.isAgg99 w, fun w => Tryz.sizeOf99 w⟩
instance : Zr Tryz.prog 99 [.nilFunc] := ⟨_, fun w => Tryz.zeroValue99 w, rfl⟩
instance : Sc Tryz.prog 101 := ⟨fun w => Tryz.isAgg101 w, fun w => Tryz.sizeOf101 w⟩
instance : Zr Tryz.prog 101 [.nilFunc] := ⟨_, fun w => Tryz.zeroValue101 w, rfl⟩
instance : Sc Tryz.prog 102 := ⟨fun w => Tryz.isAgg102 w, fun w => Tryz.sizeOf102 w⟩
instance : Zr Tryz.prog 102 [.nilFunc] := ⟨_, fun w => Tryz.zeroValue102 w, rfl⟩
instance : Sc Tryz.prog 103 := ⟨fun w => Tryz.isAgg103 w, fun w => Tryz.sizeOf103 w⟩
instance : Zr Tryz.prog 103 [.nilFunc] := ⟨_, fun w => Tryz.zeroValue103 w, rfl⟩
instance : Sc Tryz.prog 104 := ⟨fun w => Tryz.isAgg104 w, fun w => Tryz.sizeOf104 w⟩
instance : Zr Tryz.prog 104 [(.pointer none)] := ⟨_, fun w => Tryz.zeroValue104 w, rfl⟩
instance : Sc Tryz.prog 105 := ⟨fun w => Tryz.isAgg105 w, fun w => Tryz.sizeOf105 w⟩
instance : Zr Tryz.prog 105 [(.slice none 0 0)] := ⟨_, fun w => Tryz.zeroValue105 w, rfl⟩
instance : Sl Tryz.prog 105 2 32 := ⟨155, Tryz.t155, _, Tryz.underlying105, by kernel_rfl, rfl, rfl, rfl, rfl, by decide⟩
instance : SlZ Tryz.prog 105 [(.int .i64 (0)), (.slice none 0 0)] := ⟨fun {e i z} h1 h2 h3 => by
  rw [Tryz.underlying105] at h1; cases h1
  rw [show Tryz.prog.info? 155 = some Tryz.t155 by kernel_rfl] at h2; cases h2; cases h3; rfl⟩
instance : Sc Tryz.prog 106 := ⟨fun w => Tryz.isAgg106 w, fun w => Tryz.sizeOf106 w⟩
instance : Zr Tryz.prog 106 [.nilFunc] := ⟨_, fun w => Tryz.zeroValue106 w, rfl⟩
instance : Sc Tryz.prog 107 := ⟨fun w => Tryz.isAgg107 w, fun w => Tryz.sizeOf107 w⟩
instance : Zr Tryz.prog 107 [(.map none)] := ⟨_, fun w => Tryz.zeroValue107 w, rfl⟩
instance : Ag Tryz.prog 108 6 := ⟨fun w => Tryz.isAgg108 w, fun w => Tryz.sizeOf108 w⟩
instance : Zr Tryz.prog 108 [(.slice none 0 0), (.slice none 0 0), (.slice none 0 0), (.slice none 0 0), (.slice none 0 0), (.map none)] := ⟨_, fun w => Tryz.zeroValue108 w, rfl⟩
instance : Fo Tryz.prog 108 0 0 := ⟨fun w a => by simp [Instr.fieldAt, Instr.sureAddr, fieldPlace]⟩
instance : Fo Tryz.prog 108 1 1 := ⟨fun w a => by simp [Instr.fieldAt, Instr.sureAddr, fieldPlace]⟩
instance : Fo Tryz.prog 108 2 2 := ⟨fun w a => by simp [Instr.fieldAt, Instr.sureAddr, fieldPlace]⟩
instance : Fo Tryz.prog 108 3 3 := ⟨fun w a => by simp [Instr.fieldAt, Instr.sureAddr, fieldPlace]⟩
instance : Fo Tryz.prog 108 4 4 := ⟨fun w a => by simp [Instr.fieldAt, Instr.sureAddr, fieldPlace]⟩
instance : Fo Tryz.prog 108 5 5 := ⟨fun w a => by simp [Instr.fieldAt, Instr.sureAddr, fieldPlace]⟩
instance : StT Tryz.prog 108 [(0, 1), (1, 1), (2, 1), (3, 1), (4, 1), (5, 1)] [(.slice none 0 0), (.slice none 0 0), (.slice none 0 0), (.slice none 0 0), (.slice none 0 0), (.map none)] := ⟨_, Tryz.t108, _, Tryz.underlying108, by kernel_rfl, by kernel_rfl, rfl, rfl⟩
instance : Ag Tryz.prog 109 6 := ⟨fun w => Tryz.isAgg109 w, fun w => Tryz.sizeOf109 w⟩
instance : Zr Tryz.prog 109 [(.slice none 0 0), (.slice none 0 0), (.slice none 0 0), (.slice none 0 0), (.slice none 0 0), (.map none)] := ⟨_, fun w => Tryz.zeroValue109 w, rfl⟩
instance : Fo Tryz.prog 109 0 0 := ⟨fun w a => by simp [Instr.fieldAt, Instr.sureAddr, fieldPlace]⟩
instance : Fo Tryz.prog 109 1 1 := ⟨fun w a => by simp [Instr.fieldAt, Instr.sureAddr, fieldPlace]⟩
instance : Fo Tryz.prog 109 2 2 := ⟨fun w a => by simp [Instr.fieldAt, Instr.sureAddr, fieldPlace]⟩
instance : Fo Tryz.prog 109 3 3 := ⟨fun w a => by simp [Instr.fieldAt, Instr.sureAddr, fieldPlace]⟩
instance : Fo Tryz.prog 109 4 4 := ⟨fun w a => by simp [Instr.fieldAt, Instr.sureAddr, fieldPlace]⟩
instance : Fo Tryz.prog 109 5 5 := ⟨fun w a => by simp [Instr.fieldAt, Instr.sureAddr, fieldPlace]⟩
instance : StT Tryz.prog 109 [(0, 1), (1, 1), (2, 1), (3, 1), (4, 1), (5, 1)] [(.slice none 0 0), (.slice none 0 0), (.slice none 0 0), (.slice none 0 0), (.slice none 0 0), (.map none)] := ⟨_, Tryz.t109, _, Tryz.underlying109, by kernel_rfl, by kernel_rfl, rfl, rfl⟩
instance : Sc Tryz.prog 111 := ⟨fun w => Tryz.isAgg111 w, fun w => Tryz.sizeOf111 w⟩
instance : Zr Tryz.prog 111 [.nilFunc] := ⟨_, fun w => Tryz.zeroValue111 w, rfl⟩
instance : Sc Tryz.prog 112 := ⟨fun w => Tryz.isAgg112 w, fun w => Tryz.sizeOf112 w⟩
instance : Zr Tryz.prog 112 [.nilFunc] := ⟨_, fun w => Tryz.zeroValue112 w, rfl⟩
instance : Sc Tryz.prog 114 := ⟨fun w => Tryz.isAgg114 w, fun w => Tryz.sizeOf114 w⟩
instance : Zr Tryz.prog 114 [.nilFunc] := ⟨_, fun w => Tryz.zeroValue114 w, rfl⟩
instance : Sc Tryz.prog 115 := ⟨fun w => Tryz.isAgg115 w, fun w => Tryz.sizeOf115 w⟩
instance : Zr Tryz.prog 115 [.nilFunc] := ⟨_, fun w => Tryz.zeroValue115 w, rfl⟩
instance : Sc Tryz.prog 116 := ⟨fun w => Tryz.isAgg116 w, fun w => Tryz.sizeOf116 w⟩
instance : Zr Tryz.prog 116 [.nilFunc] := ⟨_, fun w => Tryz.zeroValue116 w, rfl⟩
instance : Sc Tryz.prog 117 := ⟨fun w => Tryz.isAgg117 w, fun w => Tryz.sizeOf117 w⟩
instance : Zr Tryz.prog 117 [.nilFunc] := ⟨_, fun w => Tryz.zeroValue117 w, rfl⟩
instance : Sc Tryz.prog 118 := ⟨fun w => Tryz.isAgg118 w, fun w => Tryz.sizeOf118 w⟩
instance : Zr Tryz.prog 118 [.nilFunc] := ⟨_, fun w => Tryz.zeroValue118 w, rfl⟩
instance : Sc Tryz.prog 119 := ⟨fun w => Tryz.isAgg119 w, fun w => Tryz.sizeOf119 w⟩
instance : Zr Tryz.prog 119 [.nilFunc] := ⟨_, fun w => Tryz.zeroValue119 w, rfl⟩
instance : Sc Tryz.prog 120 := ⟨fun w => Tryz.isAgg120 w, fun w => Tryz.sizeOf120 w⟩
instance : Zr Tryz.prog 120 [.nilFunc] := ⟨_, fun w => Tryz.zeroValue120 w, rfl⟩
instance : Sc Tryz.prog 121 := ⟨fun w => Tryz.isAgg121 w, fun w => Tryz.sizeOf121 w⟩
instance : Zr Tryz.prog 121 [.nilFunc] := ⟨_, fun w => Tryz.zeroValue121 w, rfl⟩
instance : Sc Tryz.prog 122 := ⟨fun w => Tryz.isAgg122 w, fun w => Tryz.sizeOf122 w⟩
instance : Zr Tryz.prog 122 [(.int .u64 (0))] := ⟨_, fun w => Tryz.zeroValue122 w, rfl⟩
instance : Sc Tryz.prog 123 := ⟨fun w => Tryz.isAgg123 w, fun w => Tryz.sizeOf123 w⟩
instance : Zr Tryz.prog 123 [(.slice none 0 0)] := ⟨_, fun w => Tryz.zeroValue123 w, rfl⟩
instance : Sl Tryz.prog 123 1 4 := ⟨68, Tryz.t68, _, Tryz.underlying123, by kernel_rfl, rfl, rfl, rfl, rfl, by decide⟩
instance : SlZ Tryz.prog 123 [(.int .u32 (0))] := ⟨fun {e i z} h1 h2 h3 => by
  rw [Tryz.underlying123] at h1; cases h1
  rw [show Tryz.prog.info? 68 = some Tryz.t68 by kernel_rfl] at h2; cases h2; cases h3; rfl⟩
instance : Sc Tryz.prog 124 := ⟨fun w => Tryz.isAgg124 w, fun w => Tryz.sizeOf124 w⟩
instance : Zr Tryz.prog 124 [(.slice none 0 0)] := ⟨_, fun w => Tryz.zeroValue124 w, rfl⟩
instance : Sl Tryz.prog 124 1 8 := ⟨3, Tryz.t3, _, Tryz.underlying124, by kernel_rfl, rfl, rfl, rfl, rfl, by decide⟩
instance : SlZ Tryz.prog 124 [(.int .i64 (0))] := ⟨fun {e i z} h1 h2 h3 => by
  rw [Tryz.underlying124] at h1; cases h1
  rw [show Tryz.prog.info? 3 = some Tryz.t3 by kernel_rfl] at h2; cases h2; cases h3; rfl⟩
instance : Sc Tryz.prog 125 := ⟨fun w => Tryz.isAgg125 w, fun w => Tryz.sizeOf125 w⟩
instance : Zr Tryz.prog 125 [.nilFunc] := ⟨_, fun w => Tryz.zeroValue125 w, rfl⟩
instance : Sc Tryz.prog 126 := ⟨fun w => Tryz.isAgg126 w, fun w => Tryz.sizeOf126 w⟩
instance : Zr Tryz.prog 126 [.nilFunc] := ⟨_, fun w => Tryz.zeroValue126 w, rfl⟩
instance : Sc Tryz.prog 127 := ⟨fun w => Tryz.isAgg127 w, fun w => Tryz.sizeOf127 w⟩
instance : Zr Tryz.prog 127 [.nilFunc] := ⟨_, fun w => Tryz.zeroValue127 w, rfl⟩
instance : Sc Tryz.prog 128 := ⟨fun w => Tryz.isAgg128 w, fun w => Tryz.sizeOf128 w⟩
instance : Zr Tryz.prog 128 [.nilFunc] := ⟨_, fun w => Tryz.zeroValue128 w, rfl⟩
instance : Sc Tryz.prog 129 := ⟨fun w => Tryz.isAgg129 w, fun w => Tryz.sizeOf129 w⟩
instance : Zr Tryz.prog 129 [.nilFunc] := ⟨_, fun w => Tryz.zeroValue129 w, rfl⟩
instance : Sc Tryz.prog 130 := ⟨fun w => Tryz.isAgg130 w, fun w => Tryz.sizeOf130 w⟩
instance : Zr Tryz.prog 130 [.nilFunc] := ⟨_, fun w => Tryz.zeroValue130 w, rfl⟩
instance : Sc Tryz.prog 132 := ⟨fun w => Tryz.isAgg132 w, fun w => Tryz.sizeOf132 w⟩
instance : Zr Tryz.prog 132 [.nilFunc] := ⟨_, fun w => Tryz.zeroValue132 w, rfl⟩
instance : Sc Tryz.prog 133 := ⟨fun w => Tryz.isAgg133 w, fun w => Tryz.sizeOf133 w⟩
instance : Zr Tryz.prog 133 [.nilFunc] := ⟨_, fun w => Tryz.zeroValue133 w, rfl⟩
instance : Sc Tryz.prog 134 := ⟨fun w => Tryz.isAgg134 w, fun w => Tryz.sizeOf134 w⟩
instance : Zr Tryz.prog 134 [.nilFunc] := ⟨_, fun w => Tryz.zeroValue134 w, rfl⟩
instance : Sc Tryz.prog 135 := ⟨fun w => Tryz.isAgg135 w, fun w => Tryz.sizeOf135 w⟩
instance : Zr Tryz.prog 135 [.nilFunc] := ⟨_, fun w => Tryz.zeroValue135 w, rfl⟩
instance : Sc Tryz.prog 136 := ⟨fun w => Tryz.isAgg136 w, fun w => Tryz.sizeOf136 w⟩
instance : Zr Tryz.prog 136 [.nilFunc] := ⟨_, fun w => Tryz.zeroValue136 w, rfl⟩
instance : Sc Tryz.prog 137 := ⟨fun w => Tryz.isAgg137 w, fun w => Tryz.sizeOf137 w⟩
instance : Zr Tryz.prog 137 [.nilFunc] := ⟨_, fun w => Tryz.zeroValue137 w, rfl⟩
instance : Ag Tryz.prog 138 2 := ⟨fun w => Tryz.isAgg138 w, fun w => Tryz.sizeOf138 w⟩
instance : Zr Tryz.prog 138 [(.slice none 0 0), (.slice none 0 0)] := ⟨_, fun w => Tryz.zeroValue138 w, rfl⟩
instance : Fo Tryz.prog 138 0 0 := ⟨fun w a => by simp [Instr.fieldAt, Instr.sureAddr, fieldPlace]⟩
instance : Fo Tryz.prog 138 1 1 := ⟨fun w a => by simp [Instr.fieldAt, Instr.sureAddr, fieldPlace]⟩
instance : StT Tryz.prog 138 [(0, 1), (1, 1)] [(.slice none 0 0), (.slice none 0 0)] := ⟨_, Tryz.t138, _, Tryz.underlying138, by kernel_rfl, by kernel_rfl, rfl, rfl⟩
instance : Sc Tryz.prog 139 := ⟨fun w => Tryz.isAgg139 w, fun w => Tryz.sizeOf139 w⟩
instance : Zr Tryz.prog 139 [.nilFunc] := ⟨_, fun w => Tryz.zeroValue139 w, rfl⟩
instance : Sc Tryz.prog 140 := ⟨fun w => Tryz.isAgg140 w, fun w => Tryz.sizeOf140 w⟩
instance : Zr Tryz.prog 140 [.nilFunc] := ⟨_, fun w => Tryz.zeroValue140 w, rfl⟩
instance : Sc Tryz.prog 141 := ⟨fun w => Tryz.isAgg141 w, fun w => Tryz.sizeOf141 w⟩
instance : Zr Tryz.prog 141 [.nilFunc] := ⟨_, fun w => Tryz.zeroValue141 w, rfl⟩
instance : Sc Tryz.prog 142 := ⟨fun w => Tryz.isAgg142 w, fun w => Tryz.sizeOf142 w⟩
instance : Zr Tryz.prog 142 [.nilFunc] := ⟨_, fun w => Tryz.zeroValue142 w, rfl⟩
instance : Sc Tryz.prog 143 := ⟨fun w => Tryz.isAgg143 w, fun w => Tryz.sizeOf143 w⟩
instance : Zr Tryz.prog 143 [.nilFunc] := ⟨_, fun w => Tryz.zeroValue143 w, rfl⟩
instance : Sc Tryz.prog 144 := ⟨fun w => Tryz.isAgg144 w, fun w => Tryz.sizeOf144 w⟩
instance : Zr Tryz.prog 144 [.nilFunc] := ⟨_, fun w => Tryz.zeroValue144 w, rfl⟩
instance : Sc Tryz.prog 145 := ⟨fun w => Tryz.isAgg145 w, fun w => Tryz.sizeOf145 w⟩
instance : Zr Tryz.prog 145 [.nilFunc] := ⟨_, fun w => Tryz.zeroValue145 w, rfl⟩
instance : Sc Tryz.prog 146 := ⟨fun w => Tryz.isAgg146 w, fun w => Tryz.sizeOf146 w⟩
instance : Zr Tryz.prog 146 [.nilFunc] := ⟨_, fun w => Tryz.zeroValue146 w, rfl⟩
instance : Sc Tryz.prog 147 := ⟨fun w => Tryz.isAgg147 w, fun w => Tryz.sizeOf147 w⟩
instance : Zr Tryz.prog 147 [.nilFunc] := ⟨_, fun w => Tryz.zeroValue147 w, rfl⟩
instance : Sc Tryz.prog 148 := ⟨fun w => Tryz.isAgg148 w, fun w => Tryz.sizeOf148 w⟩
instance : Zr Tryz.prog 148 [.nilIface] := ⟨_, fun w => Tryz.zeroValue148 w, rfl⟩
instance : Sc Tryz.prog 149 := ⟨fun w => Tryz.isAgg149 w, fun w => Tryz.sizeOf149 w⟩
instance : Zr Tryz.prog 149 [.nilIface] := ⟨_, fun w => Tryz.zeroValue149 w, rfl⟩
instance : Sc Tryz.prog 150 := ⟨fun w => Tryz.isAgg150 w, fun w => Tryz.sizeOf150 w⟩
instance : Zr Tryz.prog 150 [.nilFunc] := ⟨_, fun w => Tryz.zeroValue150 w, rfl⟩
instance : Sc Tryz.prog 151 := ⟨fun w => Tryz.isAgg151 w, fun w => Tryz.sizeOf151 w⟩
instance : Zr Tryz.prog 151 [.nilFunc] := ⟨_, fun w => Tryz.zeroValue151 w, rfl⟩
instance : Sc Tryz.prog 152 := ⟨fun w => Tryz.isAgg152 w, fun w => Tryz.sizeOf152 w⟩
instance : Zr Tryz.prog 152 [.nilFunc] := ⟨_, fun w => Tryz.zeroValue152 w, rfl⟩
instance : Sc Tryz.prog 153 := ⟨fun w => Tryz.isAgg153 w, fun w => Tryz.sizeOf153 w⟩
instance : Zr Tryz.prog 153 [.nilFunc] := ⟨_, fun w => Tryz.zeroValue153 w, rfl⟩
instance : Ag Tryz.prog 154 2 := ⟨fun w => Tryz.isAgg154 w, fun w => Tryz.sizeOf154 w⟩
instance : Zr Tryz.prog 154 [(.int .i64 (0)), (.slice none 0 0)] := ⟨_, fun w => Tryz.zeroValue154 w, rfl⟩
instance : Fo Tryz.prog 154 0 0 := ⟨fun w a => by simp [Instr.fieldAt, Instr.sureAddr, fieldPlace]⟩
instance : Fo Tryz.prog 154 1 1 := ⟨fun w a => by simp [Instr.fieldAt, Instr.sureAddr, fieldPlace]⟩
instance : StT Tryz.prog 154 [(0, 1), (1, 1)] [(.int .i64 (0)), (.slice none 0 0)] := ⟨_, Tryz.t154, _, Tryz.underlying154, by kernel_rfl, by kernel_rfl, rfl, rfl⟩
instance : Ag Tryz.prog 155 2 := ⟨fun w => Tryz.isAgg155 w, fun w => Tryz.sizeOf155 w⟩
instance : Zr Tryz.prog 155 [(.int .i64 (0)), (.slice none 0 0)] := ⟨_, fun w => Tryz.zeroValue155 w, rfl⟩
instance : Fo Tryz.prog 155 0 0 := ⟨fun w a => by simp [Instr.fieldAt, Instr.sureAddr, fieldPlace]⟩
instance : Fo Tryz.prog 155 1 1 := ⟨fun w a => by simp [Instr.fieldAt, Instr.sureAddr, fieldPlace]⟩
instance : StT Tryz.prog 155 [(0, 1), (1, 1)] [(.int .i64 (0)), (.slice none 0 0)] := ⟨_, Tryz.t155, _, Tryz.underlying155, by kernel_rfl, by kernel_rfl, rfl, rfl⟩
instance : Sc Tryz.prog 156 := ⟨fun w => Tryz.isAgg156 w, fun w => Tryz.sizeOf156 w⟩
instance : Zr Tryz.prog 156 [.nilFunc] := ⟨_, fun w => Tryz.zeroValue156 w, rfl⟩
instance : Sc Tryz.prog 157 := ⟨fun w => Tryz.isAgg157 w, fun w => Tryz.sizeOf157 w⟩
instance : Zr Tryz.prog 157 [.nilFunc] := ⟨_, fun w => Tryz.zeroValue157 w, rfl⟩
instance : Sc Tryz.prog 158 := ⟨fun w => Tryz.isAgg158 w, fun w => Tryz.sizeOf158 w⟩
instance : Zr Tryz.prog 158 [.nilFunc] := ⟨_, fun w => Tryz.zeroValue158 w, rfl⟩
instance : Sc Tryz.prog 159 := ⟨fun w => Tryz.isAgg159 w, fun w => Tryz.sizeOf159 w⟩
instance : Zr Tryz.prog 159 [.nilFunc] := ⟨_, fun w => Tryz.zeroValue159 w, rfl⟩
instance : Sc Tryz.prog 160 := ⟨fun w => Tryz.isAgg160 w, fun w => Tryz.sizeOf160 w⟩
instance : Zr Tryz.prog 160 [.nilFunc] := ⟨_, fun w => Tryz.zeroValue160 w, rfl⟩
instance : Sc Tryz.prog 161 := ⟨fun w => Tryz.isAgg161 w, fun w => Tryz.sizeOf161 w⟩
instance : Zr Tryz.prog 161 [.nilFunc] := ⟨_, fun w => Tryz.zeroValue161 w, rfl⟩
instance : Sc Tryz.prog 162 := ⟨fun w => Tryz.isAgg162 w, fun w => Tryz.sizeOf162 w⟩
instance : Zr Tryz.prog 162 [.nilFunc] := ⟨_, fun w => Tryz.zeroValue162 w, rfl⟩
instance : Sc Tryz.prog 163 := ⟨fun w => Tryz.isAgg163 w, fun w => Tryz.sizeOf163 w⟩
instance : Zr Tryz.prog 163 [.nilFunc] := ⟨_, fun w => Tryz.zeroValue163 w, rfl⟩
instance : Sc Tryz.prog 164 := ⟨fun w => Tryz.isAgg164 w, fun w => Tryz.sizeOf164 w⟩
instance : Zr Tryz.prog 164 [.nilFunc] := ⟨_, fun w => Tryz.zeroValue164 w, rfl⟩
instance : Sc Tryz.prog 165 := ⟨fun w => Tryz.isAgg165 w, fun w => Tryz.sizeOf165 w⟩
instance : Zr Tryz.prog 165 [.nilFunc] := ⟨_, fun w => Tryz.zeroValue165 w, rfl⟩
instance : Sc Tryz.prog 166 := ⟨fun w => Tryz.isAgg166 w, fun w => Tryz.sizeOf166 w⟩
instance : Zr Tryz.prog 166 [.nilFunc] := ⟨_, fun w => Tryz.zeroValue166 w, rfl⟩
instance : Sc Tryz.prog 167 := ⟨fun w => Tryz.isAgg167 w, fun w => Tryz.sizeOf167 w⟩
instance : Zr Tryz.prog 167 [.nilFunc] := ⟨_, fun w => Tryz.zeroValue167 w, rfl⟩
instance : Sc Tryz.prog 168 := ⟨fun w => Tryz.isAgg168 w, fun w => Tryz.sizeOf168 w⟩
instance : Zr Tryz.prog 168 [.nilFunc] := ⟨_, fun w => Tryz.zeroValue168 w, rfl⟩
instance : Sc Tryz.prog 169 := ⟨fun w => Tryz.isAgg169 w, fun w => Tryz.sizeOf169 w⟩
instance : Zr Tryz.prog 169 [.nilFunc] := ⟨_, fun w => Tryz.zeroValue169 w, rfl⟩
instance : Sc Tryz.prog 170 := ⟨fun w => Tryz.isAgg170 w, fun w => Tryz.sizeOf170 w⟩
instance : Zr Tryz.prog 170 [.nilFunc] := ⟨_, fun w => Tryz.zeroValue170 w, rfl⟩
instance : Sc Tryz.prog 171 := ⟨fun w => Tryz.isAgg171 w, fun w => Tryz.sizeOf171 w⟩
instance : Zr Tryz.prog 171 [.nilFunc] := ⟨_, fun w => Tryz.zeroValue171 w, rfl⟩
instance : Sc Tryz.prog 172 := ⟨fun w => Tryz.isAgg172 w, fun w => Tryz.sizeOf172 w⟩
instance : Zr Tryz.prog 172 [.nilFunc] := ⟨_, fun w => Tryz.zeroValue172 w, rfl⟩
instance : Sc Tryz.prog 173 := ⟨fun w => Tryz.isAgg173 w, fun w => Tryz.sizeOf173 w⟩
instance : Zr Tryz.prog 173 [.nilFunc] := ⟨_, fun w => Tryz.zeroValue173 w, rfl⟩
instance : Sc Tryz.prog 174 := ⟨fun w => Tryz.isAgg174 w, fun w => Tryz.sizeOf174 w⟩
instance : Zr Tryz.prog 174 [.nilFunc] := ⟨_, fun w => Tryz.zeroValue174 w, rfl⟩
instance : Sc Tryz.prog 175 := ⟨fun w => Tryz.isAgg175 w, fun w => Tryz.sizeOf175 w⟩
instance : Zr Tryz.prog 175 [.nilFunc] := ⟨_, fun w => Tryz.zeroValue175 w, rfl⟩
instance : Sc Tryz.prog 176 := ⟨fun w => Tryz.isAgg176 w, fun w => Tryz.sizeOf176 w⟩
instance : Zr Tryz.prog 176 [.nilFunc] := ⟨_, fun w => Tryz.zeroValue176 w, rfl⟩
instance : Ag Tryz.prog 178 2 := ⟨fun w => Tryz.isAgg178 w, fun w => Tryz.sizeOf178 w⟩
instance : Zr Tryz.prog 178 [(.int .i64 (0)), (.string ByteArray.empty)] := ⟨_, fun w => Tryz.zeroValue178 w, rfl⟩
instance : Fo Tryz.prog 178 0 0 := ⟨fun w a => by simp [Instr.fieldAt, Instr.sureAddr, fieldPlace]⟩
instance : Fo Tryz.prog 178 1 1 := ⟨fun w a => by simp [Instr.fieldAt, Instr.sureAddr, fieldPlace]⟩
instance : StT Tryz.prog 178 [(0, 1), (1, 1)] [(.int .i64 (0)), (.string ByteArray.empty)] := ⟨_, Tryz.t178, _, Tryz.underlying178, by kernel_rfl, by kernel_rfl, rfl, rfl⟩
instance : Ag Tryz.prog 179 2 := ⟨fun w => Tryz.isAgg179 w, fun w => Tryz.sizeOf179 w⟩
instance : Zr Tryz.prog 179 [(.int .i64 (0)), (.string ByteArray.empty)] := ⟨_, fun w => Tryz.zeroValue179 w, rfl⟩
instance : Fo Tryz.prog 179 0 0 := ⟨fun w a => by simp [Instr.fieldAt, Instr.sureAddr, fieldPlace]⟩
instance : Fo Tryz.prog 179 1 1 := ⟨fun w a => by simp [Instr.fieldAt, Instr.sureAddr, fieldPlace]⟩
instance : StT Tryz.prog 179 [(0, 1), (1, 1)] [(.int .i64 (0)), (.string ByteArray.empty)] := ⟨_, Tryz.t179, _, Tryz.underlying179, by kernel_rfl, by kernel_rfl, rfl, rfl⟩
instance : Sc Tryz.prog 180 := ⟨fun w => Tryz.isAgg180 w, fun w => Tryz.sizeOf180 w⟩
instance : Zr Tryz.prog 180 [.nilFunc] := ⟨_, fun w => Tryz.zeroValue180 w, rfl⟩
instance : Sc Tryz.prog 182 := ⟨fun w => Tryz.isAgg182 w, fun w => Tryz.sizeOf182 w⟩
instance : Zr Tryz.prog 182 [.nilFunc] := ⟨_, fun w => Tryz.zeroValue182 w, rfl⟩
instance : Ag Tryz.prog 183 3 := ⟨fun w => Tryz.isAgg183 w, fun w => Tryz.sizeOf183 w⟩
instance : Zr Tryz.prog 183 [(.slice none 0 0), (.slice none 0 0), (.int .i64 (0))] := ⟨_, fun w => Tryz.zeroValue183 w, rfl⟩
instance : Fo Tryz.prog 183 0 0 := ⟨fun w a => by simp [Instr.fieldAt, Instr.sureAddr, fieldPlace]⟩
instance : Fo Tryz.prog 183 1 1 := ⟨fun w a => by simp [Instr.fieldAt, Instr.sureAddr, fieldPlace]⟩
instance : Fo Tryz.prog 183 2 2 := ⟨fun w a => by simp [Instr.fieldAt, Instr.sureAddr, fieldPlace]⟩
instance : StT Tryz.prog 183 [(0, 1), (1, 1), (2, 1)] [(.slice none 0 0), (.slice none 0 0), (.int .i64 (0))] := ⟨_, Tryz.t183, _, Tryz.underlying183, by kernel_rfl, by kernel_rfl, rfl, rfl⟩
instance : Ag Tryz.prog 184 3 := ⟨fun w => Tryz.isAgg184 w, fun w => Tryz.sizeOf184 w⟩
instance : Zr Tryz.prog 184 [(.slice none 0 0), (.slice none 0 0), (.int .i64 (0))] := ⟨_, fun w => Tryz.zeroValue184 w, rfl⟩
instance : Fo Tryz.prog 184 0 0 := ⟨fun w a => by simp [Instr.fieldAt, Instr.sureAddr, fieldPlace]⟩
instance : Fo Tryz.prog 184 1 1 := ⟨fun w a => by simp [Instr.fieldAt, Instr.sureAddr, fieldPlace]⟩
instance : Fo Tryz.prog 184 2 2 := ⟨fun w a => by simp [Instr.fieldAt, Instr.sureAddr, fieldPlace]⟩
instance : StT Tryz.prog 184 [(0, 1), (1, 1), (2, 1)] [(.slice none 0 0), (.slice none 0 0), (.int .i64 (0))] := ⟨_, Tryz.t184, _, Tryz.underlying184, by kernel_rfl, by kernel_rfl, rfl, rfl⟩
instance : Sc Tryz.prog 185 := ⟨fun w => Tryz.isAgg185 w, fun w => Tryz.sizeOf185 w⟩
instance : Zr Tryz.prog 185 [.nilFunc] := ⟨_, fun w => Tryz.zeroValue185 w, rfl⟩
instance : Sc Tryz.prog 186 := ⟨fun w => Tryz.isAgg186 w, fun w => Tryz.sizeOf186 w⟩
instance : Zr Tryz.prog 186 [.nilFunc] := ⟨_, fun w => Tryz.zeroValue186 w, rfl⟩
instance : Sc Tryz.prog 187 := ⟨fun w => Tryz.isAgg187 w, fun w => Tryz.sizeOf187 w⟩
instance : Zr Tryz.prog 187 [.nilFunc] := ⟨_, fun w => Tryz.zeroValue187 w, rfl⟩
instance : Sc Tryz.prog 188 := ⟨fun w => Tryz.isAgg188 w, fun w => Tryz.sizeOf188 w⟩
instance : Zr Tryz.prog 188 [.nilFunc] := ⟨_, fun w => Tryz.zeroValue188 w, rfl⟩
instance : Sc Tryz.prog 189 := ⟨fun w => Tryz.isAgg189 w, fun w => Tryz.sizeOf189 w⟩
instance : Zr Tryz.prog 189 [.nilFunc] := ⟨_, fun w => Tryz.zeroValue189 w, rfl⟩
instance : Sc Tryz.prog 190 := ⟨fun w => Tryz.isAgg190 w, fun w => Tryz.sizeOf190 w⟩
instance : Zr Tryz.prog 190 [(.int .i64 (0))] := ⟨_, fun w => Tryz.zeroValue190 w, rfl⟩
instance : I64T Tryz.prog 190 := ⟨Tryz.underlying190⟩
instance : Sc Tryz.prog 192 := ⟨fun w => Tryz.isAgg192 w, fun w => Tryz.sizeOf192 w⟩
instance : Zr Tryz.prog 192 [.nilFunc] := ⟨_, fun w => Tryz.zeroValue192 w, rfl⟩
instance : Sc Tryz.prog 193 := ⟨fun w => Tryz.isAgg193 w, fun w => Tryz.sizeOf193 w⟩
instance : Zr Tryz.prog 193 [.nilFunc] := ⟨_, fun w => Tryz.zeroValue193 w, rfl⟩
instance : Sc Tryz.prog 194 := ⟨fun w => Tryz.isAgg194 w, fun w => Tryz.sizeOf194 w⟩
instance : Zr Tryz.prog 194 [.nilFunc] := ⟨_, fun w => Tryz.zeroValue194 w, rfl⟩
instance : Sc Tryz.prog 195 := ⟨fun w => Tryz.isAgg195 w, fun w => Tryz.sizeOf195 w⟩
instance : Zr Tryz.prog 195 [.nilFunc] := ⟨_, fun w => Tryz.zeroValue195 w, rfl⟩
instance : Sc Tryz.prog 196 := ⟨fun w => Tryz.isAgg196 w, fun w => Tryz.sizeOf196 w⟩
instance : Zr Tryz.prog 196 [.nilFunc] := ⟨_, fun w => Tryz.zeroValue196 w, rfl⟩
instance : Sc Tryz.prog 197 := ⟨fun w => Tryz.isAgg197 w, fun w => Tryz.sizeOf197 w⟩
instance : Zr Tryz.prog 197 [.nilFunc] := ⟨_, fun w => Tryz.zeroValue197 w, rfl⟩
instance : Sc Tryz.prog 198 := ⟨fun w => Tryz.isAgg198 w, fun w => Tryz.sizeOf198 w⟩
instance : Zr Tryz.prog 198 [(.int .u64 (0))] := ⟨_, fun w => Tryz.zeroValue198 w, rfl⟩
instance : Sc Tryz.prog 199 := ⟨fun w => Tryz.isAgg199 w, fun w => Tryz.sizeOf199 w⟩
instance : Zr Tryz.prog 199 [.nilFunc] := ⟨_, fun w => Tryz.zeroValue199 w, rfl⟩
instance : Sc Tryz.prog 200 := ⟨fun w => Tryz.isAgg200 w, fun w => Tryz.sizeOf200 w⟩
instance : Zr Tryz.prog 200 [.nilFunc] := ⟨_, fun w => Tryz.zeroValue200 w, rfl⟩
instance : Sc Tryz.prog 201 := ⟨fun w => Tryz.isAgg201 w, fun w => Tryz.sizeOf201 w⟩
instance : Zr Tryz.prog 201 [.nilFunc] := ⟨_, fun w => Tryz.zeroValue201 w, rfl⟩
instance : Sc Tryz.prog 202 := ⟨fun w => Tryz.isAgg202 w, fun w => Tryz.sizeOf202 w⟩
instance : Zr Tryz.prog 202 [(.map none)] := ⟨_, fun w => Tryz.zeroValue202 w, rfl⟩
instance : Sc Tryz.prog 203 := ⟨fun w => Tryz.isAgg203 w, fun w => Tryz.sizeOf203 w⟩
instance : Zr Tryz.prog 203 [(.pointer none)] := ⟨_, fun w => Tryz.zeroValue203 w, rfl⟩
instance : Sc Tryz.prog 204 := ⟨fun w => Tryz.isAgg204 w, fun w => Tryz.sizeOf204 w⟩
instance : Zr Tryz.prog 204 [.nilFunc] := ⟨_, fun w => Tryz.zeroValue204 w, rfl⟩
instance : Sc Tryz.prog 205 := ⟨fun w => Tryz.isAgg205 w, fun w => Tryz.sizeOf205 w⟩
instance : Zr Tryz.prog 205 [(.int .u64 (0))] := ⟨_, fun w => Tryz.zeroValue205 w, rfl⟩
instance : Sc Tryz.prog 206 := ⟨fun w => Tryz.isAgg206 w, fun w => Tryz.sizeOf206 w⟩
instance : Zr Tryz.prog 206 [.nilFunc] := ⟨_, fun w => Tryz.zeroValue206 w, rfl⟩
instance : Sc Tryz.prog 207 := ⟨fun w => Tryz.isAgg207 w, fun w => Tryz.sizeOf207 w⟩
instance : Zr Tryz.prog 207 [.nilFunc] := ⟨_, fun w => Tryz.zeroValue207 w, rfl⟩
instance : Sc Tryz.prog 208 := ⟨fun w => Tryz.isAgg208 w, fun w => Tryz.sizeOf208 w⟩
instance : Zr Tryz.prog 208 [.nilFunc] := ⟨_, fun w => Tryz.zeroValue208 w, rfl⟩
instance : Sc Tryz.prog 209 := ⟨fun w => Tryz.isAgg209 w, fun w => Tryz.sizeOf209 w⟩
instance : Zr Tryz.prog 209 [(.pointer none)] := ⟨_, fun w => Tryz.zeroValue209 w, rfl⟩
instance : Sc Tryz.prog 210 := ⟨fun w => Tryz.isAgg210 w, fun w => Tryz.sizeOf210 w⟩
instance : Zr Tryz.prog 210 [.nilFunc] := ⟨_, fun w => Tryz.zeroValue210 w, rfl⟩
instance : Sc Tryz.prog 212 := ⟨fun w => Tryz.isAgg212 w, fun w => Tryz.sizeOf212 w⟩
instance : Zr Tryz.prog 212 [.nilFunc] := ⟨_, fun w => Tryz.zeroValue212 w, rfl⟩
instance : Sc Tryz.prog 213 := ⟨fun w => Tryz.isAgg213 w, fun w => Tryz.sizeOf213 w⟩
instance : Zr Tryz.prog 213 [(.slice none 0 0)] := ⟨_, fun w => Tryz.zeroValue213 w, rfl⟩
instance : Sl Tryz.prog 213 1 16 := ⟨9, Tryz.t9, _, Tryz.underlying213, by kernel_rfl, rfl, rfl, rfl, rfl, by decide⟩
instance : SlZ Tryz.prog 213 [(.string ByteArray.empty)] := ⟨fun {e i z} h1 h2 h3 => by
  rw [Tryz.underlying213] at h1; cases h1
  rw [show Tryz.prog.info? 9 = some Tryz.t9 by kernel_rfl] at h2; cases h2; cases h3; rfl⟩
instance : Sc Tryz.prog 214 := ⟨fun w => Tryz.isAgg214 w, fun w => Tryz.sizeOf214 w⟩
instance : Zr Tryz.prog 214 [.nilFunc] := ⟨_, fun w => Tryz.zeroValue214 w, rfl⟩
instance : Sc Tryz.prog 215 := ⟨fun w => Tryz.isAgg215 w, fun w => Tryz.sizeOf215 w⟩
instance : Zr Tryz.prog 215 [.nilFunc] := ⟨_, fun w => Tryz.zeroValue215 w, rfl⟩
instance : Sc Tryz.prog 216 := ⟨fun w => Tryz.isAgg216 w, fun w => Tryz.sizeOf216 w⟩
instance : Zr Tryz.prog 216 [(.pointer none)] := ⟨_, fun w => Tryz.zeroValue216 w, rfl⟩
instance : Sc Tryz.prog 218 := ⟨fun w => Tryz.isAgg218 w, fun w => Tryz.sizeOf218 w⟩
instance : Zr Tryz.prog 218 [.nilFunc] := ⟨_, fun w => Tryz.zeroValue218 w, rfl⟩
instance : Sc Tryz.prog 220 := ⟨fun w => Tryz.isAgg220 w, fun w => Tryz.sizeOf220 w⟩
instance : Zr Tryz.prog 220 [.nilFunc] := ⟨_, fun w => Tryz.zeroValue220 w, rfl⟩
instance : Sc Tryz.prog 222 := ⟨fun w => Tryz.isAgg222 w, fun w => Tryz.sizeOf222 w⟩
instance : Zr Tryz.prog 222 [.nilFunc] := ⟨_, fun w => Tryz.zeroValue222 w, rfl⟩
instance : Sc Tryz.prog 223 := ⟨fun w => Tryz.isAgg223 w, fun w => Tryz.sizeOf223 w⟩
instance : Zr Tryz.prog 223 [.nilFunc] := ⟨_, fun w => Tryz.zeroValue223 w, rfl⟩
instance : Sc Tryz.prog 224 := ⟨fun w => Tryz.isAgg224 w, fun w => Tryz.sizeOf224 w⟩
instance : Zr Tryz.prog 224 [(.pointer none)] := ⟨_, fun w => Tryz.zeroValue224 w, rfl⟩
instance : Ag Tryz.prog 225 2 := ⟨fun w => Tryz.isAgg225 w, fun w => Tryz.sizeOf225 w⟩
instance : Zr Tryz.prog 225 [(.pointer none), (.slice none 0 0)] := ⟨_, fun w => Tryz.zeroValue225 w, rfl⟩
instance : Fo Tryz.prog 225 0 0 := ⟨fun w a => by simp [Instr.fieldAt, Instr.sureAddr, fieldPlace]⟩
instance : Fo Tryz.prog 225 1 1 := ⟨fun w a => by simp [Instr.fieldAt, Instr.sureAddr, fieldPlace]⟩
instance : StT Tryz.prog 225 [(0, 1), (1, 1)] [(.pointer none), (.slice none 0 0)] := ⟨_, Tryz.t225, _, Tryz.underlying225, by kernel_rfl, by kernel_rfl, rfl, rfl⟩
instance : Ag Tryz.prog 226 2 := ⟨fun w => Tryz.isAgg226 w, fun w => Tryz.sizeOf226 w⟩
instance : Zr Tryz.prog 226 [(.pointer none), (.slice none 0 0)] := ⟨_, fun w => Tryz.zeroValue226 w, rfl⟩
instance : Fo Tryz.prog 226 0 0 := ⟨fun w a => by simp [Instr.fieldAt, Instr.sureAddr, fieldPlace]⟩
instance : Fo Tryz.prog 226 1 1 := ⟨fun w a => by simp [Instr.fieldAt, Instr.sureAddr, fieldPlace]⟩
instance : StT Tryz.prog 226 [(0, 1), (1, 1)] [(.pointer none), (.slice none 0 0)] := ⟨_, Tryz.t226, _, Tryz.underlying226, by kernel_rfl, by kernel_rfl, rfl, rfl⟩
instance : Sc Tryz.prog 227 := ⟨fun w => Tryz.isAgg227 w, fun w => Tryz.sizeOf227 w⟩
instance : Zr Tryz.prog 227 [.nilFunc] := ⟨_, fun w => Tryz.zeroValue227 w, rfl⟩
instance : Sc Tryz.prog 228 := ⟨fun w => Tryz.isAgg228 w, fun w => Tryz.sizeOf228 w⟩
instance : Zr Tryz.prog 228 [.nilIface] := ⟨_, fun w => Tryz.zeroValue228 w, rfl⟩
instance : Sc Tryz.prog 229 := ⟨fun w => Tryz.isAgg229 w, fun w => Tryz.sizeOf229 w⟩
instance : Zr Tryz.prog 229 [.nilIface] := ⟨_, fun w => Tryz.zeroValue229 w, rfl⟩
instance : Sc Tryz.prog 231 := ⟨fun w => Tryz.isAgg231 w, fun w => Tryz.sizeOf231 w⟩
instance : Zr Tryz.prog 231 [.nilFunc] := ⟨_, fun w => Tryz.zeroValue231 w, rfl⟩
instance : Sc Tryz.prog 232 := ⟨fun w => Tryz.isAgg232 w, fun w => Tryz.sizeOf232 w⟩
instance : Zr Tryz.prog 232 [.nilFunc] := ⟨_, fun w => Tryz.zeroValue232 w, rfl⟩
instance : Sc Tryz.prog 233 := ⟨fun w => Tryz.isAgg233 w, fun w => Tryz.sizeOf233 w⟩
instance : Zr Tryz.prog 233 [(.pointer none)] := ⟨_, fun w => Tryz.zeroValue233 w, rfl⟩
instance : Sc Tryz.prog 234 := ⟨fun w => Tryz.isAgg234 w, fun w => Tryz.sizeOf234 w⟩
instance : Zr Tryz.prog 234 [.nilFunc] := ⟨_, fun w => Tryz.zeroValue234 w, rfl⟩
instance : Ag Tryz.prog 235 24 := ⟨fun w => Tryz.isAgg235 w, fun w => Tryz.sizeOf235 w⟩
instance : Zr Tryz.prog 235 [(.int .u8 (0)), (.int .u8 (0)), (.int .u8 (0)), (.int .u8 (0)), (.int .u8 (0)), (.int .u8 (0)), (.int .u8 (0)), (.int .u8 (0)), (.int .u8 (0)), (.int .u8 (0)), (.int .u8 (0)), (.int .u8 (0)), (.int .u8 (0)), (.int .u8 (0)), (.int .u8 (0)), (.int .u8 (0)), (.int .u8 (0)), (.int .u8 (0)), (.int .u8 (0)), (.int .u8 (0)), (.int .u8 (0)), (.int .u8 (0)), (.int .u8 (0)), (.int .u8 (0))] := ⟨_, fun w => Tryz.zeroValue235 w, rfl⟩
instance : ArT Tryz.prog 235 24 := ⟨_, Tryz.t5, Tryz.underlying235, by kernel_rfl, rfl, by decide⟩
instance : Sc Tryz.prog 236 := ⟨fun w => Tryz.isAgg236 w, fun w => Tryz.sizeOf236 w⟩
instance : Zr Tryz.prog 236 [.nilFunc] := ⟨_, fun w => Tryz.zeroValue236 w, rfl⟩
instance : Sc Tryz.prog 238 := ⟨fun w => Tryz.isAgg238 w, fun w => Tryz.sizeOf238 w⟩
instance : Zr Tryz.prog 238 [.nilFunc] := ⟨_, fun w => Tryz.zeroValue238 w, rfl⟩
instance : Sc Tryz.prog 240 := ⟨fun w => Tryz.isAgg240 w, fun w => Tryz.sizeOf240 w⟩
instance : Zr Tryz.prog 240 [.nilFunc] := ⟨_, fun w => Tryz.zeroValue240 w, rfl⟩
instance : Sc Tryz.prog 241 := ⟨fun w => Tryz.isAgg241 w, fun w => Tryz.sizeOf241 w⟩
instance : Zr Tryz.prog 241 [.nilFunc] := ⟨_, fun w => Tryz.zeroValue241 w, rfl⟩
instance : Sc Tryz.prog 242 := ⟨fun w => Tryz.isAgg242 w, fun w => Tryz.sizeOf242 w⟩
instance : Zr Tryz.prog 242 [.nilFunc] := ⟨_, fun w => Tryz.zeroValue242 w, rfl⟩
instance : Sc Tryz.prog 243 := ⟨fun w => Tryz.isAgg243 w, fun w => Tryz.sizeOf243 w⟩
instance : Zr Tryz.prog 243 [.nilFunc] := ⟨_, fun w => Tryz.zeroValue243 w, rfl⟩
instance : Ag Tryz.prog 244 20 := ⟨fun w => Tryz.isAgg244 w, fun w => Tryz.sizeOf244 w⟩
instance : Zr Tryz.prog 244 [(.int .u64 (0)), (.int .u64 (0)), (.int .u64 (0)), (.int .u64 (0)), (.int .u64 (0)), (.int .u64 (0)), (.int .u64 (0)), (.int .u64 (0)), (.int .u64 (0)), (.int .u64 (0)), (.int .u64 (0)), (.int .u64 (0)), (.int .u64 (0)), (.int .u64 (0)), (.int .u64 (0)), (.int .u64 (0)), (.int .u64 (0)), (.int .u64 (0)), (.int .u64 (0)), (.int .u64 (0))] := ⟨_, fun w => Tryz.zeroValue244 w, rfl⟩
instance : ArT Tryz.prog 244 20 := ⟨_, Tryz.t198, Tryz.underlying244, by kernel_rfl, rfl, by decide⟩
instance : Sc Tryz.prog 246 := ⟨fun w => Tryz.isAgg246 w, fun w => Tryz.sizeOf246 w⟩
instance : Zr Tryz.prog 246 [.nilFunc] := ⟨_, fun w => Tryz.zeroValue246 w, rfl⟩
instance : Ag Tryz.prog 247 32 := ⟨fun w => Tryz.isAgg247 w, fun w => Tryz.sizeOf247 w⟩
instance : Zr Tryz.prog 247 [(.int .u8 (0)), (.int .u8 (0)), (.int .u8 (0)), (.int .u8 (0)), (.int .u8 (0)), (.int .u8 (0)), (.int .u8 (0)), (.int .u8 (0)), (.int .u8 (0)), (.int .u8 (0)), (.int .u8 (0)), (.int .u8 (0)), (.int .u8 (0)), (.int .u8 (0)), (.int .u8 (0)), (.int .u8 (0)), (.int .u8 (0)), (.int .u8 (0)), (.int .u8 (0)), (.int .u8 (0)), (.int .u8 (0)), (.int .u8 (0)), (.int .u8 (0)), (.int .u8 (0)), (.int .u8 (0)), (.int .u8 (0)), (.int .u8 (0)), (.int .u8 (0)), (.int .u8 (0)), (.int .u8 (0)), (.int .u8 (0)), (.int .u8 (0))] := ⟨_, fun w => Tryz.zeroValue247 w, rfl⟩
instance : ArT Tryz.prog 247 32 := ⟨_, Tryz.t5, Tryz.underlying247, by kernel_rfl, rfl, by decide⟩
instance : Ag Tryz.prog 248 64 := ⟨fun w => Tryz.isAgg248 w, fun w => Tryz.sizeOf248 w⟩
instance : Zr Tryz.prog 248 [(.int .u8 (0)), (.int .u8 (0)), (.int .u8 (0)), (.int .u8 (0)), (.int .u8 (0)), (.int .u8 (0)), (.int .u8 (0)), (.int .u8 (0)), (.int .u8 (0)), (.int .u8 (0)), (.int .u8 (0)), (.int .u8 (0)), (.int .u8 (0)), (.int .u8 (0)), (.int .u8 (0)), (.int .u8 (0)), (.int .u8 (0)), (.int .u8 (0)), (.int .u8 (0)), (.int .u8 (0)), (.int .u8 (0)), (.int .u8 (0)), (.int .u8 (0)), (.int .u8 (0)), (.int .u8 (0)), (.int .u8 (0)), (.int .u8 (0)), (.int .u8 (0)), (.int .u8 (0)), (.int .u8 (0)), (.int .u8 (0)), (.int .u8 (0)), (.int .u8 (0)), (.int .u8 (0)), (.int .u8 (0)), (.int .u8 (0)), (.int .u8 (0)), (.int .u8 (0)), (.int .u8 (0)), (.int .u8 (0)), (.int .u8 (0)), (.int .u8 (0)), (.int .u8 (0)), (.int .u8 (0)), (.int .u8 (0)), (.int .u8 (0)), (.int .u8 (0)), (.int .u8 (0)), (.int .u8 (0)), (.int .u8 (0)), (.int .u8 (0)), (.int .u8 (0)), (.int .u8 (0)), (.int .u8 (0)), (.int .u8 (0)), (.int .u8 (0)), (.int .u8 (0)), (.int .u8 (0)), (.int .u8 (0)), (.int .u8 (0)), (.int .u8 (0)), (.int .u8 (0)), (.int .u8 (0)), (.int .u8 (0))] := ⟨_, fun w => Tryz.zeroValue248 w, rfl⟩
instance : ArT Tryz.prog 248 64 := ⟨_, Tryz.t5, Tryz.underlying248, by kernel_rfl, rfl, by decide⟩
instance : Sc Tryz.prog 256 := ⟨fun w => Tryz.isAgg256 w, fun w => Tryz.sizeOf256 w⟩
instance : Zr Tryz.prog 256 [.nilFunc] := ⟨_, fun w => Tryz.zeroValue256 w, rfl⟩
instance : Sc Tryz.prog 261 := ⟨fun w => Tryz.isAgg261 w, fun w => Tryz.sizeOf261 w⟩
instance : Zr Tryz.prog 261 [.nilFunc] := ⟨_, fun w => Tryz.zeroValue261 w, rfl⟩
instance : Sc Tryz.prog 262 := ⟨fun w => Tryz.isAgg262 w, fun w => Tryz.sizeOf262 w⟩
instance : Zr Tryz.prog 262 [.nilFunc] := ⟨_, fun w => Tryz.zeroValue262 w, rfl⟩
instance : Op_ Tryz.prog 2 (Int) repInt := op_int Tryz.underlying2 (by kernel_rfl)
instance : Op_ Tryz.prog 3 (Int) repInt := op_int Tryz.underlying3 (by kernel_rfl)
instance : Op_ Tryz.prog 4 (Bool) repBool := op_bool Tryz.underlying4 (by kernel_rfl)
instance : Op_ Tryz.prog 9 (ByteArray) repStr := op_str Tryz.underlying9 (by kernel_rfl)
instance : Op_ Tryz.prog 24 (List Int) repList := op_slice Tryz.underlying24 (by kernel_rfl) inferInstance
instance : Op_ Tryz.prog 25 (List Int) repList := op_struct Tryz.underlying25 (by kernel_rfl) (opF_one rfl inferInstance)
instance : Op_ Tryz.prog 26 (List Int) repList := op_struct Tryz.underlying26 (by kernel_rfl) (opF_one rfl inferInstance)
instance : Op_ Tryz.prog 95 (List Int × List Int) repProd := op_struct Tryz.underlying95 (by kernel_rfl) (opF_cons rfl inferInstance rfl (opF_one rfl inferInstance))
instance : Op_ Tryz.prog 27 (List (List Int × List Int)) repList := op_slice Tryz.underlying27 (by kernel_rfl) inferInstance
instance : Op_ Tryz.prog 28 (List Int × List (List Int × List Int)) repProd := op_struct Tryz.underlying28 (by kernel_rfl) (opF_cons rfl inferInstance rfl (opF_one rfl inferInstance))
instance : Op_ Tryz.prog 29 (List Int × List (List Int × List Int)) repProd := op_struct Tryz.underlying29 (by kernel_rfl) (opF_cons rfl inferInstance rfl (opF_one rfl inferInstance))
instance : Op_ Tryz.prog 77 (Int × List Int × Int) repProd := op_struct Tryz.underlying77 (by kernel_rfl) (opF_cons rfl inferInstance rfl (opF_cons rfl inferInstance rfl (opF_one rfl inferInstance)))
instance : Op_ Tryz.prog 32 (List (Int × List Int × Int)) repList := op_slice Tryz.underlying32 (by kernel_rfl) inferInstance
instance : Op_ Tryz.prog 33 (Int × List (Int × List Int × Int) × List Int) repProd := op_struct Tryz.underlying33 (by kernel_rfl) (opF_cons rfl inferInstance rfl (opF_cons rfl inferInstance rfl (opF_one rfl inferInstance)))
instance : Op_ Tryz.prog 34 (Int × List (Int × List Int × Int) × List Int) repProd := op_struct Tryz.underlying34 (by kernel_rfl) (opF_cons rfl inferInstance rfl (opF_cons rfl inferInstance rfl (opF_one rfl inferInstance)))
instance : Op_ Tryz.prog 42 (List Int) repList := op_struct Tryz.underlying42 (by kernel_rfl) (opF_one rfl inferInstance)
instance : Op_ Tryz.prog 138 (List Int × List Int) repProd := op_struct Tryz.underlying138 (by kernel_rfl) (opF_cons rfl inferInstance rfl (opF_one rfl inferInstance))
instance : Op_ Tryz.prog 43 (List (List Int × List Int)) repList := op_slice Tryz.underlying43 (by kernel_rfl) inferInstance
instance : Op_ Tryz.prog 44 (List Int × List (List Int × List Int)) repProd := op_struct Tryz.underlying44 (by kernel_rfl) (opF_cons rfl inferInstance rfl (opF_one rfl inferInstance))
instance : Op_ Tryz.prog 45 (List Int × List (List Int × List Int)) repProd := op_struct Tryz.underlying45 (by kernel_rfl) (opF_cons rfl inferInstance rfl (opF_one rfl inferInstance))
instance : Op_ Tryz.prog 61 (List (List Int)) repList := op_slice Tryz.underlying61 (by kernel_rfl) inferInstance
instance : Op_ Tryz.prog 76 (Int × List Int × Int) repProd := op_struct Tryz.underlying76 (by kernel_rfl) (opF_cons rfl inferInstance rfl (opF_cons rfl inferInstance rfl (opF_one rfl inferInstance)))
instance : Op_ Tryz.prog 94 (List Int × List Int) repProd := op_struct Tryz.underlying94 (by kernel_rfl) (opF_cons rfl inferInstance rfl (opF_one rfl inferInstance))
instance : Op_ Tryz.prog 97 (List (List Int)) repList := op_struct Tryz.underlying97 (by kernel_rfl) (opF_one rfl inferInstance)
instance : Op_ Tryz.prog 98 (List (List Int)) repList := op_struct Tryz.underlying98 (by kernel_rfl) (opF_one rfl inferInstance)
instance : Op_ Tryz.prog 155 (Int × List Int) repProd := op_struct Tryz.underlying155 (by kernel_rfl) (opF_cons rfl inferInstance rfl (opF_one rfl inferInstance))
instance : Op_ Tryz.prog 105 (List (Int × List Int)) repList := op_slice Tryz.underlying105 (by kernel_rfl) inferInstance
instance : Op_ Tryz.prog 124 (List Int) repList := op_slice Tryz.underlying124 (by kernel_rfl) inferInstance
instance : Op_ Tryz.prog 154 (Int × List Int) repProd := op_struct Tryz.underlying154 (by kernel_rfl) (opF_cons rfl inferInstance rfl (opF_one rfl inferInstance))
instance : Op_ Tryz.prog 178 (Int × ByteArray) repProd := op_struct Tryz.underlying178 (by kernel_rfl) (opF_cons rfl inferInstance rfl (opF_one rfl inferInstance))
instance : Op_ Tryz.prog 179 (Int × ByteArray) repProd := op_struct Tryz.underlying179 (by kernel_rfl) (opF_cons rfl inferInstance rfl (opF_one rfl inferInstance))
instance : Op_ Tryz.prog 183 (List Int × List Int × Int) repProd := op_struct Tryz.underlying183 (by kernel_rfl) (opF_cons rfl inferInstance rfl (opF_cons rfl inferInstance rfl (opF_one rfl inferInstance)))
instance : Op_ Tryz.prog 184 (List Int × List Int × Int) repProd := op_struct Tryz.underlying184 (by kernel_rfl) (opF_cons rfl inferInstance rfl (opF_cons rfl inferInstance rfl (opF_one rfl inferInstance)))
instance : Op_ Tryz.prog 190 (Int) repInt := op_int Tryz.underlying190 (by kernel_rfl)
instance : Op_ Tryz.prog 213 (List ByteArray) repList := op_slice Tryz.underlying213 (by kernel_rfl) inferInstance
instance : IsFn Tryz.prog 2 := isFn_of Tryz.func2 (by kernel_rfl) rfl
instance : IsFn Tryz.prog 3 := isFn_of Tryz.func3 (by kernel_rfl) rfl
instance : IsFn Tryz.prog 4 := isFn_of Tryz.func4 (by kernel_rfl) rfl
instance : IsFn Tryz.prog 5 := isFn_of Tryz.func5 (by kernel_rfl) rfl
instance : IsFn Tryz.prog 6 := isFn_of Tryz.func6 (by kernel_rfl) rfl
instance : IsFn Tryz.prog 7 := isFn_of Tryz.func7 (by kernel_rfl) rfl
instance : IsFn Tryz.prog 8 := isFn_of Tryz.func8 (by kernel_rfl) rfl
instance : IsFn Tryz.prog 9 := isFn_of Tryz.func9 (by kernel_rfl) rfl
instance : IsFn Tryz.prog 10 := isFn_of Tryz.func10 (by kernel_rfl) rfl
instance : IsFn Tryz.prog 11 := isFn_of Tryz.func11 (by kernel_rfl) rfl
instance : IsFn Tryz.prog 12 := isFn_of Tryz.func12 (by kernel_rfl) rfl
instance : IsFn Tryz.prog 13 := isFn_of Tryz.func13 (by kernel_rfl) rfl
instance : IsFn Tryz.prog 14 := isFn_of Tryz.func14 (by kernel_rfl) rfl
instance : IsFn Tryz.prog 15 := isFn_of Tryz.func15 (by kernel_rfl) rfl
instance : IsFn Tryz.prog 16 := isFn_of Tryz.func16 (by kernel_rfl) rfl
instance : IsFn Tryz.prog 17 := isFn_of Tryz.func17 (by kernel_rfl) rfl
instance : IsFn Tryz.prog 18 := isFn_of Tryz.func18 (by kernel_rfl) rfl
instance : IsFn Tryz.prog 19 := isFn_of Tryz.func19 (by kernel_rfl) rfl
instance : IsFn Tryz.prog 20 := isFn_of Tryz.func20 (by kernel_rfl) rfl
instance : IsFn Tryz.prog 21 := isFn_of Tryz.func21 (by kernel_rfl) rfl
instance : IsFn Tryz.prog 22 := isFn_of Tryz.func22 (by kernel_rfl) rfl
instance : IsFn Tryz.prog 23 := isFn_of Tryz.func23 (by kernel_rfl) rfl
instance : IsFn Tryz.prog 24 := isFn_of Tryz.func24 (by kernel_rfl) rfl
instance : IsFn Tryz.prog 25 := isFn_of Tryz.func25 (by kernel_rfl) rfl
instance : IsFn Tryz.prog 26 := isFn_of Tryz.func26 (by kernel_rfl) rfl
instance : IsFn Tryz.prog 27 := isFn_of Tryz.func27 (by kernel_rfl) rfl
instance : IsFn Tryz.prog 28 := isFn_of Tryz.func28 (by kernel_rfl) rfl
instance : IsFn Tryz.prog 29 := isFn_of Tryz.func29 (by kernel_rfl) rfl
instance : IsFn Tryz.prog 30 := isFn_of Tryz.func30 (by kernel_rfl) rfl
instance : IsFn Tryz.prog 31 := isFn_of Tryz.func31 (by kernel_rfl) rfl
instance : IsFn Tryz.prog 32 := isFn_of Tryz.func32 (by kernel_rfl) rfl
instance : IsFn Tryz.prog 33 := isFn_of Tryz.func33 (by kernel_rfl) rfl
instance : IsFn Tryz.prog 34 := isFn_of Tryz.func34 (by kernel_rfl) rfl
instance : IsFn Tryz.prog 35 := isFn_of Tryz.func35 (by kernel_rfl) rfl
instance : IsFn Tryz.prog 36 := isFn_of Tryz.func36 (by kernel_rfl) rfl
instance : IsFn Tryz.prog 37 := isFn_of Tryz.func37 (by kernel_rfl) rfl
instance : IsFn Tryz.prog 38 := isFn_of Tryz.func38 (by kernel_rfl) rfl
instance : IsFn Tryz.prog 39 := isFn_of Tryz.func39 (by kernel_rfl) rfl
instance : IsFn Tryz.prog 40 := isFn_of Tryz.func40 (by kernel_rfl) rfl
instance : IsFn Tryz.prog 41 := isFn_of Tryz.func41 (by kernel_rfl) rfl
instance : IsFn Tryz.prog 42 := isFn_of Tryz.func42 (by kernel_rfl) rfl
instance : IsFn Tryz.prog 43 := isFn_of Tryz.func43 (by kernel_rfl) rfl
instance : IsFn Tryz.prog 44 := isFn_of Tryz.func44 (by kernel_rfl) rfl
instance : IsFn Tryz.prog 45 := isFn_of Tryz.func45 (by kernel_rfl) rfl
instance : IsFn Tryz.prog 46 := isFn_of Tryz.func46 (by kernel_rfl) rfl
instance : IsFn Tryz.prog 47 := isFn_of Tryz.func47 (by kernel_rfl) rfl
instance : IsFn Tryz.prog 48 := isFn_of Tryz.func48 (by kernel_rfl) rfl
instance : IsFn Tryz.prog 49 := isFn_of Tryz.func49 (by kernel_rfl) rfl
instance : IsFn Tryz.prog 50 := isFn_of Tryz.func50 (by kernel_rfl) rfl
instance : IsFn Tryz.prog 51 := isFn_of Tryz.func51 (by kernel_rfl) rfl
instance : IsFn Tryz.prog 52 := isFn_of Tryz.func52 (by kernel_rfl) rfl
instance : IsFn Tryz.prog 53 := isFn_of Tryz.func53 (by kernel_rfl) rfl
instance : IsFn Tryz.prog 54 := isFn_of Tryz.func54 (by kernel_rfl) rfl
instance : IsFn Tryz.prog 55 := isFn_of Tryz.func55 (by kernel_rfl) rfl
instance : IsFn Tryz.prog 56 := isFn_of Tryz.func56 (by kernel_rfl) rfl
instance : IsFn Tryz.prog 57 := isFn_of Tryz.func57 (by kernel_rfl) rfl
instance : IsFn Tryz.prog 58 := isFn_of Tryz.func58 (by kernel_rfl) rfl
instance : IsFn Tryz.prog 59 := isFn_of Tryz.func59 (by kernel_rfl) rfl
instance : IsFn Tryz.prog 60 := isFn_of Tryz.func60 (by kernel_rfl) rfl
instance : IsFn Tryz.prog 61 := isFn_of Tryz.func61 (by kernel_rfl) rfl
instance : IsFn Tryz.prog 62 := isFn_of Tryz.func62 (by kernel_rfl) rfl
instance : IsFn Tryz.prog 63 := isFn_of Tryz.func63 (by kernel_rfl) rfl
instance : IsFn Tryz.prog 64 := isFn_of Tryz.func64 (by kernel_rfl) rfl
instance : IsFn Tryz.prog 65 := isFn_of Tryz.func65 (by kernel_rfl) rfl
instance : IsFn Tryz.prog 66 := isFn_of Tryz.func66 (by kernel_rfl) rfl
instance : IsFn Tryz.prog 67 := isFn_of Tryz.func67 (by kernel_rfl) rfl
instance : IsFn Tryz.prog 68 := isFn_of Tryz.func68 (by kernel_rfl) rfl
instance : IsFn Tryz.prog 69 := isFn_of Tryz.func69 (by kernel_rfl) rfl
instance : IsFn Tryz.prog 70 := isFn_of Tryz.func70 (by kernel_rfl) rfl
instance : IsFn Tryz.prog 71 := isFn_of Tryz.func71 (by kernel_rfl) rfl
instance : IsFn Tryz.prog 72 := isFn_of Tryz.func72 (by kernel_rfl) rfl
instance : IsFn Tryz.prog 73 := isFn_of Tryz.func73 (by kernel_rfl) rfl
instance : IsFn Tryz.prog 74 := isFn_of Tryz.func74 (by kernel_rfl) rfl
instance : IsFn Tryz.prog 75 := isFn_of Tryz.func75 (by kernel_rfl) rfl
instance : IsFn Tryz.prog 76 := isFn_of Tryz.func76 (by kernel_rfl) rfl
instance : IsFn Tryz.prog 77 := isFn_of Tryz.func77 (by kernel_rfl) rfl
instance : IsFn Tryz.prog 78 := isFn_of Tryz.func78 (by kernel_rfl) rfl
instance : IsFn Tryz.prog 79 := isFn_of Tryz.func79 (by kernel_rfl) rfl
instance : IsFn Tryz.prog 80 := isFn_of Tryz.func80 (by kernel_rfl) rfl
instance : IsFn Tryz.prog 81 := isFn_of Tryz.func81 (by kernel_rfl) rfl
instance : IsFn Tryz.prog 82 := isFn_of Tryz.func82 (by kernel_rfl) rfl
instance : IsFn Tryz.prog 83 := isFn_of Tryz.func83 (by kernel_rfl) rfl
instance : IsFn Tryz.prog 84 := isFn_of Tryz.func84 (by kernel_rfl) rfl
instance : IsFn Tryz.prog 85 := isFn_of Tryz.func85 (by kernel_rfl) rfl
instance : IsFn Tryz.prog 86 := isFn_of Tryz.func86 (by kernel_rfl) rfl
instance : IsFn Tryz.prog 87 := isFn_of Tryz.func87 (by kernel_rfl) rfl
instance : IsFn Tryz.prog 88 := isFn_of Tryz.func88 (by kernel_rfl) rfl
instance : IsFn Tryz.prog 89 := isFn_of Tryz.func89 (by kernel_rfl) rfl
instance : IsFn Tryz.prog 90 := isFn_of Tryz.func90 (by kernel_rfl) rfl
instance : IsFn Tryz.prog 91 := isFn_of Tryz.func91 (by kernel_rfl) rfl
instance : IsFn Tryz.prog 92 := isFn_of Tryz.func92 (by kernel_rfl) rfl
instance : IsFn Tryz.prog 93 := isFn_of Tryz.func93 (by kernel_rfl) rfl
instance : IsFn Tryz.prog 94 := isFn_of Tryz.func94 (by kernel_rfl) rfl
instance : IsFn Tryz.prog 95 := isFn_of Tryz.func95 (by kernel_rfl) rfl
instance : IsFn Tryz.prog 96 := isFn_of Tryz.func96 (by kernel_rfl) rfl
instance : IsFn Tryz.prog 97 := isFn_of Tryz.func97 (by kernel_rfl) rfl
instance : IsFn Tryz.prog 98 := isFn_of Tryz.func98 (by kernel_rfl) rfl
instance : IsFn Tryz.prog 99 := isFn_of Tryz.func99 (by kernel_rfl) rfl
instance : IsFn Tryz.prog 100 := isFn_of Tryz.func100 (by kernel_rfl) rfl
instance : IsFn Tryz.prog 101 := isFn_of Tryz.func101 (by kernel_rfl) rfl
instance : IsFn Tryz.prog 102 := isFn_of Tryz.func102 (by kernel_rfl) rfl
instance : IsFn Tryz.prog 103 := isFn_of Tryz.func103 (by kernel_rfl) rfl
instance : IsFn Tryz.prog 104 := isFn_of Tryz.func104 (by kernel_rfl) rfl
instance : IsFn Tryz.prog 105 := isFn_of Tryz.func105 (by kernel_rfl) rfl
instance : IsFn Tryz.prog 106 := isFn_of Tryz.func106 (by kernel_rfl) rfl
instance : IsFn Tryz.prog 107 := isFn_of Tryz.func107 (by kernel_rfl) rfl
instance : IsFn Tryz.prog 108 := isFn_of Tryz.func108 (by kernel_rfl) rfl
instance : IsFn Tryz.prog 109 := isFn_of Tryz.func109 (by kernel_rfl) rfl
instance : IsFn Tryz.prog 110 := isFn_of Tryz.func110 (by kernel_rfl) rfl
instance : IsFn Tryz.prog 111 := isFn_of Tryz.func111 (by kernel_rfl) rfl
instance : IsFn Tryz.prog 112 := isFn_of Tryz.func112 (by kernel_rfl) rfl
instance : IsFn Tryz.prog 113 := isFn_of Tryz.func113 (by kernel_rfl) rfl
instance : IsFn Tryz.prog 114 := isFn_of Tryz.func114 (by kernel_rfl) rfl
instance : IsFn Tryz.prog 115 := isFn_of Tryz.func115 (by kernel_rfl) rfl
instance : IsFn Tryz.prog 116 := isFn_of Tryz.func116 (by kernel_rfl) rfl
instance : IsFn Tryz.prog 117 := isFn_of Tryz.func117 (by kernel_rfl) rfl
instance : IsFn Tryz.prog 118 := isFn_of Tryz.func118 (by kernel_rfl) rfl
instance : IsFn Tryz.prog 119 := isFn_of Tryz.func119 (by kernel_rfl) rfl
instance : IsFn Tryz.prog 120 := isFn_of Tryz.func120 (by kernel_rfl) rfl
instance : IsFn Tryz.prog 121 := isFn_of Tryz.func121 (by kernel_rfl) rfl
instance : IsFn Tryz.prog 122 := isFn_of Tryz.func122 (by kernel_rfl) rfl
instance : IsFn Tryz.prog 123 := isFn_of Tryz.func123 (by kernel_rfl) rfl
instance : IsFn Tryz.prog 124 := isFn_of Tryz.func124 (by kernel_rfl) rfl
instance : IsFn Tryz.prog 125 := isFn_of Tryz.func125 (by kernel_rfl) rfl
instance : IsFn Tryz.prog 126 := isFn_of Tryz.func126 (by kernel_rfl) rfl
instance : IsFn Tryz.prog 127 := isFn_of Tryz.func127 (by kernel_rfl) rfl
instance : IsFn Tryz.prog 128 := isFn_of Tryz.func128 (by kernel_rfl) rfl
instance : IsFn Tryz.prog 129 := isFn_of Tryz.func129 (by kernel_rfl) rfl
instance : IsFn Tryz.prog 130 := isFn_of Tryz.func130 (by kernel_rfl) rfl
instance : IsFn Tryz.prog 131 := isFn_of Tryz.func131 (by kernel_rfl) rfl
instance : IsFn Tryz.prog 132 := isFn_of Tryz.func132 (by kernel_rfl) rfl
instance : IsFn Tryz.prog 133 := isFn_of Tryz.func133 (by kernel_rfl) rfl
instance : IsFn Tryz.prog 134 := isFn_of Tryz.func134 (by kernel_rfl) rfl
instance : IsFn Tryz.prog 135 := isFn_of Tryz.func135 (by kernel_rfl) rfl
instance : IsFn Tryz.prog 136 := isFn_of Tryz.func136 (by kernel_rfl) rfl
instance : IsFn Tryz.prog 137 := isFn_of Tryz.func137 (by kernel_rfl) rfl
instance : IsFn Tryz.prog 138 := isFn_of Tryz.func138 (by kernel_rfl) rfl
instance : IsFn Tryz.prog 139 := isFn_of Tryz.func139 (by kernel_rfl) rfl
instance : IsFn Tryz.prog 140 := isFn_of Tryz.func140 (by kernel_rfl) rfl
instance : IsFn Tryz.prog 141 := isFn_of Tryz.func141 (by kernel_rfl) rfl
instance : IsFn Tryz.prog 142 := isFn_of Tryz.func142 (by kernel_rfl) rfl
instance : IsFn Tryz.prog 143 := isFn_of Tryz.func143 (by kernel_rfl) rfl
instance : IsFn Tryz.prog 144 := isFn_of Tryz.func144 (by kernel_rfl) rfl
instance : IsFn Tryz.prog 145 := isFn_of Tryz.func145 (by kernel_rfl) rfl
instance : IsFn Tryz.prog 146 := isFn_of Tryz.func146 (by kernel_rfl) rfl
instance : IsFn Tryz.prog 147 := isFn_of Tryz.func147 (by kernel_rfl) rfl
instance : IsFn Tryz.prog 148 := isFn_of Tryz.func148 (by kernel_rfl) rfl
instance : IsFn Tryz.prog 149 := isFn_of Tryz.func149 (by kernel_rfl) rfl
instance : IsFn Tryz.prog 150 := isFn_of Tryz.func150 (by kernel_rfl) rfl
instance : IsFn Tryz.prog 151 := isFn_of Tryz.func151 (by kernel_rfl) rfl
instance : IsFn Tryz.prog 152 := isFn_of Tryz.func152 (by kernel_rfl) rfl
instance : IsFn Tryz.prog 153 := isFn_of Tryz.func153 (by kernel_rfl) rfl
instance : IsFn Tryz.prog 154 := isFn_of Tryz.func154 (by kernel_rfl) rfl
instance : IsFn Tryz.prog 155 := isFn_of Tryz.func155 (by kernel_rfl) rfl
instance : IsFn Tryz.prog 156 := isFn_of Tryz.func156 (by kernel_rfl) rfl
instance : IsFn Tryz.prog 157 := isFn_of Tryz.func157 (by kernel_rfl) rfl
instance : IsFn Tryz.prog 158 := isFn_of Tryz.func158 (by kernel_rfl) rfl
instance : IsFn Tryz.prog 159 := isFn_of Tryz.func159 (by kernel_rfl) rfl
instance : IsFn Tryz.prog 160 := isFn_of Tryz.func160 (by kernel_rfl) rfl
instance : IsFn Tryz.prog 161 := isFn_of Tryz.func161 (by kernel_rfl) rfl
instance : IsFn Tryz.prog 162 := isFn_of Tryz.func162 (by kernel_rfl) rfl
instance : IsFn Tryz.prog 163 := isFn_of Tryz.func163 (by kernel_rfl) rfl
instance : IsFn Tryz.prog 164 := isFn_of Tryz.func164 (by kernel_rfl) rfl
instance : IsFn Tryz.prog 165 := isFn_of Tryz.func165 (by kernel_rfl) rfl
instance : IsFn Tryz.prog 166 := isFn_of Tryz.func166 (by kernel_rfl) rfl
instance : IsFn Tryz.prog 167 := isFn_of Tryz.func167 (by kernel_rfl) rfl
instance : IsFn Tryz.prog 168 := isFn_of Tryz.func168 (by kernel_rfl) rfl
instance : IsFn Tryz.prog 169 := isFn_of Tryz.func169 (by kernel_rfl) rfl
instance : IsFn Tryz.prog 170 := isFn_of Tryz.func170 (by kernel_rfl) rfl
instance : IsFn Tryz.prog 171 := isFn_of Tryz.func171 (by kernel_rfl) rfl
instance : IsFn Tryz.prog 172 := isFn_of Tryz.func172 (by kernel_rfl) rfl
instance : IsFn Tryz.prog 173 := isFn_of Tryz.func173 (by kernel_rfl) rfl
instance : IsFn Tryz.prog 174 := isFn_of Tryz.func174 (by kernel_rfl) rfl
instance : IsFn Tryz.prog 175 := isFn_of Tryz.func175 (by kernel_rfl) rfl
instance : IsFn Tryz.prog 176 := isFn_of Tryz.func176 (by kernel_rfl) rfl
instance : IsFn Tryz.prog 177 := isFn_of Tryz.func177 (by kernel_rfl) rfl
instance : IsFn Tryz.prog 178 := isFn_of Tryz.func178 (by kernel_rfl) rfl
instance : IsFn Tryz.prog 179 := isFn_of Tryz.func179 (by kernel_rfl) rfl
instance : IsFn Tryz.prog 180 := isFn_of Tryz.func180 (by kernel_rfl) rfl
instance : IsFn Tryz.prog 181 := isFn_of Tryz.func181 (by kernel_rfl) rfl
instance : IsFn Tryz.prog 182 := isFn_of Tryz.func182 (by kernel_rfl) rfl
instance : IsFn Tryz.prog 183 := isFn_of Tryz.func183 (by kernel_rfl) rfl
instance : IsFn Tryz.prog 184 := isFn_of Tryz.func184 (by kernel_rfl) rfl
instance : IsFn Tryz.prog 185 := isFn_of Tryz.func185 (by kernel_rfl) rfl
instance : IsFn Tryz.prog 186 := isFn_of Tryz.func186 (by kernel_rfl) rfl
instance : IsFn Tryz.prog 187 := isFn_of Tryz.func187 (by kernel_rfl) rfl
instance : IsFn Tryz.prog 188 := isFn_of Tryz.func188 (by kernel_rfl) rfl
instance : IsFn Tryz.prog 189 := isFn_of Tryz.func189 (by kernel_rfl) rfl
instance : IsFn Tryz.prog 190 := isFn_of Tryz.func190 (by kernel_rfl) rfl
instance : IsFn Tryz.prog 191 := isFn_of Tryz.func191 (by kernel_rfl) rfl
instance : IsFn Tryz.prog 192 := isFn_of Tryz.func192 (by kernel_rfl) rfl
instance : IsFn Tryz.prog 193 := isFn_of Tryz.func193 (by kernel_rfl) rfl
instance : IsFn Tryz.prog 194 := isFn_of Tryz.func194 (by kernel_rfl) rfl
instance : IsFn Tryz.prog 195 := isFn_of Tryz.func195 (by kernel_rfl) rfl
instance : IsFn Tryz.prog 196 := isFn_of Tryz.func196 (by kernel_rfl) rfl
instance : IsFn Tryz.prog 197 := isFn_of Tryz.func197 (by kernel_rfl) rfl
instance : IsFn Tryz.prog 198 := isFn_of Tryz.func198 (by kernel_rfl) rfl
instance : IsFn Tryz.prog 199 := isFn_of Tryz.func199 (by kernel_rfl) rfl
instance : IsFn Tryz.prog 200 := isFn_of Tryz.func200 (by kernel_rfl) rfl
instance : IsFn Tryz.prog 201 := isFn_of Tryz.func201 (by kernel_rfl) rfl
instance : IsFn Tryz.prog 202 := isFn_of Tryz.func202 (by kernel_rfl) rfl
instance : IsFn Tryz.prog 203 := isFn_of Tryz.func203 (by kernel_rfl) rfl
instance : IsFn Tryz.prog 204 := isFn_of Tryz.func204 (by kernel_rfl) rfl
instance : IsFn Tryz.prog 205 := isFn_of Tryz.func205 (by kernel_rfl) rfl
instance : IsFn Tryz.prog 206 := isFn_of Tryz.func206 (by kernel_rfl) rfl
instance : IsFn Tryz.prog 207 := isFn_of Tryz.func207 (by kernel_rfl) rfl
instance : IsFn Tryz.prog 208 := isFn_of Tryz.func208 (by kernel_rfl) rfl
instance : IsFn Tryz.prog 209 := isFn_of Tryz.func209 (by kernel_rfl) rfl
instance : IsFn Tryz.prog 210 := isFn_of Tryz.func210 (by kernel_rfl) rfl
instance : IsFn Tryz.prog 211 := isFn_of Tryz.func211 (by kernel_rfl) rfl
instance : IsFn Tryz.prog 212 := isFn_of Tryz.func212 (by kernel_rfl) rfl
instance : IsFn Tryz.prog 215 := isFn_of Tryz.func215 (by kernel_rfl) rfl
instance : IsFn Tryz.prog 216 := isFn_of Tryz.func216 (by kernel_rfl) rfl
instance : IsFn Tryz.prog 217 := isFn_of Tryz.func217 (by kernel_rfl) rfl
instance : IsFn Tryz.prog 218 := isFn_of Tryz.func218 (by kernel_rfl) rfl
instance : IsFn Tryz.prog 219 := isFn_of Tryz.func219 (by kernel_rfl) rfl
instance : IsFn Tryz.prog 220 := isFn_of Tryz.func220 (by kernel_rfl) rfl
instance : IsFn Tryz.prog 238 := isFn_of Tryz.func238 (by kernel_rfl) rfl
instance : IsFn Tryz.prog 247 := isFn_of Tryz.func247 (by kernel_rfl) rfl
instance : ResC Tryz.f2 [] := ⟨rfl⟩
instance : ResC Tryz.f3 [.tmp 2] := ⟨rfl⟩
instance : ResC Tryz.f4 [.tmp 4] := ⟨rfl⟩
instance : ResC Tryz.f5 [.tmp 2] := ⟨rfl⟩
instance : ResC Tryz.f6 [.tmp 2] := ⟨rfl⟩
instance : ResC Tryz.f7 [.cell 2 29, .tmp 3] := ⟨rfl⟩
instance : ResC Tryz.f8 [.cell 2 34, .tmp 3] := ⟨rfl⟩
instance : ResC Tryz.f9 [.cell 2 34, .tmp 3] := ⟨rfl⟩
instance : ResC Tryz.f10 [.cell 2 34, .tmp 3] := ⟨rfl⟩
instance : ResC Tryz.f11 [.tmp 4] := ⟨rfl⟩
instance : ResC Tryz.f12 [.tmp 4] := ⟨rfl⟩
instance : ResC Tryz.f13 [.tmp 4] := ⟨rfl⟩
instance : ResC Tryz.f14 [.tmp 4] := ⟨rfl⟩
instance : ResC Tryz.f15 [.tmp 4] := ⟨rfl⟩
instance : ResC Tryz.f16 [.tmp 6] := ⟨rfl⟩
instance : ResC Tryz.f17 [.tmp 4] := ⟨rfl⟩
instance : ResC Tryz.f18 [.cell 2 29] := ⟨rfl⟩
instance : ResC Tryz.f19 [.tmp 2] := ⟨rfl⟩
instance : ResC Tryz.f20 [.tmp 4] := ⟨rfl⟩
instance : ResC Tryz.f21 [.tmp 4] := ⟨rfl⟩
instance : ResC Tryz.f22 [.cell 2 34, .tmp 3] := ⟨rfl⟩
instance : ResC Tryz.f23 [.tmp 4] := ⟨rfl⟩
instance : ResC Tryz.f24 [.tmp 4] := ⟨rfl⟩
instance : ResC Tryz.f25 [.tmp 4] := ⟨rfl⟩
instance : ResC Tryz.f26 [.tmp 4] := ⟨rfl⟩
instance : ResC Tryz.f27 [.tmp 2] := ⟨rfl⟩
instance : ResC Tryz.f28 [.cell 2 29] := ⟨rfl⟩
instance : ResC Tryz.f29 [.tmp 4] := ⟨rfl⟩
instance : ResC Tryz.f30 [.tmp 2] := ⟨rfl⟩
instance : ResC Tryz.f31 [.cell 2 34, .tmp 3] := ⟨rfl⟩
instance : ResC Tryz.f32 [.tmp 2] := ⟨rfl⟩
instance : ResC Tryz.f33 [.tmp 2] := ⟨rfl⟩
instance : ResC Tryz.f34 [.cell 8 34, .tmp 9] := ⟨rfl⟩
instance : ResC Tryz.f35 [.tmp 4] := ⟨rfl⟩
instance : ResC Tryz.f36 [.tmp 2] := ⟨rfl⟩
instance : ResC Tryz.f37 [.cell 4 34, .tmp 5] := ⟨rfl⟩
instance : ResC Tryz.f38 [.tmp 4] := ⟨rfl⟩
instance : ResC Tryz.f39 [.tmp 8] := ⟨rfl⟩
instance : ResC Tryz.f40 [.tmp 2] := ⟨rfl⟩
instance : ResC Tryz.f41 [.tmp 6] := ⟨rfl⟩
instance : ResC Tryz.f42 [.tmp 2] := ⟨rfl⟩
instance : ResC Tryz.f43 [.tmp 6] := ⟨rfl⟩
instance : ResC Tryz.f44 [.tmp 4] := ⟨rfl⟩
instance : ResC Tryz.f45 [.tmp 6] := ⟨rfl⟩
instance : ResC Tryz.f46 [.tmp 4] := ⟨rfl⟩
instance : ResC Tryz.f47 [.tmp 4] := ⟨rfl⟩
instance : ResC Tryz.f48 [.tmp 2] := ⟨rfl⟩
instance : ResC Tryz.f49 [.tmp 4] := ⟨rfl⟩
instance : ResC Tryz.f50 [.tmp 4] := ⟨rfl⟩
instance : ResC Tryz.f51 [.tmp 4] := ⟨rfl⟩
instance : ResC Tryz.f52 [.tmp 6] := ⟨rfl⟩
instance : ResC Tryz.f53 [.tmp 4] := ⟨rfl⟩
instance : ResC Tryz.f54 [.tmp 4] := ⟨rfl⟩
instance : ResC Tryz.f55 [.cell 2 26] := ⟨rfl⟩
instance : ResC Tryz.f56 [.tmp 2] := ⟨rfl⟩
instance : ResC Tryz.f57 [.tmp 4] := ⟨rfl⟩
instance : ResC Tryz.f58 [.tmp 4] := ⟨rfl⟩
instance : ResC Tryz.f59 [.cell 4 34, .tmp 5] := ⟨rfl⟩
instance : ResC Tryz.f60 [.tmp 4] := ⟨rfl⟩
instance : ResC Tryz.f61 [.tmp 4] := ⟨rfl⟩
instance : ResC Tryz.f62 [.tmp 4] := ⟨rfl⟩
instance : ResC Tryz.f63 [.tmp 4] := ⟨rfl⟩
instance : ResC Tryz.f64 [.tmp 4] := ⟨rfl⟩
instance : ResC Tryz.f65 [.tmp 4] := ⟨rfl⟩
instance : ResC Tryz.f66 [.tmp 4] := ⟨rfl⟩
instance : ResC Tryz.f67 [.cell 2 29] := ⟨rfl⟩
instance : ResC Tryz.f68 [.tmp 2] := ⟨rfl⟩
instance : ResC Tryz.f69 [.cell 2 29] := ⟨rfl⟩
instance : ResC Tryz.f70 [.tmp 2] := ⟨rfl⟩
instance : ResC Tryz.f71 [.tmp 4] := ⟨rfl⟩
instance : ResC Tryz.f72 [.tmp 4] := ⟨rfl⟩
instance : ResC Tryz.f73 [.tmp 4] := ⟨rfl⟩
instance : ResC Tryz.f74 [.tmp 8] := ⟨rfl⟩
instance : ResC Tryz.f75 [.tmp 4, .tmp 5] := ⟨rfl⟩
instance : ResC Tryz.f76 [.tmp 4] := ⟨rfl⟩
instance : ResC Tryz.f77 [.tmp 2] := ⟨rfl⟩
instance : ResC Tryz.f78 [.tmp 2] := ⟨rfl⟩
instance : ResC Tryz.f79 [.tmp 2] := ⟨rfl⟩
instance : ResC Tryz.f80 [.tmp 4] := ⟨rfl⟩
instance : ResC Tryz.f81 [.tmp 6] := ⟨rfl⟩
instance : ResC Tryz.f82 [.tmp 2, .tmp 3] := ⟨rfl⟩
instance : ResC Tryz.f83 [.tmp 2] := ⟨rfl⟩
instance : ResC Tryz.f84 [.tmp 8, .tmp 9] := ⟨rfl⟩
instance : ResC Tryz.f85 [.tmp 4, .tmp 5] := ⟨rfl⟩
instance : ResC Tryz.f86 [.tmp 4] := ⟨rfl⟩
instance : ResC Tryz.f87 [.tmp 10] := ⟨rfl⟩
instance : ResC Tryz.f88 [.tmp 2] := ⟨rfl⟩
instance : ResC Tryz.f89 [.tmp 4] := ⟨rfl⟩
instance : ResC Tryz.f90 [.tmp 8] := ⟨rfl⟩
instance : ResC Tryz.f91 [.tmp 2] := ⟨rfl⟩
instance : ResC Tryz.f92 [.tmp 6] := ⟨rfl⟩
instance : ResC Tryz.f93 [.tmp 4] := ⟨rfl⟩
instance : ResC Tryz.f94 [.cell 4 34, .tmp 5] := ⟨rfl⟩
instance : ResC Tryz.f95 [.tmp 2] := ⟨rfl⟩
instance : ResC Tryz.f96 [.tmp 4] := ⟨rfl⟩
instance : ResC Tryz.f97 [.tmp 2] := ⟨rfl⟩
instance : ResC Tryz.f98 [.tmp 6] := ⟨rfl⟩
instance : ResC Tryz.f99 [.tmp 6] := ⟨rfl⟩
instance : ResC Tryz.f100 [.tmp 4] := ⟨rfl⟩
instance : ResC Tryz.f101 [.tmp 8] := ⟨rfl⟩
instance : ResC Tryz.f102 [.tmp 4] := ⟨rfl⟩
instance : ResC Tryz.f103 [.tmp 6] := ⟨rfl⟩
instance : ResC Tryz.f104 [.tmp 4] := ⟨rfl⟩
instance : ResC Tryz.f105 [.cell 6 98, .tmp 7] := ⟨rfl⟩
instance : ResC Tryz.f106 [.tmp 2] := ⟨rfl⟩
instance : ResC Tryz.f107 [.tmp 4] := ⟨rfl⟩
instance : ResC Tryz.f108 [.tmp 4] := ⟨rfl⟩
instance : ResC Tryz.f109 [.tmp 3] := ⟨rfl⟩
instance : ResC Tryz.f110 [.tmp 4] := ⟨rfl⟩
instance : ResC Tryz.f111 [.tmp 4] := ⟨rfl⟩
instance : ResC Tryz.f112 [.tmp 4] := ⟨rfl⟩
instance : ResC Tryz.f113 [.cell 2 95] := ⟨rfl⟩
instance : ResC Tryz.f114 [.tmp 4] := ⟨rfl⟩
instance : ResC Tryz.f115 [.cell 4 34, .tmp 5] := ⟨rfl⟩
instance : ResC Tryz.f116 [.tmp 4] := ⟨rfl⟩
instance : ResC Tryz.f117 [.tmp 4] := ⟨rfl⟩
instance : ResC Tryz.f118 [.cell 2 29] := ⟨rfl⟩
instance : ResC Tryz.f119 [.cell 2 26] := ⟨rfl⟩
instance : ResC Tryz.f120 [.cell 4 95] := ⟨rfl⟩
instance : ResC Tryz.f121 [.tmp 2] := ⟨rfl⟩
instance : ResC Tryz.f122 [.cell 2 26] := ⟨rfl⟩
instance : ResC Tryz.f123 [.tmp 4] := ⟨rfl⟩
instance : ResC Tryz.f124 [.tmp 6] := ⟨rfl⟩
instance : ResC Tryz.f125 [.tmp 2] := ⟨rfl⟩
instance : ResC Tryz.f126 [.tmp 2] := ⟨rfl⟩
instance : ResC Tryz.f127 [.tmp 4] := ⟨rfl⟩
instance : ResC Tryz.f128 [.tmp 4] := ⟨rfl⟩
instance : ResC Tryz.f129 [.tmp 2] := ⟨rfl⟩
instance : ResC Tryz.f130 [.tmp 2] := ⟨rfl⟩
instance : ResC Tryz.f131 [.tmp 2] := ⟨rfl⟩
instance : ResC Tryz.f132 [.tmp 6] := ⟨rfl⟩
instance : ResC Tryz.f133 [.tmp 4] := ⟨rfl⟩
instance : ResC Tryz.f134 [.tmp 3] := ⟨rfl⟩
instance : ResC Tryz.f135 [.tmp 4] := ⟨rfl⟩
instance : ResC Tryz.f136 [] := ⟨rfl⟩
instance : ResC Tryz.f137 [.tmp 4] := ⟨rfl⟩
instance : ResC Tryz.f138 [.cell 6 155] := ⟨rfl⟩
instance : ResC Tryz.f139 [.tmp 2, .tmp 3] := ⟨rfl⟩
instance : ResC Tryz.f140 [.tmp 10] := ⟨rfl⟩
instance : ResC Tryz.f141 [.tmp 4] := ⟨rfl⟩
instance : ResC Tryz.f142 [.tmp 2] := ⟨rfl⟩
instance : ResC Tryz.f143 [.tmp 4] := ⟨rfl⟩
instance : ResC Tryz.f144 [.cell 4 34, .tmp 5] := ⟨rfl⟩
instance : ResC Tryz.f145 [.tmp 2] := ⟨rfl⟩
instance : ResC Tryz.f146 [.tmp 6] := ⟨rfl⟩
instance : ResC Tryz.f147 [.tmp 4] := ⟨rfl⟩
instance : ResC Tryz.f148 [.tmp 4] := ⟨rfl⟩
instance : ResC Tryz.f149 [.tmp 6] := ⟨rfl⟩
instance : ResC Tryz.f150 [.tmp 6] := ⟨rfl⟩
instance : ResC Tryz.f151 [.tmp 4] := ⟨rfl⟩
instance : ResC Tryz.f152 [.cell 2 98] := ⟨rfl⟩
instance : ResC Tryz.f153 [.tmp 4] := ⟨rfl⟩
instance : ResC Tryz.f154 [.tmp 3] := ⟨rfl⟩
instance : ResC Tryz.f155 [.tmp 4] := ⟨rfl⟩
instance : ResC Tryz.f156 [.tmp 4] := ⟨rfl⟩
instance : ResC Tryz.f157 [.tmp 4] := ⟨rfl⟩
instance : ResC Tryz.f158 [.tmp 4, .tmp 5] := ⟨rfl⟩
instance : ResC Tryz.f159 [.tmp 4] := ⟨rfl⟩
instance : ResC Tryz.f160 [.tmp 4] := ⟨rfl⟩
instance : ResC Tryz.f161 [.tmp 2] := ⟨rfl⟩
instance : ResC Tryz.f162 [.tmp 4] := ⟨rfl⟩
instance : ResC Tryz.f163 [] := ⟨rfl⟩
instance : ResC Tryz.f164 [.tmp 2] := ⟨rfl⟩
instance : ResC Tryz.f165 [.tmp 3] := ⟨rfl⟩
instance : ResC Tryz.f166 [.tmp 4] := ⟨rfl⟩
instance : ResC Tryz.f167 [.tmp 6] := ⟨rfl⟩
instance : ResC Tryz.f168 [.tmp 6, .tmp 7] := ⟨rfl⟩
instance : ResC Tryz.f169 [.cell 2 179] := ⟨rfl⟩
instance : ResC Tryz.f170 [.tmp 6, .tmp 7, .tmp 8] := ⟨rfl⟩
instance : ResC Tryz.f171 [.tmp 2] := ⟨rfl⟩
instance : ResC Tryz.f172 [.tmp 4] := ⟨rfl⟩
instance : ResC Tryz.f173 [.tmp 4] := ⟨rfl⟩
instance : ResC Tryz.f174 [.tmp 4] := ⟨rfl⟩
instance : ResC Tryz.f175 [.tmp 6, .tmp 7] := ⟨rfl⟩
instance : ResC Tryz.f176 [] := ⟨rfl⟩
instance : ResC Tryz.f177 [] := ⟨rfl⟩
instance : ResC Tryz.f178 [] := ⟨rfl⟩
instance : ResC Tryz.f179 [.tmp 8, .tmp 9] := ⟨rfl⟩
instance : ResC Tryz.f180 [] := ⟨rfl⟩
instance : ResC Tryz.f181 [.tmp 8] := ⟨rfl⟩
instance : ResC Tryz.f182 [.tmp 10] := ⟨rfl⟩
instance : ResC Tryz.f183 [.tmp 10, .tmp 11] := ⟨rfl⟩
instance : ResC Tryz.f184 [.tmp 2] := ⟨rfl⟩
instance : ResC Tryz.f185 [.tmp 2] := ⟨rfl⟩
instance : ResC Tryz.f186 [.tmp 4] := ⟨rfl⟩
instance : ResC Tryz.f187 [.tmp 6] := ⟨rfl⟩
instance : ResC Tryz.f188 [.tmp 4] := ⟨rfl⟩
instance : ResC Tryz.f189 [.tmp 2] := ⟨rfl⟩
instance : ResC Tryz.f190 [.tmp 2] := ⟨rfl⟩
instance : ResC Tryz.f191 [] := ⟨rfl⟩
instance : ResC Tryz.f192 [.tmp 2] := ⟨rfl⟩
instance : ResC Tryz.f193 [.tmp 2] := ⟨rfl⟩
instance : ResC Tryz.f194 [.tmp 8] := ⟨rfl⟩
instance : ResC Tryz.f195 [.tmp 12] := ⟨rfl⟩
instance : ResC Tryz.f196 [.tmp 4, .tmp 5] := ⟨rfl⟩
instance : ResC Tryz.f197 [.tmp 2] := ⟨rfl⟩
instance : ResC Tryz.f198 [.tmp 4] := ⟨rfl⟩
instance : ResC Tryz.f199 [.tmp 10, .tmp 11] := ⟨rfl⟩
instance : ResC Tryz.f200 [.tmp 4, .tmp 5] := ⟨rfl⟩
instance : ResC Tryz.f201 [.tmp 4, .tmp 5] := ⟨rfl⟩
instance : ResC Tryz.f202 [.tmp 4] := ⟨rfl⟩
instance : ResC Tryz.f203 [] := ⟨rfl⟩
instance : ResC Tryz.f204 [.tmp 4, .tmp 5] := ⟨rfl⟩
instance : ResC Tryz.f205 [.tmp 2] := ⟨rfl⟩
instance : ResC Tryz.f206 [.tmp 4] := ⟨rfl⟩
instance : ResC Tryz.f207 [] := ⟨rfl⟩
instance : ResC Tryz.f208 [] := ⟨rfl⟩
instance : ResC Tryz.f209 [.tmp 2] := ⟨rfl⟩
instance : ResC Tryz.f210 [.tmp 2] := ⟨rfl⟩
instance : ResC Tryz.f211 [] := ⟨rfl⟩
instance : ResC Tryz.f212 [.tmp 10, .tmp 11] := ⟨rfl⟩
instance : ResC Tryz.f215 [.tmp 2] := ⟨rfl⟩
instance : ResC Tryz.f216 [.tmp 2] := ⟨rfl⟩
instance : ResC Tryz.f217 [.tmp 2] := ⟨rfl⟩
instance : ResC Tryz.f218 [.tmp 2] := ⟨rfl⟩
instance : ResC Tryz.f219 [.tmp 2] := ⟨rfl⟩
instance : ResC Tryz.f220 [.tmp 2] := ⟨rfl⟩
instance : ResC Tryz.f238 [.tmp 2] := ⟨rfl⟩
instance : ResC Tryz.f247 [] := ⟨rfl⟩
end Go.Proofs
