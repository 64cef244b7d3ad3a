/- The engine's classes at this program: its types, its functions. Written by a program. -/
import Derived.Test.YtogmjihokkdcfaaGreatDoorChecked
import Derived.Test.YtogmjihokkdcfaaGreatDoorEngO
namespace Go.Proofs
open Go Go.Eng
set_option linter.unusedVariables false
set_option maxRecDepth 20000
instance : Mixed Tryz.prog := ⟨by kernel_rfl⟩
instance : Sc Tryz.prog 1 := ⟨fun w => Tryz.isAgg1 w, fun w => Tryz.sizeOf1 w⟩
instance : Zr Tryz.prog 1 [.nilFunc] := ⟨_, fun w => Tryz.zeroValue1 w, rfl⟩
instance : Sc Tryz.prog 2 := ⟨fun w => Tryz.isAgg2 w, fun w => Tryz.sizeOf2 w⟩
instance : Zr Tryz.prog 2 [(.int .i64 (0))] := ⟨_, fun w => Tryz.zeroValue2 w, rfl⟩
instance : I64T Tryz.prog 2 := ⟨Tryz.underlying2⟩
instance : Sc Tryz.prog 3 := ⟨fun w => Tryz.isAgg3 w, fun w => Tryz.sizeOf3 w⟩
instance : Zr Tryz.prog 3 [(.int .i64 (0))] := ⟨_, fun w => Tryz.zeroValue3 w, rfl⟩
instance : I64T Tryz.prog 3 := ⟨Tryz.underlying3⟩
instance : Sc Tryz.prog 4 := ⟨fun w => Tryz.isAgg4 w, fun w => Tryz.sizeOf4 w⟩
instance : Zr Tryz.prog 4 [(.bool false)] := ⟨_, fun w => Tryz.zeroValue4 w, rfl⟩
instance : IsBool Tryz.prog 4 := ⟨Tryz.underlying4⟩
instance : Sc Tryz.prog 5 := ⟨fun w => Tryz.isAgg5 w, fun w => Tryz.sizeOf5 w⟩
instance : Zr Tryz.prog 5 [(.int .u8 (0))] := ⟨_, fun w => Tryz.zeroValue5 w, rfl⟩
instance : Sc Tryz.prog 9 := ⟨fun w => Tryz.isAgg9 w, fun w => Tryz.sizeOf9 w⟩
instance : Zr Tryz.prog 9 [(.string ByteArray.empty)] := ⟨_, fun w => Tryz.zeroValue9 w, rfl⟩
instance : IsStr Tryz.prog 9 := ⟨Tryz.underlying9⟩
instance : Sc Tryz.prog 12 := ⟨fun w => Tryz.isAgg12 w, fun w => Tryz.sizeOf12 w⟩
instance : Zr Tryz.prog 12 [(.int .u64 (0))] := ⟨_, fun w => Tryz.zeroValue12 w, rfl⟩
instance : Ag Tryz.prog 13 2 := ⟨fun w => Tryz.isAgg13 w, fun w => Tryz.sizeOf13 w⟩
instance : Zr Tryz.prog 13 [(.string ByteArray.empty), (.int .u64 (0))] := ⟨_, fun w => Tryz.zeroValue13 w, rfl⟩
instance : Fo Tryz.prog 13 0 0 := ⟨fun w a => by simp [Instr.fieldAt, Instr.sureAddr, fieldPlace]⟩
instance : Fo Tryz.prog 13 1 1 := ⟨fun w a => by simp [Instr.fieldAt, Instr.sureAddr, fieldPlace]⟩
instance : StT Tryz.prog 13 [(0, 1), (1, 1)] [(.string ByteArray.empty), (.int .u64 (0))] := ⟨_, Tryz.t13, _, Tryz.underlying13, by kernel_rfl, by kernel_rfl, rfl, rfl⟩
instance : Sc Tryz.prog 20 := ⟨fun w => Tryz.isAgg20 w, fun w => Tryz.sizeOf20 w⟩
instance : Zr Tryz.prog 20 [.nilIface] := ⟨_, fun w => Tryz.zeroValue20 w, rfl⟩
instance : Sc Tryz.prog 21 := ⟨fun w => Tryz.isAgg21 w, fun w => Tryz.sizeOf21 w⟩
instance : Zr Tryz.prog 21 [(.int .i32 (0))] := ⟨_, fun w => Tryz.zeroValue21 w, rfl⟩
instance : Sc Tryz.prog 22 := ⟨fun w => Tryz.isAgg22 w, fun w => Tryz.sizeOf22 w⟩
instance : Zr Tryz.prog 22 [(.slice none 0 0)] := ⟨_, fun w => Tryz.zeroValue22 w, rfl⟩
instance : Sl Tryz.prog 22 1 8 := ⟨2, Tryz.t2, _, Tryz.underlying22, by kernel_rfl, rfl, rfl, rfl, rfl, by decide⟩
instance : SlZ Tryz.prog 22 [(.int .i64 (0))] := ⟨fun {e i z} h1 h2 h3 => by
  rw [Tryz.underlying22] at h1; cases h1
  rw [show Tryz.prog.info? 2 = some Tryz.t2 by kernel_rfl] at h2; cases h2; cases h3; rfl⟩
instance : Ag Tryz.prog 23 1 := ⟨fun w => Tryz.isAgg23 w, fun w => Tryz.sizeOf23 w⟩
instance : Zr Tryz.prog 23 [(.slice none 0 0)] := ⟨_, fun w => Tryz.zeroValue23 w, rfl⟩
instance : Fo Tryz.prog 23 0 0 := ⟨fun w a => by simp [Instr.fieldAt, Instr.sureAddr, fieldPlace]⟩
instance : StT Tryz.prog 23 [(0, 1)] [(.slice none 0 0)] := ⟨_, Tryz.t23, _, Tryz.underlying23, by kernel_rfl, by kernel_rfl, rfl, rfl⟩
instance : Ag Tryz.prog 24 1 := ⟨fun w => Tryz.isAgg24 w, fun w => Tryz.sizeOf24 w⟩
instance : Zr Tryz.prog 24 [(.slice none 0 0)] := ⟨_, fun w => Tryz.zeroValue24 w, rfl⟩
instance : Fo Tryz.prog 24 0 0 := ⟨fun w a => by simp [Instr.fieldAt, Instr.sureAddr, fieldPlace]⟩
instance : StT Tryz.prog 24 [(0, 1)] [(.slice none 0 0)] := ⟨_, Tryz.t24, _, Tryz.underlying24, by kernel_rfl, by kernel_rfl, rfl, rfl⟩
instance : Sc Tryz.prog 25 := ⟨fun w => Tryz.isAgg25 w, fun w => Tryz.sizeOf25 w⟩
instance : Zr Tryz.prog 25 [.nilFunc] := ⟨_, fun w => Tryz.zeroValue25 w, rfl⟩
instance : Sc Tryz.prog 26 := ⟨fun w => Tryz.isAgg26 w, fun w => Tryz.sizeOf26 w⟩
instance : Zr Tryz.prog 26 [(.slice none 0 0)] := ⟨_, fun w => Tryz.zeroValue26 w, rfl⟩
instance : Sl Tryz.prog 26 1 24 := ⟨22, Tryz.t22, _, Tryz.underlying26, by kernel_rfl, rfl, rfl, rfl, rfl, by decide⟩
instance : SlZ Tryz.prog 26 [(.slice none 0 0)] := ⟨fun {e i z} h1 h2 h3 => by
  rw [Tryz.underlying26] at h1; cases h1
  rw [show Tryz.prog.info? 22 = some Tryz.t22 by kernel_rfl] at h2; cases h2; cases h3; rfl⟩
instance : Ag Tryz.prog 27 4 := ⟨fun w => Tryz.isAgg27 w, fun w => Tryz.sizeOf27 w⟩
instance : Zr Tryz.prog 27 [(.int .i64 (0)), (.slice none 0 0), (.slice none 0 0), (.slice none 0 0)] := ⟨_, fun w => Tryz.zeroValue27 w, rfl⟩
instance : Fo Tryz.prog 27 0 0 := ⟨fun w a => by simp [Instr.fieldAt, Instr.sureAddr, fieldPlace]⟩
instance : Fo Tryz.prog 27 1 1 := ⟨fun w a => by simp [Instr.fieldAt, Instr.sureAddr, fieldPlace]⟩
instance : Fo Tryz.prog 27 2 2 := ⟨fun w a => by simp [Instr.fieldAt, Instr.sureAddr, fieldPlace]⟩
instance : Fo Tryz.prog 27 3 3 := ⟨fun w a => by simp [Instr.fieldAt, Instr.sureAddr, fieldPlace]⟩
instance : StT Tryz.prog 27 [(0, 1), (1, 1), (2, 1), (3, 1)] [(.int .i64 (0)), (.slice none 0 0), (.slice none 0 0), (.slice none 0 0)] := ⟨_, Tryz.t27, _, Tryz.underlying27, by kernel_rfl, by kernel_rfl, rfl, rfl⟩
instance : Ag Tryz.prog 28 4 := ⟨fun w => Tryz.isAgg28 w, fun w => Tryz.sizeOf28 w⟩
instance : Zr Tryz.prog 28 [(.int .i64 (0)), (.slice none 0 0), (.slice none 0 0), (.slice none 0 0)] := ⟨_, fun w => Tryz.zeroValue28 w, rfl⟩
instance : Fo Tryz.prog 28 0 0 := ⟨fun w a => by simp [Instr.fieldAt, Instr.sureAddr, fieldPlace]⟩
instance : Fo Tryz.prog 28 1 1 := ⟨fun w a => by simp [Instr.fieldAt, Instr.sureAddr, fieldPlace]⟩
instance : Fo Tryz.prog 28 2 2 := ⟨fun w a => by simp [Instr.fieldAt, Instr.sureAddr, fieldPlace]⟩
instance : Fo Tryz.prog 28 3 3 := ⟨fun w a => by simp [Instr.fieldAt, Instr.sureAddr, fieldPlace]⟩
instance : StT Tryz.prog 28 [(0, 1), (1, 1), (2, 1), (3, 1)] [(.int .i64 (0)), (.slice none 0 0), (.slice none 0 0), (.slice none 0 0)] := ⟨_, Tryz.t28, _, Tryz.underlying28, by kernel_rfl, by kernel_rfl, rfl, rfl⟩
instance : Sc Tryz.prog 30 := ⟨fun w => Tryz.isAgg30 w, fun w => Tryz.sizeOf30 w⟩
instance : Zr Tryz.prog 30 [.nilFunc] := ⟨_, fun w => Tryz.zeroValue30 w, rfl⟩
instance : Ag Tryz.prog 31 1 := ⟨fun w => Tryz.isAgg31 w, fun w => Tryz.sizeOf31 w⟩
instance : Zr Tryz.prog 31 [(.slice none 0 0)] := ⟨_, fun w => Tryz.zeroValue31 w, rfl⟩
instance : Fo Tryz.prog 31 0 0 := ⟨fun w a => by simp [Instr.fieldAt, Instr.sureAddr, fieldPlace]⟩
instance : StT Tryz.prog 31 [(0, 1)] [(.slice none 0 0)] := ⟨_, Tryz.t31, _, Tryz.underlying31, by kernel_rfl, by kernel_rfl, rfl, rfl⟩
instance : Sc Tryz.prog 32 := ⟨fun w => Tryz.isAgg32 w, fun w => Tryz.sizeOf32 w⟩
instance : Zr Tryz.prog 32 [.nilFunc] := ⟨_, fun w => Tryz.zeroValue32 w, rfl⟩
instance : Sc Tryz.prog 33 := ⟨fun w => Tryz.isAgg33 w, fun w => Tryz.sizeOf33 w⟩
instance : Zr Tryz.prog 33 [.nilFunc] := ⟨_, fun w => Tryz.zeroValue33 w, rfl⟩
instance : Sc Tryz.prog 34 := ⟨fun w => Tryz.isAgg34 w, fun w => Tryz.sizeOf34 w⟩
instance : Zr Tryz.prog 34 [.nilFunc] := ⟨_, fun w => Tryz.zeroValue34 w, rfl⟩
instance : Sc Tryz.prog 35 := ⟨fun w => Tryz.isAgg35 w, fun w => Tryz.sizeOf35 w⟩
instance : Zr Tryz.prog 35 [.nilFunc] := ⟨_, fun w => Tryz.zeroValue35 w, rfl⟩
instance : Sc Tryz.prog 36 := ⟨fun w => Tryz.isAgg36 w, fun w => Tryz.sizeOf36 w⟩
instance : Zr Tryz.prog 36 [.nilFunc] := ⟨_, fun w => Tryz.zeroValue36 w, rfl⟩
instance : Sc Tryz.prog 37 := ⟨fun w => Tryz.isAgg37 w, fun w => Tryz.sizeOf37 w⟩
instance : Zr Tryz.prog 37 [.nilFunc] := ⟨_, fun w => Tryz.zeroValue37 w, rfl⟩
instance : Sc Tryz.prog 38 := ⟨fun w => Tryz.isAgg38 w, fun w => Tryz.sizeOf38 w⟩
instance : Zr Tryz.prog 38 [.nilFunc] := ⟨_, fun w => Tryz.zeroValue38 w, rfl⟩
instance : Sc Tryz.prog 39 := ⟨fun w => Tryz.isAgg39 w, fun w => Tryz.sizeOf39 w⟩
instance : Zr Tryz.prog 39 [(.slice none 0 0)] := ⟨_, fun w => Tryz.zeroValue39 w, rfl⟩
instance : Sl Tryz.prog 39 1 16 := ⟨9, Tryz.t9, _, Tryz.underlying39, by kernel_rfl, rfl, rfl, rfl, rfl, by decide⟩
instance : SlZ Tryz.prog 39 [(.string ByteArray.empty)] := ⟨fun {e i z} h1 h2 h3 => by
  rw [Tryz.underlying39] at h1; cases h1
  rw [show Tryz.prog.info? 9 = some Tryz.t9 by kernel_rfl] at h2; cases h2; cases h3; rfl⟩
instance : Sc Tryz.prog 40 := ⟨fun w => Tryz.isAgg40 w, fun w => Tryz.sizeOf40 w⟩
instance : Zr Tryz.prog 40 [.nilFunc] := ⟨_, fun w => Tryz.zeroValue40 w, rfl⟩
instance : Sc Tryz.prog 42 := ⟨fun w => Tryz.isAgg42 w, fun w => Tryz.sizeOf42 w⟩
instance : Zr Tryz.prog 42 [.nilFunc] := ⟨_, fun w => Tryz.zeroValue42 w, rfl⟩
instance : Sc Tryz.prog 44 := ⟨fun w => Tryz.isAgg44 w, fun w => Tryz.sizeOf44 w⟩
instance : Zr Tryz.prog 44 [.nilFunc] := ⟨_, fun w => Tryz.zeroValue44 w, rfl⟩
instance : Sc Tryz.prog 45 := ⟨fun w => Tryz.isAgg45 w, fun w => Tryz.sizeOf45 w⟩
instance : Zr Tryz.prog 45 [.nilFunc] := ⟨_, fun w => Tryz.zeroValue45 w, rfl⟩
instance : Sc Tryz.prog 46 := ⟨fun w => Tryz.isAgg46 w, fun w => Tryz.sizeOf46 w⟩
instance : Zr Tryz.prog 46 [.nilFunc] := ⟨_, fun w => Tryz.zeroValue46 w, rfl⟩
instance : Sc Tryz.prog 47 := ⟨fun w => Tryz.isAgg47 w, fun w => Tryz.sizeOf47 w⟩
instance : Zr Tryz.prog 47 [.nilFunc] := ⟨_, fun w => Tryz.zeroValue47 w, rfl⟩
instance : Sc Tryz.prog 48 := ⟨fun w => Tryz.isAgg48 w, fun w => Tryz.sizeOf48 w⟩
instance : Zr Tryz.prog 48 [.nilFunc] := ⟨_, fun w => Tryz.zeroValue48 w, rfl⟩
instance : Sc Tryz.prog 49 := ⟨fun w => Tryz.isAgg49 w, fun w => Tryz.sizeOf49 w⟩
instance : Zr Tryz.prog 49 [.nilFunc] := ⟨_, fun w => Tryz.zeroValue49 w, rfl⟩
instance : Sc Tryz.prog 50 := ⟨fun w => Tryz.isAgg50 w, fun w => Tryz.sizeOf50 w⟩
instance : Zr Tryz.prog 50 [.nilFunc] := ⟨_, fun w => Tryz.zeroValue50 w, rfl⟩
instance : Sc Tryz.prog 51 := ⟨fun w => Tryz.isAgg51 w, fun w => Tryz.sizeOf51 w⟩
instance : Zr Tryz.prog 51 [.nilFunc] := ⟨_, fun w => Tryz.zeroValue51 w, rfl⟩
instance : Sc Tryz.prog 52 := ⟨fun w => Tryz.isAgg52 w, fun w => Tryz.sizeOf52 w⟩
instance : Zr Tryz.prog 52 [.nilFunc] := ⟨_, fun w => Tryz.zeroValue52 w, rfl⟩
instance : Sc Tryz.prog 53 := ⟨fun w => Tryz.isAgg53 w, fun w => Tryz.sizeOf53 w⟩
instance : Zr Tryz.prog 53 [.nilFunc] := ⟨_, fun w => Tryz.zeroValue53 w, rfl⟩
instance : Sc Tryz.prog 55 := ⟨fun w => Tryz.isAgg55 w, fun w => Tryz.sizeOf55 w⟩
instance : Zr Tryz.prog 55 [.nilFunc] := ⟨_, fun w => Tryz.zeroValue55 w, rfl⟩
instance : Sc Tryz.prog 56 := ⟨fun w => Tryz.isAgg56 w, fun w => Tryz.sizeOf56 w⟩
instance : Zr Tryz.prog 56 [.nilFunc] := ⟨_, fun w => Tryz.zeroValue56 w, rfl⟩
instance : Sc Tryz.prog 57 := ⟨fun w => Tryz.isAgg57 w, fun w => Tryz.sizeOf57 w⟩
instance : Zr Tryz.prog 57 [.nilFunc] := ⟨_, fun w => Tryz.zeroValue57 w, rfl⟩
instance : Sc Tryz.prog 58 := ⟨fun w => Tryz.isAgg58 w, fun w => Tryz.sizeOf58 w⟩
instance : Zr Tryz.prog 58 [.nilFunc] := ⟨_, fun w => Tryz.zeroValue58 w, rfl⟩
instance : Sc Tryz.prog 59 := ⟨fun w => Tryz.isAgg59 w, fun w => Tryz.sizeOf59 w⟩
instance : Zr Tryz.prog 59 [.nilFunc] := ⟨_, fun w => Tryz.zeroValue59 w, rfl⟩
instance : Sc Tryz.prog 60 := ⟨fun w => Tryz.isAgg60 w, fun w => Tryz.sizeOf60 w⟩
instance : Zr Tryz.prog 60 [.nilFunc] := ⟨_, fun w => Tryz.zeroValue60 w, rfl⟩
instance : Sc Tryz.prog 61 := ⟨fun w => Tryz.isAgg61 w, fun w => Tryz.sizeOf61 w⟩
instance : Zr Tryz.prog 61 [.nilFunc] := ⟨_, fun w => Tryz.zeroValue61 w, rfl⟩
instance : Sc Tryz.prog 62 := ⟨fun w => Tryz.isAgg62 w, fun w => Tryz.sizeOf62 w⟩
instance : Zr Tryz.prog 62 [.nilFunc] := ⟨_, fun w => Tryz.zeroValue62 w, rfl⟩
instance : Sc Tryz.prog 63 := ⟨fun w => Tryz.isAgg63 w, fun w => Tryz.sizeOf63 w⟩
instance : Zr Tryz.prog 63 [.nilFunc] := ⟨_, fun w => Tryz.zeroValue63 w, rfl⟩
instance : Sc Tryz.prog 64 := ⟨fun w => Tryz.isAgg64 w, fun w => Tryz.sizeOf64 w⟩
instance : Zr Tryz.prog 64 [.nilFunc] := ⟨_, fun w => Tryz.zeroValue64 w, rfl⟩
instance : Sc Tryz.prog 65 := ⟨fun w => Tryz.isAgg65 w, fun w => Tryz.sizeOf65 w⟩
instance : Zr Tryz.prog 65 [.nilFunc] := ⟨_, fun w => Tryz.zeroValue65 w, rfl⟩
instance : Sc Tryz.prog 66 := ⟨fun w => Tryz.isAgg66 w, fun w => Tryz.sizeOf66 w⟩
instance : Zr Tryz.prog 66 [.nilFunc] := ⟨_, fun w => Tryz.zeroValue66 w, rfl⟩
instance : Sc Tryz.prog 67 := ⟨fun w => Tryz.isAgg67 w, fun w => Tryz.sizeOf67 w⟩
instance : Zr Tryz.prog 67 [.nilFunc] := ⟨_, fun w => Tryz.zeroValue67 w, rfl⟩
instance : Sc Tryz.prog 68 := ⟨fun w => Tryz.isAgg68 w, fun w => Tryz.sizeOf68 w⟩
instance : Zr Tryz.prog 68 [.nilFunc] := ⟨_, fun w => Tryz.zeroValue68 w, rfl⟩
instance : Sc Tryz.prog 69 := ⟨fun w => Tryz.isAgg69 w, fun w => Tryz.sizeOf69 w⟩
instance : Zr Tryz.prog 69 [.nilFunc] := ⟨_, fun w => Tryz.zeroValue69 w, rfl⟩
instance : Sc Tryz.prog 70 := ⟨fun w => Tryz.isAgg70 w, fun w => Tryz.sizeOf70 w⟩
instance : Zr Tryz.prog 70 [.nilFunc] := ⟨_, fun w => Tryz.zeroValue70 w, rfl⟩
instance : Sc Tryz.prog 71 := ⟨fun w => Tryz.isAgg71 w, fun w => Tryz.sizeOf71 w⟩
instance : Zr Tryz.prog 71 [.nilFunc] := ⟨_, fun w => Tryz.zeroValue71 w, rfl⟩
instance : Sc Tryz.prog 72 := ⟨fun w => Tryz.isAgg72 w, fun w => Tryz.sizeOf72 w⟩
instance : Zr Tryz.prog 72 [.nilFunc] := ⟨_, fun w => Tryz.zeroValue72 w, rfl⟩
instance : Sc Tryz.prog 73 := ⟨fun w => Tryz.isAgg73 w, fun w => Tryz.sizeOf73 w⟩
instance : Zr Tryz.prog 73 [.nilFunc] := ⟨_, fun w => Tryz.zeroValue73 w, rfl⟩
instance : Sc Tryz.prog 74 := ⟨fun w => Tryz.isAgg74 w, fun w => Tryz.sizeOf74 w⟩
instance : Zr Tryz.prog 74 [.nilFunc] := ⟨_, fun w => Tryz.zeroValue74 w, rfl⟩
instance : Sc Tryz.prog 75 := ⟨fun w => Tryz.isAgg75 w, fun w => Tryz.sizeOf75 w⟩
instance : Zr Tryz.prog 75 [.nilFunc] := ⟨_, fun w => Tryz.zeroValue75 w, rfl⟩
instance : Sc Tryz.prog 76 := ⟨fun w => Tryz.isAgg76 w, fun w => Tryz.sizeOf76 w⟩
instance : Zr Tryz.prog 76 [.nilFunc] := ⟨_, fun w => Tryz.zeroValue76 w, rfl⟩
instance : Sc Tryz.prog 77 := ⟨fun w => Tryz.isAgg77 w, fun w => Tryz.sizeOf77 w⟩
instance : Zr Tryz.prog 77 [.nilIface] := ⟨_, fun w => Tryz.zeroValue77 w, rfl⟩
instance : Sc Tryz.prog 78 := ⟨fun w => Tryz.isAgg78 w, fun w => Tryz.sizeOf78 w⟩
instance : Zr Tryz.prog 78 [.nilIface] := ⟨_, fun w => Tryz.zeroValue78 w, rfl⟩
instance : Sc Tryz.prog 80 := ⟨fun w => Tryz.isAgg80 w, fun w => Tryz.sizeOf80 w⟩
instance : Zr Tryz.prog 80 [.nilFunc] := ⟨_, fun w => Tryz.zeroValue80 w, rfl⟩
instance : Sc Tryz.prog 81 := ⟨fun w => Tryz.isAgg81 w, fun w => Tryz.sizeOf81 w⟩
instance : Zr Tryz.prog 81 [.nilFunc] := ⟨_, fun w => Tryz.zeroValue81 w, rfl⟩
instance : Sc Tryz.prog 82 := ⟨fun w => Tryz.isAgg82 w, fun w => Tryz.sizeOf82 w⟩
instance : Zr Tryz.prog 82 [.nilFunc] := ⟨_, fun w => Tryz.zeroValue82 w, rfl⟩
instance : Sc Tryz.prog 83 := ⟨fun w => Tryz.isAgg83 w, fun w => Tryz.sizeOf83 w⟩
instance : Zr Tryz.prog 83 [.nilFunc] := ⟨_, fun w => Tryz.zeroValue83 w, rfl⟩
instance : Sc Tryz.prog 84 := ⟨fun w => Tryz.isAgg84 w, fun w => Tryz.sizeOf84 w⟩
instance : Zr Tryz.prog 84 [.nilFunc] := ⟨_, fun w => Tryz.zeroValue84 w, rfl⟩
instance : Sc Tryz.prog 86 := ⟨fun w => Tryz.isAgg86 w, fun w => Tryz.sizeOf86 w⟩
instance : Zr Tryz.prog 86 [.nilFunc] := ⟨_, fun w => Tryz.zeroValue86 w, rfl⟩
instance : Sc Tryz.prog 87 := ⟨fun w => Tryz.isAgg87 w, fun w => Tryz.sizeOf87 w⟩
instance : Zr Tryz.prog 87 [.nilFunc] := ⟨_, fun w => Tryz.zeroValue87 w, rfl⟩
instance : Sc Tryz.prog 88 := ⟨fun w => Tryz.isAgg88 w, fun w => Tryz.sizeOf88 w⟩
instance : Zr Tryz.prog 88 [.nilFunc] := ⟨_, fun w => Tryz.zeroValue88 w, rfl⟩
instance : Sc Tryz.prog 89 := ⟨fun w => Tryz.isAgg89 w, fun w => Tryz.sizeOf89 w⟩
instance : Zr Tryz.prog 89 [.nilFunc] := ⟨_, fun w => Tryz.zeroValue89 w, rfl⟩
instance : Sc Tryz.prog 90 := ⟨fun w => Tryz.isAgg90 w, fun w => Tryz.sizeOf90 w⟩
instance : Zr Tryz.prog 90 [.nilFunc] := ⟨_, fun w => Tryz.zeroValue90 w, rfl⟩
instance : Sc Tryz.prog 91 := ⟨fun w => Tryz.isAgg91 w, fun w => Tryz.sizeOf91 w⟩
instance : Zr Tryz.prog 91 [.nilFunc] := ⟨_, fun w => Tryz.zeroValue91 w, rfl⟩
instance : Sc Tryz.prog 92 := ⟨fun w => Tryz.isAgg92 w, fun w => Tryz.sizeOf92 w⟩
instance : Zr Tryz.prog 92 [.nilFunc] := ⟨_, fun w => Tryz.zeroValue92 w, rfl⟩
instance : Sc Tryz.prog 93 := ⟨fun w => Tryz.isAgg93 w, fun w => Tryz.sizeOf93 w⟩
instance : Zr Tryz.prog 93 [(.pointer none)] := ⟨_, fun w => Tryz.zeroValue93 w, rfl⟩
instance : Sc Tryz.prog 94 := ⟨fun w => Tryz.isAgg94 w, fun w => Tryz.sizeOf94 w⟩
instance : Zr Tryz.prog 94 [(.slice none 0 0)] := ⟨_, fun w => Tryz.zeroValue94 w, rfl⟩
instance : Sl Tryz.prog 94 1 1 := ⟨5, Tryz.t5, _, Tryz.underlying94, by kernel_rfl, rfl, rfl, rfl, rfl, by decide⟩
instance : SlZ Tryz.prog 94 [(.int .u8 (0))] := ⟨fun {e i z} h1 h2 h3 => by
  rw [Tryz.underlying94] at h1; cases h1
  rw [show Tryz.prog.info? 5 = some Tryz.t5 by kernel_rfl] at h2; cases h2; cases h3; rfl⟩
instance : Ag Tryz.prog 95 2 := ⟨fun w => Tryz.isAgg95 w, fun w => Tryz.sizeOf95 w⟩
instance : Zr Tryz.prog 95 [(.pointer none), (.slice none 0 0)] := ⟨_, fun w => Tryz.zeroValue95 w, rfl⟩
instance : Fo Tryz.prog 95 0 0 := ⟨fun w a => by simp [Instr.fieldAt, Instr.sureAddr, fieldPlace]⟩
instance : Fo Tryz.prog 95 1 1 := ⟨fun w a => by simp [Instr.fieldAt, Instr.sureAddr, fieldPlace]⟩
instance : StT Tryz.prog 95 [(0, 1), (1, 1)] [(.pointer none), (.slice none 0 0)] := ⟨_, Tryz.t95, _, Tryz.underlying95, by kernel_rfl, by kernel_rfl, rfl, rfl⟩
instance : Ag Tryz.prog 96 2 := ⟨fun w => Tryz.isAgg96 w, fun w => Tryz.sizeOf96 w⟩
instance : Zr Tryz.prog 96 [(.pointer none), (.slice none 0 0)] := ⟨_, fun w => Tryz.zeroValue96 w, rfl⟩
instance : Fo Tryz.prog 96 0 0 := ⟨fun w a => by simp [Instr.fieldAt, Instr.sureAddr, fieldPlace]⟩
instance : Fo Tryz.prog 96 1 1 := ⟨fun w a => by simp [Instr.fieldAt, Instr.sureAddr, fieldPlace]⟩
instance : StT Tryz.prog 96 [(0, 1), (1, 1)] [(.pointer none), (.slice none 0 0)] := ⟨_, Tryz.t96, _, Tryz.underlying96, by kernel_rfl, by kernel_rfl, rfl, rfl⟩
instance : Sc Tryz.prog 97 := ⟨fun w => Tryz.isAgg97 w, fun w => Tryz.sizeOf97 w⟩
instance : Zr Tryz.prog 97 [.nilFunc] := ⟨_, fun w => Tryz.zeroValue97 w, rfl⟩
instance : Sc Tryz.prog 98 := ⟨fun w => Tryz.isAgg98 w, fun w => Tryz.sizeOf98 w⟩
instance : Zr Tryz.prog 98 [.nilFunc] := ⟨_, fun w => Tryz.zeroValue98 w, rfl⟩
instance : Sc Tryz.prog 99 := ⟨fun w => Tryz.isAgg99 w, fun w => Tryz.sizeOf99 w⟩
instance : Zr Tryz.prog 99 [.nilFunc] := ⟨_, fun w => Tryz.zeroValue99 w, rfl⟩
instance : Sc Tryz.prog 100 := ⟨fun w => Tryz.isAgg100 w, fun w => Tryz.sizeOf100 w⟩
instance : Zr Tryz.prog 100 [(.int .u64 (0))] := ⟨_, fun w => Tryz.zeroValue100 w, rfl⟩
instance : Sc Tryz.prog 101 := ⟨fun w => Tryz.isAgg101 w, fun w => Tryz.sizeOf101 w⟩
instance : Zr Tryz.prog 101 [(.int .i64 (0))] := ⟨_, fun w => Tryz.zeroValue101 w, rfl⟩
instance : I64T Tryz.prog 101 := ⟨Tryz.underlying101⟩
instance : Sc Tryz.prog 102 := ⟨fun w => Tryz.isAgg102 w, fun w => Tryz.sizeOf102 w⟩
instance : Zr Tryz.prog 102 [(.int .u64 (0))] := ⟨_, fun w => Tryz.zeroValue102 w, rfl⟩
instance : Sc Tryz.prog 104 := ⟨fun w => Tryz.isAgg104 w, fun w => Tryz.sizeOf104 w⟩
instance : Zr Tryz.prog 104 [.nilFunc] := ⟨_, fun w => Tryz.zeroValue104 w, rfl⟩
instance : Sc Tryz.prog 105 := ⟨fun w => Tryz.isAgg105 w, fun w => Tryz.sizeOf105 w⟩
instance : Zr Tryz.prog 105 [(.pointer none)] := ⟨_, fun w => Tryz.zeroValue105 w, rfl⟩
instance : Sc Tryz.prog 106 := ⟨fun w => Tryz.isAgg106 w, fun w => Tryz.sizeOf106 w⟩
instance : Zr Tryz.prog 106 [.nilFunc] := ⟨_, fun w => Tryz.zeroValue106 w, rfl⟩
instance : Sc Tryz.prog 107 := ⟨fun w => Tryz.isAgg107 w, fun w => Tryz.sizeOf107 w⟩
instance : Zr Tryz.prog 107 [.nilFunc] := ⟨_, fun w => Tryz.zeroValue107 w, rfl⟩
instance : Ag Tryz.prog 108 3 := ⟨fun w => Tryz.isAgg108 w, fun w => Tryz.sizeOf108 w⟩
instance : Zr Tryz.prog 108 [(.slice none 0 0), (.slice none 0 0), (.int .i64 (0))] := ⟨_, fun w => Tryz.zeroValue108 w, rfl⟩
instance : Fo Tryz.prog 108 0 0 := ⟨fun w a => by simp [Instr.fieldAt, Instr.sureAddr, fieldPlace]⟩
instance : Fo Tryz.prog 108 1 1 := ⟨fun w a => by simp [Instr.fieldAt, Instr.sureAddr, fieldPlace]⟩
instance : Fo Tryz.prog 108 2 2 := ⟨fun w a => by simp [Instr.fieldAt, Instr.sureAddr, fieldPlace]⟩
instance : StT Tryz.prog 108 [(0, 1), (1, 1), (2, 1)] [(.slice none 0 0), (.slice none 0 0), (.int .i64 (0))] := ⟨_, Tryz.t108, _, Tryz.underlying108, by kernel_rfl, by kernel_rfl, rfl, rfl⟩
instance : Ag Tryz.prog 109 3 := ⟨fun w => Tryz.isAgg109 w, fun w => Tryz.sizeOf109 w⟩
instance : Zr Tryz.prog 109 [(.slice none 0 0), (.slice none 0 0), (.int .i64 (0))] := ⟨_, fun w => Tryz.zeroValue109 w, rfl⟩
instance : Fo Tryz.prog 109 0 0 := ⟨fun w a => by simp [Instr.fieldAt, Instr.sureAddr, fieldPlace]⟩
instance : Fo Tryz.prog 109 1 1 := ⟨fun w a => by simp [Instr.fieldAt, Instr.sureAddr, fieldPlace]⟩
instance : Fo Tryz.prog 109 2 2 := ⟨fun w a => by simp [Instr.fieldAt, Instr.sureAddr, fieldPlace]⟩
instance : StT Tryz.prog 109 [(0, 1), (1, 1), (2, 1)] [(.slice none 0 0), (.slice none 0 0), (.int .i64 (0))] := ⟨_, Tryz.t109, _, Tryz.underlying109, by kernel_rfl, by kernel_rfl, rfl, rfl⟩
instance : Sc Tryz.prog 110 := ⟨fun w => Tryz.isAgg110 w, fun w => Tryz.sizeOf110 w⟩
instance : Zr Tryz.prog 110 [.nilFunc] := ⟨_, fun w => Tryz.zeroValue110 w, rfl⟩
instance : Sc Tryz.prog 112 := ⟨fun w => Tryz.isAgg112 w, fun w => Tryz.sizeOf112 w⟩
instance : Zr Tryz.prog 112 [.nilFunc] := ⟨_, fun w => Tryz.zeroValue112 w, rfl⟩
instance : Sc Tryz.prog 113 := ⟨fun w => Tryz.isAgg113 w, fun w => Tryz.sizeOf113 w⟩
instance : Zr Tryz.prog 113 [.nilFunc] := ⟨_, fun w => Tryz.zeroValue113 w, rfl⟩
instance : Sc Tryz.prog 114 := ⟨fun w => Tryz.isAgg114 w, fun w => Tryz.sizeOf114 w⟩
instance : Zr Tryz.prog 114 [(.pointer none)] := ⟨_, fun w => Tryz.zeroValue114 w, rfl⟩
instance : Ag Tryz.prog 116 2 := ⟨fun w => Tryz.isAgg116 w, fun w => Tryz.sizeOf116 w⟩
instance : Zr Tryz.prog 116 [(.int .u8 (0)), (.int .u8 (0))] := ⟨_, fun w => Tryz.zeroValue116 w, rfl⟩
instance : Fo Tryz.prog 116 0 0 := ⟨fun w a => by simp [Instr.fieldAt, Instr.sureAddr, fieldPlace]⟩
instance : Fo Tryz.prog 116 1 1 := ⟨fun w a => by simp [Instr.fieldAt, Instr.sureAddr, fieldPlace]⟩
instance : StT Tryz.prog 116 [(0, 1), (1, 1)] [(.int .u8 (0)), (.int .u8 (0))] := ⟨_, Tryz.t116, _, Tryz.underlying116, by kernel_rfl, by kernel_rfl, rfl, rfl⟩
instance : Ag Tryz.prog 117 2 := ⟨fun w => Tryz.isAgg117 w, fun w => Tryz.sizeOf117 w⟩
instance : Zr Tryz.prog 117 [(.int .u8 (0)), (.int .u8 (0))] := ⟨_, fun w => Tryz.zeroValue117 w, rfl⟩
instance : Fo Tryz.prog 117 0 0 := ⟨fun w a => by simp [Instr.fieldAt, Instr.sureAddr, fieldPlace]⟩
instance : Fo Tryz.prog 117 1 1 := ⟨fun w a => by simp [Instr.fieldAt, Instr.sureAddr, fieldPlace]⟩
instance : StT Tryz.prog 117 [(0, 1), (1, 1)] [(.int .u8 (0)), (.int .u8 (0))] := ⟨_, Tryz.t117, _, Tryz.underlying117, by kernel_rfl, by kernel_rfl, rfl, rfl⟩
instance : Ag Tryz.prog 118 32 := ⟨fun w => Tryz.isAgg118 w, fun w => Tryz.sizeOf118 w⟩
instance : Zr Tryz.prog 118 [(.int .u8 (0)), (.int .u8 (0)), (.int .u8 (0)), (.int .u8 (0)), (.int .u8 (0)), (.int .u8 (0)), (.int .u8 (0)), (.int .u8 (0)), (.int .u8 (0)), (.int .u8 (0)), (.int .u8 (0)), (.int .u8 (0)), (.int .u8 (0)), (.int .u8 (0)), (.int .u8 (0)), (.int .u8 (0)), (.int .u8 (0)), (.int .u8 (0)), (.int .u8 (0)), (.int .u8 (0)), (.int .u8 (0)), (.int .u8 (0)), (.int .u8 (0)), (.int .u8 (0)), (.int .u8 (0)), (.int .u8 (0)), (.int .u8 (0)), (.int .u8 (0)), (.int .u8 (0)), (.int .u8 (0)), (.int .u8 (0)), (.int .u8 (0))] := ⟨_, fun w => Tryz.zeroValue118 w, rfl⟩
instance : Sc Tryz.prog 119 := ⟨fun w => Tryz.isAgg119 w, fun w => Tryz.sizeOf119 w⟩
instance : Zr Tryz.prog 119 [(.int .u32 (0))] := ⟨_, fun w => Tryz.zeroValue119 w, rfl⟩
instance : Sc Tryz.prog 121 := ⟨fun w => Tryz.isAgg121 w, fun w => Tryz.sizeOf121 w⟩
instance : Zr Tryz.prog 121 [.nilFunc] := ⟨_, fun w => Tryz.zeroValue121 w, rfl⟩
instance : Sc Tryz.prog 122 := ⟨fun w => Tryz.isAgg122 w, fun w => Tryz.sizeOf122 w⟩
instance : Zr Tryz.prog 122 [.nilFunc] := ⟨_, fun w => Tryz.zeroValue122 w, rfl⟩
instance : Sc Tryz.prog 123 := ⟨fun w => Tryz.isAgg123 w, fun w => Tryz.sizeOf123 w⟩
instance : Zr Tryz.prog 123 [.nilFunc] := ⟨_, fun w => Tryz.zeroValue123 w, rfl⟩
instance : Ag Tryz.prog 124 3 := ⟨fun w => Tryz.isAgg124 w, fun w => Tryz.sizeOf124 w⟩
instance : Zr Tryz.prog 124 [(.string ByteArray.empty), (.string ByteArray.empty), .nilIface] := ⟨_, fun w => Tryz.zeroValue124 w, rfl⟩
instance : Fo Tryz.prog 124 0 0 := ⟨fun w a => by simp [Instr.fieldAt, Instr.sureAddr, fieldPlace]⟩
instance : Fo Tryz.prog 124 1 1 := ⟨fun w a => by simp [Instr.fieldAt, Instr.sureAddr, fieldPlace]⟩
instance : Fo Tryz.prog 124 2 2 := ⟨fun w a => by simp [Instr.fieldAt, Instr.sureAddr, fieldPlace]⟩
instance : StT Tryz.prog 124 [(0, 1), (1, 1), (2, 1)] [(.string ByteArray.empty), (.string ByteArray.empty), .nilIface] := ⟨_, Tryz.t124, _, Tryz.underlying124, by kernel_rfl, by kernel_rfl, rfl, rfl⟩
instance : Ag Tryz.prog 125 3 := ⟨fun w => Tryz.isAgg125 w, fun w => Tryz.sizeOf125 w⟩
instance : Zr Tryz.prog 125 [(.string ByteArray.empty), (.string ByteArray.empty), .nilIface] := ⟨_, fun w => Tryz.zeroValue125 w, rfl⟩
instance : Fo Tryz.prog 125 0 0 := ⟨fun w a => by simp [Instr.fieldAt, Instr.sureAddr, fieldPlace]⟩
instance : Fo Tryz.prog 125 1 1 := ⟨fun w a => by simp [Instr.fieldAt, Instr.sureAddr, fieldPlace]⟩
instance : Fo Tryz.prog 125 2 2 := ⟨fun w a => by simp [Instr.fieldAt, Instr.sureAddr, fieldPlace]⟩
instance : StT Tryz.prog 125 [(0, 1), (1, 1), (2, 1)] [(.string ByteArray.empty), (.string ByteArray.empty), .nilIface] := ⟨_, Tryz.t125, _, Tryz.underlying125, by kernel_rfl, by kernel_rfl, rfl, rfl⟩
instance : Sc Tryz.prog 126 := ⟨fun w => Tryz.isAgg126 w, fun w => Tryz.sizeOf126 w⟩
instance : Zr Tryz.prog 126 [.nilFunc] := ⟨_, fun w => Tryz.zeroValue126 w, rfl⟩
instance : Sc Tryz.prog 127 := ⟨fun w => Tryz.isAgg127 w, fun w => Tryz.sizeOf127 w⟩
instance : Zr Tryz.prog 127 [.nilFunc] := ⟨_, fun w => Tryz.zeroValue127 w, rfl⟩
instance : Ag Tryz.prog 128 24 := ⟨fun w => Tryz.isAgg128 w, fun w => Tryz.sizeOf128 w⟩
instance : Zr Tryz.prog 128 [(.int .u8 (0)), (.int .u8 (0)), (.int .u8 (0)), (.int .u8 (0)), (.int .u8 (0)), (.int .u8 (0)), (.int .u8 (0)), (.int .u8 (0)), (.int .u8 (0)), (.int .u8 (0)), (.int .u8 (0)), (.int .u8 (0)), (.int .u8 (0)), (.int .u8 (0)), (.int .u8 (0)), (.int .u8 (0)), (.int .u8 (0)), (.int .u8 (0)), (.int .u8 (0)), (.int .u8 (0)), (.int .u8 (0)), (.int .u8 (0)), (.int .u8 (0)), (.int .u8 (0))] := ⟨_, fun w => Tryz.zeroValue128 w, rfl⟩
instance : ArT Tryz.prog 128 24 := ⟨_, Tryz.t5, Tryz.underlying128, by kernel_rfl, rfl, by decide⟩
instance : Sc Tryz.prog 129 := ⟨fun w => Tryz.isAgg129 w, fun w => Tryz.sizeOf129 w⟩
instance : Zr Tryz.prog 129 [.nilFunc] := ⟨_, fun w => Tryz.zeroValue129 w, rfl⟩
instance : Sc Tryz.prog 130 := ⟨fun w => Tryz.isAgg130 w, fun w => Tryz.sizeOf130 w⟩
instance : Zr Tryz.prog 130 [.nilFunc] := ⟨_, fun w => Tryz.zeroValue130 w, rfl⟩
instance : Sc Tryz.prog 132 := ⟨fun w => Tryz.isAgg132 w, fun w => Tryz.sizeOf132 w⟩
instance : Zr Tryz.prog 132 [.nilFunc] := ⟨_, fun w => Tryz.zeroValue132 w, rfl⟩
instance : Sc Tryz.prog 133 := ⟨fun w => Tryz.isAgg133 w, fun w => Tryz.sizeOf133 w⟩
instance : Zr Tryz.prog 133 [(.pointer none)] := ⟨_, fun w => Tryz.zeroValue133 w, rfl⟩
instance : Sc Tryz.prog 134 := ⟨fun w => Tryz.isAgg134 w, fun w => Tryz.sizeOf134 w⟩
instance : Zr Tryz.prog 134 [.nilFunc] := ⟨_, fun w => Tryz.zeroValue134 w, rfl⟩
instance : Sc Tryz.prog 135 := ⟨fun w => Tryz.isAgg135 w, fun w => Tryz.sizeOf135 w⟩
instance : Zr Tryz.prog 135 [(.pointer none)] := ⟨_, fun w => Tryz.zeroValue135 w, rfl⟩
instance : Ag Tryz.prog 136 1 := ⟨fun w => Tryz.isAgg136 w, fun w => Tryz.sizeOf136 w⟩
instance : Zr Tryz.prog 136 [(.string ByteArray.empty)] := ⟨_, fun w => Tryz.zeroValue136 w, rfl⟩
instance : Fo Tryz.prog 136 0 0 := ⟨fun w a => by simp [Instr.fieldAt, Instr.sureAddr, fieldPlace]⟩
instance : StT Tryz.prog 136 [(0, 1)] [(.string ByteArray.empty)] := ⟨_, Tryz.t136, _, Tryz.underlying136, by kernel_rfl, by kernel_rfl, rfl, rfl⟩
instance : Ag Tryz.prog 137 1 := ⟨fun w => Tryz.isAgg137 w, fun w => Tryz.sizeOf137 w⟩
instance : Zr Tryz.prog 137 [(.string ByteArray.empty)] := ⟨_, fun w => Tryz.zeroValue137 w, rfl⟩
instance : Fo Tryz.prog 137 0 0 := ⟨fun w a => by simp [Instr.fieldAt, Instr.sureAddr, fieldPlace]⟩
instance : StT Tryz.prog 137 [(0, 1)] [(.string ByteArray.empty)] := ⟨_, Tryz.t137, _, Tryz.underlying137, by kernel_rfl, by kernel_rfl, rfl, rfl⟩
instance : Sc Tryz.prog 138 := ⟨fun w => Tryz.isAgg138 w, fun w => Tryz.sizeOf138 w⟩
instance : Zr Tryz.prog 138 [.nilFunc] := ⟨_, fun w => Tryz.zeroValue138 w, rfl⟩
instance : Ag Tryz.prog 139 20 := ⟨fun w => Tryz.isAgg139 w, fun w => Tryz.sizeOf139 w⟩
instance : Zr Tryz.prog 139 [(.int .u64 (0)), (.int .u64 (0)), (.int .u64 (0)), (.int .u64 (0)), (.int .u64 (0)), (.int .u64 (0)), (.int .u64 (0)), (.int .u64 (0)), (.int .u64 (0)), (.int .u64 (0)), (.int .u64 (0)), (.int .u64 (0)), (.int .u64 (0)), (.int .u64 (0)), (.int .u64 (0)), (.int .u64 (0)), (.int .u64 (0)), (.int .u64 (0)), (.int .u64 (0)), (.int .u64 (0))] := ⟨_, fun w => Tryz.zeroValue139 w, rfl⟩
instance : ArT Tryz.prog 139 20 := ⟨_, Tryz.t102, Tryz.underlying139, by kernel_rfl, rfl, by decide⟩
instance : Sc Tryz.prog 141 := ⟨fun w => Tryz.isAgg141 w, fun w => Tryz.sizeOf141 w⟩
instance : Zr Tryz.prog 141 [.nilFunc] := ⟨_, fun w => Tryz.zeroValue141 w, rfl⟩
instance : Sc Tryz.prog 142 := ⟨fun w => Tryz.isAgg142 w, fun w => Tryz.sizeOf142 w⟩
instance : Zr Tryz.prog 142 [.nilFunc] := ⟨_, fun w => Tryz.zeroValue142 w, rfl⟩
instance : Sc Tryz.prog 143 := ⟨fun w => Tryz.isAgg143 w, fun w => Tryz.sizeOf143 w⟩
instance : Zr Tryz.prog 143 [.nilFunc] := ⟨_, fun w => Tryz.zeroValue143 w, rfl⟩
instance : Sc Tryz.prog 145 := ⟨fun w => Tryz.isAgg145 w, fun w => Tryz.sizeOf145 w⟩
instance : Zr Tryz.prog 145 [.nilFunc] := ⟨_, fun w => Tryz.zeroValue145 w, rfl⟩
instance : Sc Tryz.prog 146 := ⟨fun w => Tryz.isAgg146 w, fun w => Tryz.sizeOf146 w⟩
instance : Zr Tryz.prog 146 [.nilFunc] := ⟨_, fun w => Tryz.zeroValue146 w, rfl⟩
instance : Ag Tryz.prog 147 32 := ⟨fun w => Tryz.isAgg147 w, fun w => Tryz.sizeOf147 w⟩
instance : Zr Tryz.prog 147 [(.int .u8 (0)), (.int .u8 (0)), (.int .u8 (0)), (.int .u8 (0)), (.int .u8 (0)), (.int .u8 (0)), (.int .u8 (0)), (.int .u8 (0)), (.int .u8 (0)), (.int .u8 (0)), (.int .u8 (0)), (.int .u8 (0)), (.int .u8 (0)), (.int .u8 (0)), (.int .u8 (0)), (.int .u8 (0)), (.int .u8 (0)), (.int .u8 (0)), (.int .u8 (0)), (.int .u8 (0)), (.int .u8 (0)), (.int .u8 (0)), (.int .u8 (0)), (.int .u8 (0)), (.int .u8 (0)), (.int .u8 (0)), (.int .u8 (0)), (.int .u8 (0)), (.int .u8 (0)), (.int .u8 (0)), (.int .u8 (0)), (.int .u8 (0))] := ⟨_, fun w => Tryz.zeroValue147 w, rfl⟩
instance : ArT Tryz.prog 147 32 := ⟨_, Tryz.t5, Tryz.underlying147, by kernel_rfl, rfl, by decide⟩
instance : Ag Tryz.prog 148 64 := ⟨fun w => Tryz.isAgg148 w, fun w => Tryz.sizeOf148 w⟩
instance : Zr Tryz.prog 148 [(.int .u8 (0)), (.int .u8 (0)), (.int .u8 (0)), (.int .u8 (0)), (.int .u8 (0)), (.int .u8 (0)), (.int .u8 (0)), (.int .u8 (0)), (.int .u8 (0)), (.int .u8 (0)), (.int .u8 (0)), (.int .u8 (0)), (.int .u8 (0)), (.int .u8 (0)), (.int .u8 (0)), (.int .u8 (0)), (.int .u8 (0)), (.int .u8 (0)), (.int .u8 (0)), (.int .u8 (0)), (.int .u8 (0)), (.int .u8 (0)), (.int .u8 (0)), (.int .u8 (0)), (.int .u8 (0)), (.int .u8 (0)), (.int .u8 (0)), (.int .u8 (0)), (.int .u8 (0)), (.int .u8 (0)), (.int .u8 (0)), (.int .u8 (0)), (.int .u8 (0)), (.int .u8 (0)), (.int .u8 (0)), (.int .u8 (0)), (.int .u8 (0)), (.int .u8 (0)), (.int .u8 (0)), (.int .u8 (0)), (.int .u8 (0)), (.int .u8 (0)), (.int .u8 (0)), (.int .u8 (0)), (.int .u8 (0)), (.int .u8 (0)), (.int .u8 (0)), (.int .u8 (0)), (.int .u8 (0)), (.int .u8 (0)), (.int .u8 (0)), (.int .u8 (0)), (.int .u8 (0)), (.int .u8 (0)), (.int .u8 (0)), (.int .u8 (0)), (.int .u8 (0)), (.int .u8 (0)), (.int .u8 (0)), (.int .u8 (0)), (.int .u8 (0)), (.int .u8 (0)), (.int .u8 (0)), (.int .u8 (0))] := ⟨_, fun w => Tryz.zeroValue148 w, rfl⟩
instance : ArT Tryz.prog 148 64 := ⟨_, Tryz.t5, Tryz.underlying148, by kernel_rfl, rfl, by decide⟩
instance : Sc Tryz.prog 156 := ⟨fun w => Tryz.isAgg156 w, fun w => Tryz.sizeOf156 w⟩
instance : Zr Tryz.prog 156 [.nilFunc] := ⟨_, fun w => Tryz.zeroValue156 w, rfl⟩
instance : Sc Tryz.prog 161 := ⟨fun w => Tryz.isAgg161 w, fun w => Tryz.sizeOf161 w⟩
instance : Zr Tryz.prog 161 [.nilFunc] := ⟨_, fun w => Tryz.zeroValue161 w, rfl⟩
instance : Op_ Tryz.prog 2 (Int) repInt := op_int Tryz.underlying2 (by kernel_rfl)
instance : Op_ Tryz.prog 3 (Int) repInt := op_int Tryz.underlying3 (by kernel_rfl)
instance : Op_ Tryz.prog 4 (Bool) repBool := op_bool Tryz.underlying4 (by kernel_rfl)
instance : Op_ Tryz.prog 9 (ByteArray) repStr := op_str Tryz.underlying9 (by kernel_rfl)
instance : Op_ Tryz.prog 22 (List Int) repList := op_slice Tryz.underlying22 (by kernel_rfl) inferInstance
instance : Op_ Tryz.prog 23 (List Int) repList := op_struct Tryz.underlying23 (by kernel_rfl) (opF_one rfl inferInstance)
instance : Op_ Tryz.prog 24 (List Int) repList := op_struct Tryz.underlying24 (by kernel_rfl) (opF_one rfl inferInstance)
instance : Op_ Tryz.prog 26 (List (List Int)) repList := op_slice Tryz.underlying26 (by kernel_rfl) inferInstance
instance : Op_ Tryz.prog 27 (Int × List Int × List (List Int) × List Int) repProd := op_struct Tryz.underlying27 (by kernel_rfl) (opF_cons rfl inferInstance rfl (opF_cons rfl inferInstance rfl (opF_cons rfl inferInstance rfl (opF_one rfl inferInstance))))
instance : Op_ Tryz.prog 28 (Int × List Int × List (List Int) × List Int) repProd := op_struct Tryz.underlying28 (by kernel_rfl) (opF_cons rfl inferInstance rfl (opF_cons rfl inferInstance rfl (opF_cons rfl inferInstance rfl (opF_one rfl inferInstance))))
instance : Op_ Tryz.prog 31 (List Int) repList := op_struct Tryz.underlying31 (by kernel_rfl) (opF_one rfl inferInstance)
instance : Op_ Tryz.prog 39 (List ByteArray) repList := op_slice Tryz.underlying39 (by kernel_rfl) inferInstance
instance : Op_ Tryz.prog 101 (Int) repInt := op_int Tryz.underlying101 (by kernel_rfl)
instance : Op_ Tryz.prog 108 (List Int × List Int × Int) repProd := op_struct Tryz.underlying108 (by kernel_rfl) (opF_cons rfl inferInstance rfl (opF_cons rfl inferInstance rfl (opF_one rfl inferInstance)))
instance : Op_ Tryz.prog 109 (List Int × List Int × Int) repProd := op_struct Tryz.underlying109 (by kernel_rfl) (opF_cons rfl inferInstance rfl (opF_cons rfl inferInstance rfl (opF_one rfl inferInstance)))
instance : Op_ Tryz.prog 136 (ByteArray) repStr := op_struct Tryz.underlying136 (by kernel_rfl) (opF_one rfl inferInstance)
instance : Op_ Tryz.prog 137 (ByteArray) repStr := op_struct Tryz.underlying137 (by kernel_rfl) (opF_one rfl inferInstance)
instance : IsFn Tryz.prog 2 := isFn_of Tryz.func2 (by kernel_rfl) rfl
instance : IsFn Tryz.prog 3 := isFn_of Tryz.func3 (by kernel_rfl) rfl
instance : IsFn Tryz.prog 4 := isFn_of Tryz.func4 (by kernel_rfl) rfl
instance : IsFn Tryz.prog 5 := isFn_of Tryz.func5 (by kernel_rfl) rfl
instance : IsFn Tryz.prog 6 := isFn_of Tryz.func6 (by kernel_rfl) rfl
instance : IsFn Tryz.prog 7 := isFn_of Tryz.func7 (by kernel_rfl) rfl
instance : IsFn Tryz.prog 8 := isFn_of Tryz.func8 (by kernel_rfl) rfl
instance : IsFn Tryz.prog 9 := isFn_of Tryz.func9 (by kernel_rfl) rfl
instance : IsFn Tryz.prog 10 := isFn_of Tryz.func10 (by kernel_rfl) rfl
instance : IsFn Tryz.prog 11 := isFn_of Tryz.func11 (by kernel_rfl) rfl
instance : IsFn Tryz.prog 12 := isFn_of Tryz.func12 (by kernel_rfl) rfl
instance : IsFn Tryz.prog 13 := isFn_of Tryz.func13 (by kernel_rfl) rfl
instance : IsFn Tryz.prog 14 := isFn_of Tryz.func14 (by kernel_rfl) rfl
instance : IsFn Tryz.prog 15 := isFn_of Tryz.func15 (by kernel_rfl) rfl
instance : IsFn Tryz.prog 16 := isFn_of Tryz.func16 (by kernel_rfl) rfl
instance : IsFn Tryz.prog 17 := isFn_of Tryz.func17 (by kernel_rfl) rfl
instance : IsFn Tryz.prog 18 := isFn_of Tryz.func18 (by kernel_rfl) rfl
instance : IsFn Tryz.prog 19 := isFn_of Tryz.func19 (by kernel_rfl) rfl
instance : IsFn Tryz.prog 20 := isFn_of Tryz.func20 (by kernel_rfl) rfl
instance : IsFn Tryz.prog 21 := isFn_of Tryz.func21 (by kernel_rfl) rfl
instance : IsFn Tryz.prog 22 := isFn_of Tryz.func22 (by kernel_rfl) rfl
instance : IsFn Tryz.prog 23 := isFn_of Tryz.func23 (by kernel_rfl) rfl
instance : IsFn Tryz.prog 24 := isFn_of Tryz.func24 (by kernel_rfl) rfl
instance : IsFn Tryz.prog 25 := isFn_of Tryz.func25 (by kernel_rfl) rfl
instance : IsFn Tryz.prog 26 := isFn_of Tryz.func26 (by kernel_rfl) rfl
instance : IsFn Tryz.prog 27 := isFn_of Tryz.func27 (by kernel_rfl) rfl
instance : IsFn Tryz.prog 28 := isFn_of Tryz.func28 (by kernel_rfl) rfl
instance : IsFn Tryz.prog 29 := isFn_of Tryz.func29 (by kernel_rfl) rfl
instance : IsFn Tryz.prog 30 := isFn_of Tryz.func30 (by kernel_rfl) rfl
instance : IsFn Tryz.prog 31 := isFn_of Tryz.func31 (by kernel_rfl) rfl
instance : IsFn Tryz.prog 32 := isFn_of Tryz.func32 (by kernel_rfl) rfl
instance : IsFn Tryz.prog 33 := isFn_of Tryz.func33 (by kernel_rfl) rfl
instance : IsFn Tryz.prog 34 := isFn_of Tryz.func34 (by kernel_rfl) rfl
instance : IsFn Tryz.prog 35 := isFn_of Tryz.func35 (by kernel_rfl) rfl
instance : IsFn Tryz.prog 36 := isFn_of Tryz.func36 (by kernel_rfl) rfl
instance : IsFn Tryz.prog 37 := isFn_of Tryz.func37 (by kernel_rfl) rfl
instance : IsFn Tryz.prog 38 := isFn_of Tryz.func38 (by kernel_rfl) rfl
instance : IsFn Tryz.prog 39 := isFn_of Tryz.func39 (by kernel_rfl) rfl
instance : IsFn Tryz.prog 40 := isFn_of Tryz.func40 (by kernel_rfl) rfl
instance : IsFn Tryz.prog 41 := isFn_of Tryz.func41 (by kernel_rfl) rfl
instance : IsFn Tryz.prog 42 := isFn_of Tryz.func42 (by kernel_rfl) rfl
instance : IsFn Tryz.prog 43 := isFn_of Tryz.func43 (by kernel_rfl) rfl
instance : IsFn Tryz.prog 44 := isFn_of Tryz.func44 (by kernel_rfl) rfl
instance : IsFn Tryz.prog 45 := isFn_of Tryz.func45 (by kernel_rfl) rfl
instance : IsFn Tryz.prog 46 := isFn_of Tryz.func46 (by kernel_rfl) rfl
instance : IsFn Tryz.prog 47 := isFn_of Tryz.func47 (by kernel_rfl) rfl
instance : IsFn Tryz.prog 48 := isFn_of Tryz.func48 (by kernel_rfl) rfl
instance : IsFn Tryz.prog 49 := isFn_of Tryz.func49 (by kernel_rfl) rfl
instance : IsFn Tryz.prog 50 := isFn_of Tryz.func50 (by kernel_rfl) rfl
instance : IsFn Tryz.prog 51 := isFn_of Tryz.func51 (by kernel_rfl) rfl
instance : IsFn Tryz.prog 52 := isFn_of Tryz.func52 (by kernel_rfl) rfl
instance : IsFn Tryz.prog 53 := isFn_of Tryz.func53 (by kernel_rfl) rfl
instance : IsFn Tryz.prog 54 := isFn_of Tryz.func54 (by kernel_rfl) rfl
instance : IsFn Tryz.prog 55 := isFn_of Tryz.func55 (by kernel_rfl) rfl
instance : IsFn Tryz.prog 56 := isFn_of Tryz.func56 (by kernel_rfl) rfl
instance : IsFn Tryz.prog 57 := isFn_of Tryz.func57 (by kernel_rfl) rfl
instance : IsFn Tryz.prog 58 := isFn_of Tryz.func58 (by kernel_rfl) rfl
instance : IsFn Tryz.prog 59 := isFn_of Tryz.func59 (by kernel_rfl) rfl
instance : IsFn Tryz.prog 60 := isFn_of Tryz.func60 (by kernel_rfl) rfl
instance : IsFn Tryz.prog 61 := isFn_of Tryz.func61 (by kernel_rfl) rfl
instance : IsFn Tryz.prog 62 := isFn_of Tryz.func62 (by kernel_rfl) rfl
instance : IsFn Tryz.prog 63 := isFn_of Tryz.func63 (by kernel_rfl) rfl
instance : IsFn Tryz.prog 64 := isFn_of Tryz.func64 (by kernel_rfl) rfl
instance : IsFn Tryz.prog 65 := isFn_of Tryz.func65 (by kernel_rfl) rfl
instance : IsFn Tryz.prog 66 := isFn_of Tryz.func66 (by kernel_rfl) rfl
instance : IsFn Tryz.prog 67 := isFn_of Tryz.func67 (by kernel_rfl) rfl
instance : IsFn Tryz.prog 68 := isFn_of Tryz.func68 (by kernel_rfl) rfl
instance : IsFn Tryz.prog 69 := isFn_of Tryz.func69 (by kernel_rfl) rfl
instance : IsFn Tryz.prog 70 := isFn_of Tryz.func70 (by kernel_rfl) rfl
instance : IsFn Tryz.prog 71 := isFn_of Tryz.func71 (by kernel_rfl) rfl
instance : IsFn Tryz.prog 72 := isFn_of Tryz.func72 (by kernel_rfl) rfl
instance : IsFn Tryz.prog 73 := isFn_of Tryz.func73 (by kernel_rfl) rfl
instance : IsFn Tryz.prog 75 := isFn_of Tryz.func75 (by kernel_rfl) rfl
instance : IsFn Tryz.prog 76 := isFn_of Tryz.func76 (by kernel_rfl) rfl
instance : IsFn Tryz.prog 77 := isFn_of Tryz.func77 (by kernel_rfl) rfl
instance : IsFn Tryz.prog 78 := isFn_of Tryz.func78 (by kernel_rfl) rfl
instance : IsFn Tryz.prog 79 := isFn_of Tryz.func79 (by kernel_rfl) rfl
instance : IsFn Tryz.prog 80 := isFn_of Tryz.func80 (by kernel_rfl) rfl
instance : IsFn Tryz.prog 81 := isFn_of Tryz.func81 (by kernel_rfl) rfl
instance : IsFn Tryz.prog 82 := isFn_of Tryz.func82 (by kernel_rfl) rfl
instance : IsFn Tryz.prog 83 := isFn_of Tryz.func83 (by kernel_rfl) rfl
instance : IsFn Tryz.prog 84 := isFn_of Tryz.func84 (by kernel_rfl) rfl
instance : IsFn Tryz.prog 85 := isFn_of Tryz.func85 (by kernel_rfl) rfl
instance : IsFn Tryz.prog 87 := isFn_of Tryz.func87 (by kernel_rfl) rfl
instance : IsFn Tryz.prog 88 := isFn_of Tryz.func88 (by kernel_rfl) rfl
instance : IsFn Tryz.prog 89 := isFn_of Tryz.func89 (by kernel_rfl) rfl
instance : IsFn Tryz.prog 90 := isFn_of Tryz.func90 (by kernel_rfl) rfl
instance : IsFn Tryz.prog 91 := isFn_of Tryz.func91 (by kernel_rfl) rfl
instance : IsFn Tryz.prog 92 := isFn_of Tryz.func92 (by kernel_rfl) rfl
instance : IsFn Tryz.prog 93 := isFn_of Tryz.func93 (by kernel_rfl) rfl
instance : IsFn Tryz.prog 94 := isFn_of Tryz.func94 (by kernel_rfl) rfl
instance : IsFn Tryz.prog 95 := isFn_of Tryz.func95 (by kernel_rfl) rfl
instance : IsFn Tryz.prog 96 := isFn_of Tryz.func96 (by kernel_rfl) rfl
instance : IsFn Tryz.prog 97 := isFn_of Tryz.func97 (by kernel_rfl) rfl
instance : IsFn Tryz.prog 99 := isFn_of Tryz.func99 (by kernel_rfl) rfl
instance : IsFn Tryz.prog 100 := isFn_of Tryz.func100 (by kernel_rfl) rfl
instance : IsFn Tryz.prog 101 := isFn_of Tryz.func101 (by kernel_rfl) rfl
instance : IsFn Tryz.prog 102 := isFn_of Tryz.func102 (by kernel_rfl) rfl
instance : IsFn Tryz.prog 103 := isFn_of Tryz.func103 (by kernel_rfl) rfl
instance : IsFn Tryz.prog 104 := isFn_of Tryz.func104 (by kernel_rfl) rfl
instance : IsFn Tryz.prog 105 := isFn_of Tryz.func105 (by kernel_rfl) rfl
instance : IsFn Tryz.prog 106 := isFn_of Tryz.func106 (by kernel_rfl) rfl
instance : IsFn Tryz.prog 107 := isFn_of Tryz.func107 (by kernel_rfl) rfl
instance : IsFn Tryz.prog 108 := isFn_of Tryz.func108 (by kernel_rfl) rfl
instance : IsFn Tryz.prog 109 := isFn_of Tryz.func109 (by kernel_rfl) rfl
instance : IsFn Tryz.prog 110 := isFn_of Tryz.func110 (by kernel_rfl) rfl
instance : IsFn Tryz.prog 111 := isFn_of Tryz.func111 (by kernel_rfl) rfl
instance : IsFn Tryz.prog 112 := isFn_of Tryz.func112 (by kernel_rfl) rfl
instance : IsFn Tryz.prog 113 := isFn_of Tryz.func113 (by kernel_rfl) rfl
instance : IsFn Tryz.prog 114 := isFn_of Tryz.func114 (by kernel_rfl) rfl
instance : IsFn Tryz.prog 115 := isFn_of Tryz.func115 (by kernel_rfl) rfl
instance : IsFn Tryz.prog 116 := isFn_of Tryz.func116 (by kernel_rfl) rfl
instance : IsFn Tryz.prog 117 := isFn_of Tryz.func117 (by kernel_rfl) rfl
instance : IsFn Tryz.prog 119 := isFn_of Tryz.func119 (by kernel_rfl) rfl
instance : IsFn Tryz.prog 120 := isFn_of Tryz.func120 (by kernel_rfl) rfl
instance : IsFn Tryz.prog 151 := isFn_of Tryz.func151 (by kernel_rfl) rfl
instance : ResC Tryz.f2 [] := ⟨rfl⟩
instance : ResC Tryz.f3 [.tmp 4] := ⟨rfl⟩
instance : ResC Tryz.f4 [.tmp 4] := ⟨rfl⟩
instance : ResC Tryz.f5 [.cell 4 28, .tmp 5] := ⟨rfl⟩
instance : ResC Tryz.f6 [.cell 2 31] := ⟨rfl⟩
instance : ResC Tryz.f7 [.cell 4 28, .tmp 5] := ⟨rfl⟩
instance : ResC Tryz.f8 [.tmp 4] := ⟨rfl⟩
instance : ResC Tryz.f9 [.tmp 4] := ⟨rfl⟩
instance : ResC Tryz.f10 [.tmp 4] := ⟨rfl⟩
instance : ResC Tryz.f11 [.tmp 4] := ⟨rfl⟩
instance : ResC Tryz.f12 [.tmp 4] := ⟨rfl⟩
instance : ResC Tryz.f13 [.tmp 4] := ⟨rfl⟩
instance : ResC Tryz.f14 [.tmp 4] := ⟨rfl⟩
instance : ResC Tryz.f15 [.tmp 2, .tmp 3] := ⟨rfl⟩
instance : ResC Tryz.f16 [.tmp 4, .tmp 5] := ⟨rfl⟩
instance : ResC Tryz.f17 [.tmp 2] := ⟨rfl⟩
instance : ResC Tryz.f18 [.tmp 4] := ⟨rfl⟩
instance : ResC Tryz.f19 [.tmp 2] := ⟨rfl⟩
instance : ResC Tryz.f20 [.tmp 4] := ⟨rfl⟩
instance : ResC Tryz.f21 [.tmp 2] := ⟨rfl⟩
instance : ResC Tryz.f22 [.tmp 2] := ⟨rfl⟩
instance : ResC Tryz.f23 [.cell 2 22, .cell 3 4] := ⟨rfl⟩
instance : ResC Tryz.f24 [.cell 4 26, .cell 5 4] := ⟨rfl⟩
instance : ResC Tryz.f25 [.tmp 4] := ⟨rfl⟩
instance : ResC Tryz.f26 [.tmp 4] := ⟨rfl⟩
instance : ResC Tryz.f27 [.tmp 4] := ⟨rfl⟩
instance : ResC Tryz.f28 [.tmp 4] := ⟨rfl⟩
instance : ResC Tryz.f29 [.tmp 4] := ⟨rfl⟩
instance : ResC Tryz.f30 [.tmp 4] := ⟨rfl⟩
instance : ResC Tryz.f31 [.tmp 4] := ⟨rfl⟩
instance : ResC Tryz.f32 [.tmp 2, .tmp 3] := ⟨rfl⟩
instance : ResC Tryz.f33 [.tmp 4, .tmp 5] := ⟨rfl⟩
instance : ResC Tryz.f34 [.tmp 0] := ⟨rfl⟩
instance : ResC Tryz.f35 [.tmp 2] := ⟨rfl⟩
instance : ResC Tryz.f36 [.tmp 4] := ⟨rfl⟩
instance : ResC Tryz.f37 [.tmp 4] := ⟨rfl⟩
instance : ResC Tryz.f38 [.tmp 4] := ⟨rfl⟩
instance : ResC Tryz.f39 [.tmp 4] := ⟨rfl⟩
instance : ResC Tryz.f40 [.tmp 2] := ⟨rfl⟩
instance : ResC Tryz.f41 [.tmp 2] := ⟨rfl⟩
instance : ResC Tryz.f42 [.tmp 8] := ⟨rfl⟩
instance : ResC Tryz.f43 [.tmp 4] := ⟨rfl⟩
instance : ResC Tryz.f44 [.tmp 0] := ⟨rfl⟩
instance : ResC Tryz.f45 [.tmp 4] := ⟨rfl⟩
instance : ResC Tryz.f46 [.tmp 2, .tmp 3] := ⟨rfl⟩
instance : ResC Tryz.f47 [.tmp 4, .tmp 5] := ⟨rfl⟩
instance : ResC Tryz.f48 [.tmp 2] := ⟨rfl⟩
instance : ResC Tryz.f49 [.tmp 4] := ⟨rfl⟩
instance : ResC Tryz.f50 [.tmp 3] := ⟨rfl⟩
instance : ResC Tryz.f51 [.tmp 2] := ⟨rfl⟩
instance : ResC Tryz.f52 [.tmp 2, .tmp 3] := ⟨rfl⟩
instance : ResC Tryz.f53 [.tmp 6] := ⟨rfl⟩
instance : ResC Tryz.f54 [.tmp 2] := ⟨rfl⟩
instance : ResC Tryz.f55 [.tmp 6] := ⟨rfl⟩
instance : ResC Tryz.f56 [.tmp 6] := ⟨rfl⟩
instance : ResC Tryz.f57 [.tmp 4] := ⟨rfl⟩
instance : ResC Tryz.f58 [.tmp 4] := ⟨rfl⟩
instance : ResC Tryz.f59 [.tmp 4] := ⟨rfl⟩
instance : ResC Tryz.f60 [.tmp 6] := ⟨rfl⟩
instance : ResC Tryz.f61 [.tmp 6, .tmp 7] := ⟨rfl⟩
instance : ResC Tryz.f62 [.tmp 2] := ⟨rfl⟩
instance : ResC Tryz.f63 [.tmp 2, .tmp 3] := ⟨rfl⟩
instance : ResC Tryz.f64 [.tmp 4] := ⟨rfl⟩
instance : ResC Tryz.f65 [.tmp 4] := ⟨rfl⟩
instance : ResC Tryz.f66 [.tmp 4] := ⟨rfl⟩
instance : ResC Tryz.f67 [.tmp 2] := ⟨rfl⟩
instance : ResC Tryz.f68 [.tmp 2] := ⟨rfl⟩
instance : ResC Tryz.f69 [.tmp 2, .tmp 3] := ⟨rfl⟩
instance : ResC Tryz.f70 [.tmp 4] := ⟨rfl⟩
instance : ResC Tryz.f71 [.tmp 6] := ⟨rfl⟩
instance : ResC Tryz.f72 [.tmp 2] := ⟨rfl⟩
instance : ResC Tryz.f73 [.tmp 2, .tmp 3] := ⟨rfl⟩
instance : ResC Tryz.f75 [.tmp 4] := ⟨rfl⟩
instance : ResC Tryz.f76 [] := ⟨rfl⟩
instance : ResC Tryz.f77 [.tmp 6, .tmp 7] := ⟨rfl⟩
instance : ResC Tryz.f78 [.tmp 10] := ⟨rfl⟩
instance : ResC Tryz.f79 [.tmp 4] := ⟨rfl⟩
instance : ResC Tryz.f80 [.tmp 2] := ⟨rfl⟩
instance : ResC Tryz.f81 [.tmp 6] := ⟨rfl⟩
instance : ResC Tryz.f82 [.tmp 8] := ⟨rfl⟩
instance : ResC Tryz.f83 [.tmp 2] := ⟨rfl⟩
instance : ResC Tryz.f84 [.tmp 2, .tmp 3] := ⟨rfl⟩
instance : ResC Tryz.f85 [.tmp 4] := ⟨rfl⟩
instance : ResC Tryz.f87 [.tmp 2] := ⟨rfl⟩
instance : ResC Tryz.f88 [.tmp 4] := ⟨rfl⟩
instance : ResC Tryz.f89 [.tmp 6, .tmp 7] := ⟨rfl⟩
instance : ResC Tryz.f90 [.tmp 4] := ⟨rfl⟩
instance : ResC Tryz.f91 [.tmp 4] := ⟨rfl⟩
instance : ResC Tryz.f92 [.tmp 6] := ⟨rfl⟩
instance : ResC Tryz.f93 [.tmp 6] := ⟨rfl⟩
instance : ResC Tryz.f94 [.tmp 4] := ⟨rfl⟩
instance : ResC Tryz.f95 [.tmp 2] := ⟨rfl⟩
instance : ResC Tryz.f96 [.tmp 4, .tmp 5] := ⟨rfl⟩
instance : ResC Tryz.f97 [.tmp 4] := ⟨rfl⟩
instance : ResC Tryz.f99 [.tmp 2, .tmp 3] := ⟨rfl⟩
instance : ResC Tryz.f100 [.tmp 2] := ⟨rfl⟩
instance : ResC Tryz.f101 [.tmp 2] := ⟨rfl⟩
instance : ResC Tryz.f102 [.tmp 2] := ⟨rfl⟩
instance : ResC Tryz.f103 [.tmp 2] := ⟨rfl⟩
instance : ResC Tryz.f104 [.tmp 2] := ⟨rfl⟩
instance : ResC Tryz.f105 [.tmp 2] := ⟨rfl⟩
instance : ResC Tryz.f106 [.tmp 2] := ⟨rfl⟩
instance : ResC Tryz.f107 [] := ⟨rfl⟩
instance : ResC Tryz.f108 [.tmp 10, .tmp 11] := ⟨rfl⟩
instance : ResC Tryz.f109 [.tmp 2] := ⟨rfl⟩
instance : ResC Tryz.f110 [] := ⟨rfl⟩
instance : ResC Tryz.f111 [.tmp 2] := ⟨rfl⟩
instance : ResC Tryz.f112 [.tmp 2] := ⟨rfl⟩
instance : ResC Tryz.f113 [.tmp 2] := ⟨rfl⟩
instance : ResC Tryz.f114 [.tmp 2] := ⟨rfl⟩
instance : ResC Tryz.f115 [.tmp 2] := ⟨rfl⟩
instance : ResC Tryz.f116 [.tmp 2] := ⟨rfl⟩
instance : ResC Tryz.f117 [.tmp 4] := ⟨rfl⟩
instance : ResC Tryz.f119 [.tmp 2] := ⟨rfl⟩
instance : ResC Tryz.f120 [.tmp 2] := ⟨rfl⟩
instance : ResC Tryz.f151 [] := ⟨rfl⟩
end Go.Proofs
