/- The engine's classes at this program: its types, its functions. Written by a program. -/
import Derived.Test.YtcpfcnjchlbapaaChecked
import Derived.Test.YtcpfcnjchlbapaaEngO
namespace Go.Proofs
open Go Go.Eng
set_option linter.unusedVariables false
set_option maxRecDepth 20000
instance : Mixed Try.prog := ⟨by kernel_rfl⟩
instance : Sc Try.prog 1 := ⟨fun w => Try.isAgg1 w, fun w => Try.sizeOf1 w⟩
instance : Zr Try.prog 1 [.nilFunc] := ⟨_, fun w => Try.zeroValue1 w, rfl⟩
instance : Sc Try.prog 2 := ⟨fun w => Try.isAgg2 w, fun w => Try.sizeOf2 w⟩
instance : Zr Try.prog 2 [(.int .i64 (0))] := ⟨_, fun w => Try.zeroValue2 w, rfl⟩
instance : I64T Try.prog 2 := ⟨Try.underlying2⟩
instance : Sc Try.prog 3 := ⟨fun w => Try.isAgg3 w, fun w => Try.sizeOf3 w⟩
instance : Zr Try.prog 3 [(.int .i64 (0))] := ⟨_, fun w => Try.zeroValue3 w, rfl⟩
instance : I64T Try.prog 3 := ⟨Try.underlying3⟩
instance : Sc Try.prog 4 := ⟨fun w => Try.isAgg4 w, fun w => Try.sizeOf4 w⟩
instance : Zr Try.prog 4 [(.bool false)] := ⟨_, fun w => Try.zeroValue4 w, rfl⟩
instance : IsBool Try.prog 4 := ⟨Try.underlying4⟩
instance : Sc Try.prog 5 := ⟨fun w => Try.isAgg5 w, fun w => Try.sizeOf5 w⟩
instance : Zr Try.prog 5 [(.int .u8 (0))] := ⟨_, fun w => Try.zeroValue5 w, rfl⟩
instance : Sc Try.prog 9 := ⟨fun w => Try.isAgg9 w, fun w => Try.sizeOf9 w⟩
instance : Zr Try.prog 9 [(.string ByteArray.empty)] := ⟨_, fun w => Try.zeroValue9 w, rfl⟩
instance : IsStr Try.prog 9 := ⟨Try.underlying9⟩
instance : Sc Try.prog 12 := ⟨fun w => Try.isAgg12 w, fun w => Try.sizeOf12 w⟩
instance : Zr Try.prog 12 [(.int .u64 (0))] := ⟨_, fun w => Try.zeroValue12 w, rfl⟩
instance : Ag Try.prog 13 2 := ⟨fun w => Try.isAgg13 w, fun w => Try.sizeOf13 w⟩
instance : Zr Try.prog 13 [(.string ByteArray.empty), (.int .u64 (0))] := ⟨_, fun w => Try.zeroValue13 w, rfl⟩
instance : Fo Try.prog 13 0 0 := ⟨fun w a => by simp [Instr.fieldAt, Instr.sureAddr, fieldPlace]⟩
instance : Fo Try.prog 13 1 1 := ⟨fun w a => by simp [Instr.fieldAt, Instr.sureAddr, fieldPlace]⟩
instance : StT Try.prog 13 [(0, 1), (1, 1)] [(.string ByteArray.empty), (.int .u64 (0))] := ⟨_, Try.t13, _, Try.underlying13, by kernel_rfl, by kernel_rfl, rfl, rfl⟩
instance : Sc Try.prog 20 := ⟨fun w => Try.isAgg20 w, fun w => Try.sizeOf20 w⟩
instance : Zr Try.prog 20 [.nilIface] := ⟨_, fun w => Try.zeroValue20 w, rfl⟩
instance : Sc Try.prog 21 := ⟨fun w => Try.isAgg21 w, fun w => Try.sizeOf21 w⟩
instance : Zr Try.prog 21 [(.int .i32 (0))] := ⟨_, fun w => Try.zeroValue21 w, rfl⟩
instance : Sc Try.prog 22 := ⟨fun w => Try.isAgg22 w, fun w => Try.sizeOf22 w⟩
instance : Zr Try.prog 22 [(.slice none 0 0)] := ⟨_, fun w => Try.zeroValue22 w, rfl⟩
instance : Sl Try.prog 22 1 1 := ⟨5, Try.t5, _, Try.underlying22, by kernel_rfl, rfl, rfl, rfl, rfl, by decide⟩
instance : SlZ Try.prog 22 [(.int .u8 (0))] := ⟨fun {e i z} h1 h2 h3 => by
  rw [Try.underlying22] at h1; cases h1
  rw [show Try.prog.info? 5 = some Try.t5 by kernel_rfl] at h2; cases h2; cases h3; rfl⟩
instance : Sc Try.prog 23 := ⟨fun w => Try.isAgg23 w, fun w => Try.sizeOf23 w⟩
instance : Zr Try.prog 23 [.nilFunc] := ⟨_, fun w => Try.zeroValue23 w, rfl⟩
instance : Sc Try.prog 24 := ⟨fun w => Try.isAgg24 w, fun w => Try.sizeOf24 w⟩
instance : Zr Try.prog 24 [(.slice none 0 0)] := ⟨_, fun w => Try.zeroValue24 w, rfl⟩
instance : Sl Try.prog 24 1 8 := ⟨2, Try.t2, _, Try.underlying24, by kernel_rfl, rfl, rfl, rfl, rfl, by decide⟩
instance : SlZ Try.prog 24 [(.int .i64 (0))] := ⟨fun {e i z} h1 h2 h3 => by
  rw [Try.underlying24] at h1; cases h1
  rw [show Try.prog.info? 2 = some Try.t2 by kernel_rfl] at h2; cases h2; cases h3; rfl⟩
instance : Ag Try.prog 25 1 := ⟨fun w => Try.isAgg25 w, fun w => Try.sizeOf25 w⟩
instance : Zr Try.prog 25 [(.slice none 0 0)] := ⟨_, fun w => Try.zeroValue25 w, rfl⟩
instance : Fo Try.prog 25 0 0 := ⟨fun w a => by simp [Instr.fieldAt, Instr.sureAddr, fieldPlace]⟩
instance : StT Try.prog 25 [(0, 1)] [(.slice none 0 0)] := ⟨_, Try.t25, _, Try.underlying25, by kernel_rfl, by kernel_rfl, rfl, rfl⟩
instance : Ag Try.prog 26 1 := ⟨fun w => Try.isAgg26 w, fun w => Try.sizeOf26 w⟩
instance : Zr Try.prog 26 [(.slice none 0 0)] := ⟨_, fun w => Try.zeroValue26 w, rfl⟩
instance : Fo Try.prog 26 0 0 := ⟨fun w a => by simp [Instr.fieldAt, Instr.sureAddr, fieldPlace]⟩
instance : StT Try.prog 26 [(0, 1)] [(.slice none 0 0)] := ⟨_, Try.t26, _, Try.underlying26, by kernel_rfl, by kernel_rfl, rfl, rfl⟩
instance : Sc Try.prog 28 := ⟨fun w => Try.isAgg28 w, fun w => Try.sizeOf28 w⟩
instance : Zr Try.prog 28 [.nilFunc] := ⟨_, fun w => Try.zeroValue28 w, rfl⟩
instance : Sc Try.prog 29 := ⟨fun w => Try.isAgg29 w, fun w => Try.sizeOf29 w⟩
instance : Zr Try.prog 29 [.nilFunc] := ⟨_, fun w => Try.zeroValue29 w, rfl⟩
instance : Sc Try.prog 30 := ⟨fun w => Try.isAgg30 w, fun w => Try.sizeOf30 w⟩
instance : Zr Try.prog 30 [.nilFunc] := ⟨_, fun w => Try.zeroValue30 w, rfl⟩
instance : Sc Try.prog 31 := ⟨fun w => Try.isAgg31 w, fun w => Try.sizeOf31 w⟩
instance : Zr Try.prog 31 [.nilFunc] := ⟨_, fun w => Try.zeroValue31 w, rfl⟩
instance : Sc Try.prog 32 := ⟨fun w => Try.isAgg32 w, fun w => Try.sizeOf32 w⟩
instance : Zr Try.prog 32 [.nilFunc] := ⟨_, fun w => Try.zeroValue32 w, rfl⟩
instance : Sc Try.prog 33 := ⟨fun w => Try.isAgg33 w, fun w => Try.sizeOf33 w⟩
instance : Zr Try.prog 33 [.nilFunc] := ⟨_, fun w => Try.zeroValue33 w, rfl⟩
instance : Sc Try.prog 34 := ⟨fun w => Try.isAgg34 w, fun w => Try.sizeOf34 w⟩
instance : Zr Try.prog 34 [(.slice none 0 0)] := ⟨_, fun w => Try.zeroValue34 w, rfl⟩
instance : Sl Try.prog 34 1 24 := ⟨24, Try.t24, _, Try.underlying34, by kernel_rfl, rfl, rfl, rfl, rfl, by decide⟩
instance : SlZ Try.prog 34 [(.slice none 0 0)] := ⟨fun {e i z} h1 h2 h3 => by
  rw [Try.underlying34] at h1; cases h1
  rw [show Try.prog.info? 24 = some Try.t24 by kernel_rfl] at h2; cases h2; cases h3; rfl⟩
instance : Ag Try.prog 35 1 := ⟨fun w => Try.isAgg35 w, fun w => Try.sizeOf35 w⟩
instance : Zr Try.prog 35 [(.slice none 0 0)] := ⟨_, fun w => Try.zeroValue35 w, rfl⟩
instance : Fo Try.prog 35 0 0 := ⟨fun w a => by simp [Instr.fieldAt, Instr.sureAddr, fieldPlace]⟩
instance : StT Try.prog 35 [(0, 1)] [(.slice none 0 0)] := ⟨_, Try.t35, _, Try.underlying35, by kernel_rfl, by kernel_rfl, rfl, rfl⟩
instance : Ag Try.prog 36 1 := ⟨fun w => Try.isAgg36 w, fun w => Try.sizeOf36 w⟩
instance : Zr Try.prog 36 [(.slice none 0 0)] := ⟨_, fun w => Try.zeroValue36 w, rfl⟩
instance : Fo Try.prog 36 0 0 := ⟨fun w a => by simp [Instr.fieldAt, Instr.sureAddr, fieldPlace]⟩
instance : StT Try.prog 36 [(0, 1)] [(.slice none 0 0)] := ⟨_, Try.t36, _, Try.underlying36, by kernel_rfl, by kernel_rfl, rfl, rfl⟩
instance : Sc Try.prog 38 := ⟨fun w => Try.isAgg38 w, fun w => Try.sizeOf38 w⟩
instance : Zr Try.prog 38 [.nilFunc] := ⟨_, fun w => Try.zeroValue38 w, rfl⟩
instance : Sc Try.prog 39 := ⟨fun w => Try.isAgg39 w, fun w => Try.sizeOf39 w⟩
instance : Zr Try.prog 39 [.nilFunc] := ⟨_, fun w => Try.zeroValue39 w, rfl⟩
instance : Sc Try.prog 41 := ⟨fun w => Try.isAgg41 w, fun w => Try.sizeOf41 w⟩
instance : Zr Try.prog 41 [.nilFunc] := ⟨_, fun w => Try.zeroValue41 w, rfl⟩
instance : Sc Try.prog 43 := ⟨fun w => Try.isAgg43 w, fun w => Try.sizeOf43 w⟩
instance : Zr Try.prog 43 [.nilFunc] := ⟨_, fun w => Try.zeroValue43 w, rfl⟩
instance : Sc Try.prog 45 := ⟨fun w => Try.isAgg45 w, fun w => Try.sizeOf45 w⟩
instance : Zr Try.prog 45 [.nilFunc] := ⟨_, fun w => Try.zeroValue45 w, rfl⟩
instance : Sc Try.prog 46 := ⟨fun w => Try.isAgg46 w, fun w => Try.sizeOf46 w⟩
instance : Zr Try.prog 46 [.nilFunc] := ⟨_, fun w => Try.zeroValue46 w, rfl⟩
instance : Sc Try.prog 47 := ⟨fun w => Try.isAgg47 w, fun w => Try.sizeOf47 w⟩
instance : Zr Try.prog 47 [.nilFunc] := ⟨_, fun w => Try.zeroValue47 w, rfl⟩
instance : Sc Try.prog 48 := ⟨fun w => Try.isAgg48 w, fun w => Try.sizeOf48 w⟩
instance : Zr Try.prog 48 [.nilFunc] := ⟨_, fun w => Try.zeroValue48 w, rfl⟩
instance : Sc Try.prog 49 := ⟨fun w => Try.isAgg49 w, fun w => Try.sizeOf49 w⟩
instance : Zr Try.prog 49 [(.slice none 0 0)] := ⟨_, fun w => Try.zeroValue49 w, rfl⟩
instance : Sl Try.prog 49 3 40 := ⟨109, Try.t109, _, Try.underlying49, by kernel_rfl, rfl, rfl, rfl, rfl, by decide⟩
instance : SlZ Try.prog 49 [(.int .i64 (0)), (.slice none 0 0), (.int .i64 (0))] := ⟨fun {e i z} h1 h2 h3 => by
  rw [Try.underlying49] at h1; cases h1
  rw [show Try.prog.info? 109 = some Try.t109 by kernel_rfl] at h2; cases h2; cases h3; rfl⟩
instance : Ag Try.prog 50 3 := ⟨fun w => Try.isAgg50 w, fun w => Try.sizeOf50 w⟩
instance : Zr Try.prog 50 [(.int .i64 (0)), (.slice none 0 0), (.slice none 0 0)] := ⟨_, fun w => Try.zeroValue50 w, rfl⟩
instance : Fo Try.prog 50 0 0 := ⟨fun w a => by simp [Instr.fieldAt, Instr.sureAddr, fieldPlace]⟩
instance : Fo Try.prog 50 1 1 := ⟨fun w a => by simp [Instr.fieldAt, Instr.sureAddr, fieldPlace]⟩
instance : Fo Try.prog 50 2 2 := ⟨fun w a => by simp [Instr.fieldAt, Instr.sureAddr, fieldPlace]⟩
instance : StT Try.prog 50 [(0, 1), (1, 1), (2, 1)] [(.int .i64 (0)), (.slice none 0 0), (.slice none 0 0)] := ⟨_, Try.t50, _, Try.underlying50, by kernel_rfl, by kernel_rfl, rfl, rfl⟩
instance : Ag Try.prog 51 3 := ⟨fun w => Try.isAgg51 w, fun w => Try.sizeOf51 w⟩
instance : Zr Try.prog 51 [(.int .i64 (0)), (.slice none 0 0), (.slice none 0 0)] := ⟨_, fun w => Try.zeroValue51 w, rfl⟩
instance : Fo Try.prog 51 0 0 := ⟨fun w a => by simp [Instr.fieldAt, Instr.sureAddr, fieldPlace]⟩
instance : Fo Try.prog 51 1 1 := ⟨fun w a => by simp [Instr.fieldAt, Instr.sureAddr, fieldPlace]⟩
instance : Fo Try.prog 51 2 2 := ⟨fun w a => by simp [Instr.fieldAt, Instr.sureAddr, fieldPlace]⟩
instance : StT Try.prog 51 [(0, 1), (1, 1), (2, 1)] [(.int .i64 (0)), (.slice none 0 0), (.slice none 0 0)] := ⟨_, Try.t51, _, Try.underlying51, by kernel_rfl, by kernel_rfl, rfl, rfl⟩
instance : Sc Try.prog 53 := ⟨fun w => Try.isAgg53 w, fun w => Try.sizeOf53 w⟩
instance : Zr Try.prog 53 [.nilFunc] := ⟨_, fun w => Try.zeroValue53 w, rfl⟩
instance : Sc Try.prog 54 := ⟨fun w => Try.isAgg54 w, fun w => Try.sizeOf54 w⟩
instance : Zr Try.prog 54 [.nilFunc] := ⟨_, fun w => Try.zeroValue54 w, rfl⟩
instance : Sc Try.prog 55 := ⟨fun w => Try.isAgg55 w, fun w => Try.sizeOf55 w⟩
instance : Zr Try.prog 55 [.nilFunc] := ⟨_, fun w => Try.zeroValue55 w, rfl⟩
instance : Sc Try.prog 56 := ⟨fun w => Try.isAgg56 w, fun w => Try.sizeOf56 w⟩
instance : Zr Try.prog 56 [.nilFunc] := ⟨_, fun w => Try.zeroValue56 w, rfl⟩
instance : Sc Try.prog 57 := ⟨fun w => Try.isAgg57 w, fun w => Try.sizeOf57 w⟩
instance : Zr Try.prog 57 [(.pointer none)] := ⟨_, fun w => Try.zeroValue57 w, rfl⟩
instance : Sc Try.prog 58 := ⟨fun w => Try.isAgg58 w, fun w => Try.sizeOf58 w⟩
instance : Zr Try.prog 58 [.nilFunc] := ⟨_, fun w => Try.zeroValue58 w, rfl⟩
instance : Sc Try.prog 59 := ⟨fun w => Try.isAgg59 w, fun w => Try.sizeOf59 w⟩
instance : Zr Try.prog 59 [(.int .u64 (0))] := ⟨_, fun w => Try.zeroValue59 w, rfl⟩
instance : Sc Try.prog 60 := ⟨fun w => Try.isAgg60 w, fun w => Try.sizeOf60 w⟩
instance : Zr Try.prog 60 [(.slice none 0 0)] := ⟨_, fun w => Try.zeroValue60 w, rfl⟩
instance : Sl Try.prog 60 2 48 := ⟨117, Try.t117, _, Try.underlying60, by kernel_rfl, rfl, rfl, rfl, rfl, by decide⟩
instance : SlZ Try.prog 60 [(.slice none 0 0), (.slice none 0 0)] := ⟨fun {e i z} h1 h2 h3 => by
  rw [Try.underlying60] at h1; cases h1
  rw [show Try.prog.info? 117 = some Try.t117 by kernel_rfl] at h2; cases h2; cases h3; rfl⟩
instance : Ag Try.prog 61 2 := ⟨fun w => Try.isAgg61 w, fun w => Try.sizeOf61 w⟩
instance : Zr Try.prog 61 [(.slice none 0 0), (.slice none 0 0)] := ⟨_, fun w => Try.zeroValue61 w, rfl⟩
instance : Fo Try.prog 61 0 0 := ⟨fun w a => by simp [Instr.fieldAt, Instr.sureAddr, fieldPlace]⟩
instance : Fo Try.prog 61 1 1 := ⟨fun w a => by simp [Instr.fieldAt, Instr.sureAddr, fieldPlace]⟩
instance : StT Try.prog 61 [(0, 1), (1, 1)] [(.slice none 0 0), (.slice none 0 0)] := ⟨_, Try.t61, _, Try.underlying61, by kernel_rfl, by kernel_rfl, rfl, rfl⟩
instance : Ag Try.prog 62 2 := ⟨fun w => Try.isAgg62 w, fun w => Try.sizeOf62 w⟩
instance : Zr Try.prog 62 [(.slice none 0 0), (.slice none 0 0)] := ⟨_, fun w => Try.zeroValue62 w, rfl⟩
instance : Fo Try.prog 62 0 0 := ⟨fun w a => by simp [Instr.fieldAt, Instr.sureAddr, fieldPlace]⟩
instance : Fo Try.prog 62 1 1 := ⟨fun w a => by simp [Instr.fieldAt, Instr.sureAddr, fieldPlace]⟩
instance : StT Try.prog 62 [(0, 1), (1, 1)] [(.slice none 0 0), (.slice none 0 0)] := ⟨_, Try.t62, _, Try.underlying62, by kernel_rfl, by kernel_rfl, rfl, rfl⟩
instance : Sc Try.prog 63 := ⟨fun w => Try.isAgg63 w, fun w => Try.sizeOf63 w⟩
instance : Zr Try.prog 63 [.nilFunc] := ⟨_, fun w => Try.zeroValue63 w, rfl⟩
instance : Sc Try.prog 64 := ⟨fun w => Try.isAgg64 w, fun w => Try.sizeOf64 w⟩
instance : Zr Try.prog 64 [.nilFunc] := ⟨_, fun w => Try.zeroValue64 w, rfl⟩
instance : Sc Try.prog 65 := ⟨fun w => Try.isAgg65 w, fun w => Try.sizeOf65 w⟩
instance : Zr Try.prog 65 [(.slice none 0 0)] := ⟨_, fun w => Try.zeroValue65 w, rfl⟩
instance : Sl Try.prog 65 3 40 := ⟨69, Try.t69, _, Try.underlying65, by kernel_rfl, rfl, rfl, rfl, rfl, by decide⟩
instance : SlZ Try.prog 65 [(.int .i64 (0)), (.int .i64 (0)), (.slice none 0 0)] := ⟨fun {e i z} h1 h2 h3 => by
  rw [Try.underlying65] at h1; cases h1
  rw [show Try.prog.info? 69 = some Try.t69 by kernel_rfl] at h2; cases h2; cases h3; rfl⟩
instance : Sc Try.prog 66 := ⟨fun w => Try.isAgg66 w, fun w => Try.sizeOf66 w⟩
instance : Zr Try.prog 66 [.nilFunc] := ⟨_, fun w => Try.zeroValue66 w, rfl⟩
instance : Sc Try.prog 67 := ⟨fun w => Try.isAgg67 w, fun w => Try.sizeOf67 w⟩
instance : Zr Try.prog 67 [.nilFunc] := ⟨_, fun w => Try.zeroValue67 w, rfl⟩
instance : Ag Try.prog 68 3 := ⟨fun w => Try.isAgg68 w, fun w => Try.sizeOf68 w⟩
instance : Zr Try.prog 68 [(.int .i64 (0)), (.int .i64 (0)), (.slice none 0 0)] := ⟨_, fun w => Try.zeroValue68 w, rfl⟩
instance : Fo Try.prog 68 0 0 := ⟨fun w a => by simp [Instr.fieldAt, Instr.sureAddr, fieldPlace]⟩
instance : Fo Try.prog 68 1 1 := ⟨fun w a => by simp [Instr.fieldAt, Instr.sureAddr, fieldPlace]⟩
instance : Fo Try.prog 68 2 2 := ⟨fun w a => by simp [Instr.fieldAt, Instr.sureAddr, fieldPlace]⟩
instance : StT Try.prog 68 [(0, 1), (1, 1), (2, 1)] [(.int .i64 (0)), (.int .i64 (0)), (.slice none 0 0)] := ⟨_, Try.t68, _, Try.underlying68, by kernel_rfl, by kernel_rfl, rfl, rfl⟩
instance : Ag Try.prog 69 3 := ⟨fun w => Try.isAgg69 w, fun w => Try.sizeOf69 w⟩
instance : Zr Try.prog 69 [(.int .i64 (0)), (.int .i64 (0)), (.slice none 0 0)] := ⟨_, fun w => Try.zeroValue69 w, rfl⟩
instance : Fo Try.prog 69 0 0 := ⟨fun w a => by simp [Instr.fieldAt, Instr.sureAddr, fieldPlace]⟩
instance : Fo Try.prog 69 1 1 := ⟨fun w a => by simp [Instr.fieldAt, Instr.sureAddr, fieldPlace]⟩
instance : Fo Try.prog 69 2 2 := ⟨fun w a => by simp [Instr.fieldAt, Instr.sureAddr, fieldPlace]⟩
instance : StT Try.prog 69 [(0, 1), (1, 1), (2, 1)] [(.int .i64 (0)), (.int .i64 (0)), (.slice none 0 0)] := ⟨_, Try.t69, _, Try.underlying69, by kernel_rfl, by kernel_rfl, rfl, rfl⟩
instance : Sc Try.prog 70 := ⟨fun w => Try.isAgg70 w, fun w => Try.sizeOf70 w⟩
instance : Zr Try.prog 70 [.nilFunc] := ⟨_, fun w => Try.zeroValue70 w, rfl⟩
instance : Sc Try.prog 71 := ⟨fun w => Try.isAgg71 w, fun w => Try.sizeOf71 w⟩
instance : Zr Try.prog 71 [(.pointer none)] := ⟨_, fun w => Try.zeroValue71 w, rfl⟩
instance : Sc Try.prog 72 := ⟨fun w => Try.isAgg72 w, fun w => Try.sizeOf72 w⟩
instance : Zr Try.prog 72 [.nilFunc] := ⟨_, fun w => Try.zeroValue72 w, rfl⟩
instance : Sc Try.prog 73 := ⟨fun w => Try.isAgg73 w, fun w => Try.sizeOf73 w⟩
instance : Zr Try.prog 73 [.nilFunc] := ⟨_, fun w => Try.zeroValue73 w, rfl⟩
instance : Sc Try.prog 74 := ⟨fun w => Try.isAgg74 w, fun w => Try.sizeOf74 w⟩
instance : Zr Try.prog 74 [.nilFunc] := ⟨_, fun w => Try.zeroValue74 w, rfl⟩
instance : Sc Try.prog 75 := ⟨fun w => Try.isAgg75 w, fun w => Try.sizeOf75 w⟩
instance : Zr Try.prog 75 [.nilFunc] := ⟨_, fun w => Try.zeroValue75 w, rfl⟩
instance : Sc Try.prog 76 := ⟨fun w => Try.isAgg76 w, fun w => Try.sizeOf76 w⟩
instance : Zr Try.prog 76 [.nilFunc] := ⟨_, fun w => Try.zeroValue76 w, rfl⟩
instance : Sc Try.prog 77 := ⟨fun w => Try.isAgg77 w, fun w => Try.sizeOf77 w⟩
instance : Zr Try.prog 77 [.nilFunc] := ⟨_, fun w => Try.zeroValue77 w, rfl⟩
instance : Sc Try.prog 78 := ⟨fun w => Try.isAgg78 w, fun w => Try.sizeOf78 w⟩
instance : Zr Try.prog 78 [.nilFunc] := ⟨_, fun w => Try.zeroValue78 w, rfl⟩
instance : Sc Try.prog 79 := ⟨fun w => Try.isAgg79 w, fun w => Try.sizeOf79 w⟩
instance : Zr Try.prog 79 [.nilFunc] := ⟨_, fun w => Try.zeroValue79 w, rfl⟩
instance : Sc Try.prog 80 := ⟨fun w => Try.isAgg80 w, fun w => Try.sizeOf80 w⟩
instance : Zr Try.prog 80 [.nilFunc] := ⟨_, fun w => Try.zeroValue80 w, rfl⟩
instance : Sc Try.prog 81 := ⟨fun w => Try.isAgg81 w, fun w => Try.sizeOf81 w⟩
instance : Zr Try.prog 81 [.nilFunc] := ⟨_, fun w => Try.zeroValue81 w, rfl⟩
instance : Sc Try.prog 82 := ⟨fun w => Try.isAgg82 w, fun w => Try.sizeOf82 w⟩
instance : Zr Try.prog 82 [.nilFunc] := ⟨_, fun w => Try.zeroValue82 w, rfl⟩
instance : Sc Try.prog 83 := ⟨fun w => Try.isAgg83 w, fun w => Try.sizeOf83 w⟩
instance : Zr Try.prog 83 [.nilFunc] := ⟨_, fun w => Try.zeroValue83 w, rfl⟩
instance : Sc Try.prog 84 := ⟨fun w => Try.isAgg84 w, fun w => Try.sizeOf84 w⟩
instance : Zr Try.prog 84 [.nilFunc] := ⟨_, fun w => Try.zeroValue84 w, rfl⟩
instance : Sc Try.prog 85 := ⟨fun w => Try.isAgg85 w, fun w => Try.sizeOf85 w⟩
instance : Zr Try.prog 85 [.nilFunc] := ⟨_, fun w => Try.zeroValue85 w, rfl⟩
instance : Sc Try.prog 86 := ⟨fun w => Try.isAgg86 w, fun w => Try.sizeOf86 w⟩
instance : Zr Try.prog 86 [.nilFunc] := ⟨_, fun w => Try.zeroValue86 w, rfl⟩
instance : Sc Try.prog 87 := ⟨fun w => Try.isAgg87 w, fun w => Try.sizeOf87 w⟩
instance : Zr Try.prog 87 [.nilFunc] := ⟨_, fun w => Try.zeroValue87 w, rfl⟩
instance : Sc Try.prog 88 := ⟨fun w => Try.isAgg88 w, fun w => Try.sizeOf88 w⟩
instance : Zr Try.prog 88 [.nilFunc] := ⟨_, fun w => Try.zeroValue88 w, rfl⟩
instance : Sc Try.prog 89 := ⟨fun w => Try.isAgg89 w, fun w => Try.sizeOf89 w⟩
instance : Zr Try.prog 89 [.nilFunc] := ⟨_, fun w => Try.zeroValue89 w, rfl⟩
instance : Sc Try.prog 90 := ⟨fun w => Try.isAgg90 w, fun w => Try.sizeOf90 w⟩
instance : Zr Try.prog 90 [.nilFunc] := ⟨_, fun w => Try.zeroValue90 w, rfl⟩
instance : Sc Try.prog 91 := ⟨fun w => Try.isAgg91 w, fun w => Try.sizeOf91 w⟩
instance : Zr Try.prog 91 [.nilFunc] := ⟨_, fun w => Try.zeroValue91 w, rfl⟩
instance : Sc Try.prog 92 := ⟨fun w => Try.isAgg92 w, fun w => Try.sizeOf92 w⟩
instance : Zr Try.prog 92 [(.pointer none)] := ⟨_, fun w => Try.zeroValue92 w, rfl⟩
instance : Ag Try.prog 93 4 := ⟨fun w => Try.isAgg93 w, fun w => Try.sizeOf93 w⟩
instance : Zr Try.prog 93 [(.slice none 0 0), (.slice none 0 0), (.slice none 0 0), (.slice none 0 0)] := ⟨_, fun w => Try.zeroValue93 w, rfl⟩
instance : Fo Try.prog 93 0 0 := ⟨fun w a => by simp [Instr.fieldAt, Instr.sureAddr, fieldPlace]⟩
instance : Fo Try.prog 93 1 1 := ⟨fun w a => by simp [Instr.fieldAt, Instr.sureAddr, fieldPlace]⟩
instance : Fo Try.prog 93 2 2 := ⟨fun w a => by simp [Instr.fieldAt, Instr.sureAddr, fieldPlace]⟩
instance : Fo Try.prog 93 3 3 := ⟨fun w a => by simp [Instr.fieldAt, Instr.sureAddr, fieldPlace]⟩
instance : StT Try.prog 93 [(0, 1), (1, 1), (2, 1), (3, 1)] [(.slice none 0 0), (.slice none 0 0), (.slice none 0 0), (.slice none 0 0)] := ⟨_, Try.t93, _, Try.underlying93, by kernel_rfl, by kernel_rfl, rfl, rfl⟩
instance : Ag Try.prog 94 4 := ⟨fun w => Try.isAgg94 w, fun w => Try.sizeOf94 w⟩
instance : Zr Try.prog 94 [(.slice none 0 0), (.slice none 0 0), (.slice none 0 0), (.slice none 0 0)] := ⟨_, fun w => Try.zeroValue94 w, rfl⟩
instance : Fo Try.prog 94 0 0 := ⟨fun w a => by simp [Instr.fieldAt, Instr.sureAddr, fieldPlace]⟩
instance : Fo Try.prog 94 1 1 := ⟨fun w a => by simp [Instr.fieldAt, Instr.sureAddr, fieldPlace]⟩
instance : Fo Try.prog 94 2 2 := ⟨fun w a => by simp [Instr.fieldAt, Instr.sureAddr, fieldPlace]⟩
instance : Fo Try.prog 94 3 3 := ⟨fun w a => by simp [Instr.fieldAt, Instr.sureAddr, fieldPlace]⟩
instance : StT Try.prog 94 [(0, 1), (1, 1), (2, 1), (3, 1)] [(.slice none 0 0), (.slice none 0 0), (.slice none 0 0), (.slice none 0 0)] := ⟨_, Try.t94, _, Try.underlying94, by kernel_rfl, by kernel_rfl, rfl, rfl⟩
instance : Sc Try.prog 95 := ⟨fun w => Try.isAgg95 w, fun w => Try.sizeOf95 w⟩
instance : Zr Try.prog 95 [.nilFunc] := ⟨_, fun w => Try.zeroValue95 w, rfl⟩
instance : Sc Try.prog 96 := ⟨fun w => Try.isAgg96 w, fun w => Try.sizeOf96 w⟩
instance : Zr Try.prog 96 [.nilFunc] := ⟨_, fun w => Try.zeroValue96 w, rfl⟩
instance : Sc Try.prog 97 := ⟨fun w => Try.isAgg97 w, fun w => Try.sizeOf97 w⟩
instance : Zr Try.prog 97 [.nilFunc] := ⟨_, fun w => Try.zeroValue97 w, rfl⟩
instance : Sc Try.prog 98 := ⟨fun w => Try.isAgg98 w, fun w => Try.sizeOf98 w⟩
instance : Zr Try.prog 98 [.nilFunc] := ⟨_, fun w => Try.zeroValue98 w, rfl⟩
instance : Sc Try.prog 99 := ⟨fun w => Try.isAgg99 w, fun w => Try.sizeOf99 w⟩
instance : Zr Try.prog 99 [.nilFunc] := ⟨_, fun w => Try.zeroValue99 w, rfl⟩
instance : Sc Try.prog 101 := ⟨fun w => Try.isAgg101 w, fun w => Try.sizeOf101 w⟩
instance : Zr Try.prog 101 [.nilFunc] := ⟨_, fun w => Try.zeroValue101 w, rfl⟩
instance : Sc Try.prog 102 := ⟨fun w => Try.isAgg102 w, fun w => Try.sizeOf102 w⟩
instance : Zr Try.prog 102 [(.int .u32 (0))] := ⟨_, fun w => Try.zeroValue102 w, rfl⟩
instance : Sc Try.prog 103 := ⟨fun w => Try.isAgg103 w, fun w => Try.sizeOf103 w⟩
instance : Zr Try.prog 103 [(.int .u32 (0))] := ⟨_, fun w => Try.zeroValue103 w, rfl⟩
instance : Sc Try.prog 104 := ⟨fun w => Try.isAgg104 w, fun w => Try.sizeOf104 w⟩
instance : Zr Try.prog 104 [.nilFunc] := ⟨_, fun w => Try.zeroValue104 w, rfl⟩
instance : Sc Try.prog 105 := ⟨fun w => Try.isAgg105 w, fun w => Try.sizeOf105 w⟩
instance : Zr Try.prog 105 [.nilFunc] := ⟨_, fun w => Try.zeroValue105 w, rfl⟩
instance : Sc Try.prog 106 := ⟨fun w => Try.isAgg106 w, fun w => Try.sizeOf106 w⟩
instance : Zr Try.prog 106 [.nilFunc] := ⟨_, fun w => Try.zeroValue106 w, rfl⟩
instance : Sc Try.prog 107 := ⟨fun w => Try.isAgg107 w, fun w => Try.sizeOf107 w⟩
instance : Zr Try.prog 107 [.nilFunc] := ⟨_, fun w => Try.zeroValue107 w, rfl⟩
instance : Ag Try.prog 108 3 := ⟨fun w => Try.isAgg108 w, fun w => Try.sizeOf108 w⟩
instance : Zr Try.prog 108 [(.int .i64 (0)), (.slice none 0 0), (.int .i64 (0))] := ⟨_, fun w => Try.zeroValue108 w, rfl⟩
instance : Fo Try.prog 108 0 0 := ⟨fun w a => by simp [Instr.fieldAt, Instr.sureAddr, fieldPlace]⟩
instance : Fo Try.prog 108 1 1 := ⟨fun w a => by simp [Instr.fieldAt, Instr.sureAddr, fieldPlace]⟩
instance : Fo Try.prog 108 2 2 := ⟨fun w a => by simp [Instr.fieldAt, Instr.sureAddr, fieldPlace]⟩
instance : StT Try.prog 108 [(0, 1), (1, 1), (2, 1)] [(.int .i64 (0)), (.slice none 0 0), (.int .i64 (0))] := ⟨_, Try.t108, _, Try.underlying108, by kernel_rfl, by kernel_rfl, rfl, rfl⟩
instance : Ag Try.prog 109 3 := ⟨fun w => Try.isAgg109 w, fun w => Try.sizeOf109 w⟩
instance : Zr Try.prog 109 [(.int .i64 (0)), (.slice none 0 0), (.int .i64 (0))] := ⟨_, fun w => Try.zeroValue109 w, rfl⟩
instance : Fo Try.prog 109 0 0 := ⟨fun w a => by simp [Instr.fieldAt, Instr.sureAddr, fieldPlace]⟩
instance : Fo Try.prog 109 1 1 := ⟨fun w a => by simp [Instr.fieldAt, Instr.sureAddr, fieldPlace]⟩
instance : Fo Try.prog 109 2 2 := ⟨fun w a => by simp [Instr.fieldAt, Instr.sureAddr, fieldPlace]⟩
instance : StT Try.prog 109 [(0, 1), (1, 1), (2, 1)] [(.int .i64 (0)), (.slice none 0 0), (.int .i64 (0))] := ⟨_, Try.t109, _, Try.underlying109, by kernel_rfl, by kernel_rfl, rfl, rfl⟩
instance : Sc Try.prog 110 := ⟨fun w => Try.isAgg110 w, fun w => Try.sizeOf110 w⟩
instance : Zr Try.prog 110 [.nilFunc] := ⟨_, fun w => Try.zeroValue110 w, rfl⟩
instance : Sc Try.prog 111 := ⟨fun w => Try.isAgg111 w, fun w => Try.sizeOf111 w⟩
instance : Zr Try.prog 111 [.nilFunc] := ⟨_, fun w => Try.zeroValue111 w, rfl⟩
instance : Ag Try.prog 112 3 := ⟨fun w => Try.isAgg112 w, fun w => Try.sizeOf112 w⟩
instance : Zr Try.prog 112 [(.slice none 0 0), (.int .i64 (0)), (.int .u64 (0))] := ⟨_, fun w => Try.zeroValue112 w, rfl⟩
instance : Fo Try.prog 112 0 0 := ⟨fun w a => by simp [Instr.fieldAt, Instr.sureAddr, fieldPlace]⟩
instance : Fo Try.prog 112 1 1 := ⟨fun w a => by simp [Instr.fieldAt, Instr.sureAddr, fieldPlace]⟩
instance : Fo Try.prog 112 2 2 := ⟨fun w a => by simp [Instr.fieldAt, Instr.sureAddr, fieldPlace]⟩
instance : StT Try.prog 112 [(0, 1), (1, 1), (2, 1)] [(.slice none 0 0), (.int .i64 (0)), (.int .u64 (0))] := ⟨_, Try.t112, _, Try.underlying112, by kernel_rfl, by kernel_rfl, rfl, rfl⟩
instance : Ag Try.prog 113 3 := ⟨fun w => Try.isAgg113 w, fun w => Try.sizeOf113 w⟩
instance : Zr Try.prog 113 [(.slice none 0 0), (.int .i64 (0)), (.int .u64 (0))] := ⟨_, fun w => Try.zeroValue113 w, rfl⟩
instance : Fo Try.prog 113 0 0 := ⟨fun w a => by simp [Instr.fieldAt, Instr.sureAddr, fieldPlace]⟩
instance : Fo Try.prog 113 1 1 := ⟨fun w a => by simp [Instr.fieldAt, Instr.sureAddr, fieldPlace]⟩
instance : Fo Try.prog 113 2 2 := ⟨fun w a => by simp [Instr.fieldAt, Instr.sureAddr, fieldPlace]⟩
instance : StT Try.prog 113 [(0, 1), (1, 1), (2, 1)] [(.slice none 0 0), (.int .i64 (0)), (.int .u64 (0))] := ⟨_, Try.t113, _, Try.underlying113, by kernel_rfl, by kernel_rfl, rfl, rfl⟩
instance : Sc Try.prog 114 := ⟨fun w => Try.isAgg114 w, fun w => Try.sizeOf114 w⟩
instance : Zr Try.prog 114 [.nilFunc] := ⟨_, fun w => Try.zeroValue114 w, rfl⟩
instance : Sc Try.prog 115 := ⟨fun w => Try.isAgg115 w, fun w => Try.sizeOf115 w⟩
instance : Zr Try.prog 115 [.nilFunc] := ⟨_, fun w => Try.zeroValue115 w, rfl⟩
instance : Ag Try.prog 116 2 := ⟨fun w => Try.isAgg116 w, fun w => Try.sizeOf116 w⟩
instance : Zr Try.prog 116 [(.slice none 0 0), (.slice none 0 0)] := ⟨_, fun w => Try.zeroValue116 w, rfl⟩
instance : Fo Try.prog 116 0 0 := ⟨fun w a => by simp [Instr.fieldAt, Instr.sureAddr, fieldPlace]⟩
instance : Fo Try.prog 116 1 1 := ⟨fun w a => by simp [Instr.fieldAt, Instr.sureAddr, fieldPlace]⟩
instance : StT Try.prog 116 [(0, 1), (1, 1)] [(.slice none 0 0), (.slice none 0 0)] := ⟨_, Try.t116, _, Try.underlying116, by kernel_rfl, by kernel_rfl, rfl, rfl⟩
instance : Ag Try.prog 117 2 := ⟨fun w => Try.isAgg117 w, fun w => Try.sizeOf117 w⟩
instance : Zr Try.prog 117 [(.slice none 0 0), (.slice none 0 0)] := ⟨_, fun w => Try.zeroValue117 w, rfl⟩
instance : Fo Try.prog 117 0 0 := ⟨fun w a => by simp [Instr.fieldAt, Instr.sureAddr, fieldPlace]⟩
instance : Fo Try.prog 117 1 1 := ⟨fun w a => by simp [Instr.fieldAt, Instr.sureAddr, fieldPlace]⟩
instance : StT Try.prog 117 [(0, 1), (1, 1)] [(.slice none 0 0), (.slice none 0 0)] := ⟨_, Try.t117, _, Try.underlying117, by kernel_rfl, by kernel_rfl, rfl, rfl⟩
instance : Sc Try.prog 118 := ⟨fun w => Try.isAgg118 w, fun w => Try.sizeOf118 w⟩
instance : Zr Try.prog 118 [.nilFunc] := ⟨_, fun w => Try.zeroValue118 w, rfl⟩
instance : Sc Try.prog 119 := ⟨fun w => Try.isAgg119 w, fun w => Try.sizeOf119 w⟩
instance : Zr Try.prog 119 [.nilFunc] := ⟨_, fun w => Try.zeroValue119 w, rfl⟩
instance : Sc Try.prog 120 := ⟨fun w => Try.isAgg120 w, fun w => Try.sizeOf120 w⟩
instance : Zr Try.prog 120 [.nilFunc] := ⟨_, fun w => Try.zeroValue120 w, rfl⟩
instance : Sc Try.prog 121 := ⟨fun w => Try.isAgg121 w, fun w => Try.sizeOf121 w⟩
instance : Zr Try.prog 121 [(.int .u64 (0))] := ⟨_, fun w => Try.zeroValue121 w, rfl⟩
instance : Ag Try.prog 122 3 := ⟨fun w => Try.isAgg122 w, fun w => Try.sizeOf122 w⟩
instance : Zr Try.prog 122 [(.slice none 0 0), (.int .i64 (0)), (.int .i64 (0))] := ⟨_, fun w => Try.zeroValue122 w, rfl⟩
instance : Fo Try.prog 122 0 0 := ⟨fun w a => by simp [Instr.fieldAt, Instr.sureAddr, fieldPlace]⟩
instance : Fo Try.prog 122 1 1 := ⟨fun w a => by simp [Instr.fieldAt, Instr.sureAddr, fieldPlace]⟩
instance : Fo Try.prog 122 2 2 := ⟨fun w a => by simp [Instr.fieldAt, Instr.sureAddr, fieldPlace]⟩
instance : StT Try.prog 122 [(0, 1), (1, 1), (2, 1)] [(.slice none 0 0), (.int .i64 (0)), (.int .i64 (0))] := ⟨_, Try.t122, _, Try.underlying122, by kernel_rfl, by kernel_rfl, rfl, rfl⟩
instance : Ag Try.prog 123 3 := ⟨fun w => Try.isAgg123 w, fun w => Try.sizeOf123 w⟩
instance : Zr Try.prog 123 [(.slice none 0 0), (.int .i64 (0)), (.int .i64 (0))] := ⟨_, fun w => Try.zeroValue123 w, rfl⟩
instance : Fo Try.prog 123 0 0 := ⟨fun w a => by simp [Instr.fieldAt, Instr.sureAddr, fieldPlace]⟩
instance : Fo Try.prog 123 1 1 := ⟨fun w a => by simp [Instr.fieldAt, Instr.sureAddr, fieldPlace]⟩
instance : Fo Try.prog 123 2 2 := ⟨fun w a => by simp [Instr.fieldAt, Instr.sureAddr, fieldPlace]⟩
instance : StT Try.prog 123 [(0, 1), (1, 1), (2, 1)] [(.slice none 0 0), (.int .i64 (0)), (.int .i64 (0))] := ⟨_, Try.t123, _, Try.underlying123, by kernel_rfl, by kernel_rfl, rfl, rfl⟩
instance : Sc Try.prog 124 := ⟨fun w => Try.isAgg124 w, fun w => Try.sizeOf124 w⟩
instance : Zr Try.prog 124 [.nilFunc] := ⟨_, fun w => Try.zeroValue124 w, rfl⟩
instance : Sc Try.prog 125 := ⟨fun w => Try.isAgg125 w, fun w => Try.sizeOf125 w⟩
instance : Zr Try.prog 125 [.nilFunc] := ⟨_, fun w => Try.zeroValue125 w, rfl⟩
instance : Sc Try.prog 126 := ⟨fun w => Try.isAgg126 w, fun w => Try.sizeOf126 w⟩
instance : Zr Try.prog 126 [.nilFunc] := ⟨_, fun w => Try.zeroValue126 w, rfl⟩
instance : Sc Try.prog 127 := ⟨fun w => Try.isAgg127 w, fun w => Try.sizeOf127 w⟩
instance : Zr Try.prog 127 [.nilFunc] := ⟨_, fun w => Try.zeroValue127 w, rfl⟩
instance : Sc Try.prog 128 := ⟨fun w => Try.isAgg128 w, fun w => Try.sizeOf128 w⟩
instance : Zr Try.prog 128 [.nilFunc] := ⟨_, fun w => Try.zeroValue128 w, rfl⟩
instance : Ag Try.prog 129 24 := ⟨fun w => Try.isAgg129 w, fun w => Try.sizeOf129 w⟩
instance : Zr Try.prog 129 [(.slice none 0 0), (.slice none 0 0), (.slice none 0 0), (.slice none 0 0), (.slice none 0 0), (.slice none 0 0), (.slice none 0 0), (.slice none 0 0), (.slice none 0 0), (.slice none 0 0), (.slice none 0 0), (.slice none 0 0), (.slice none 0 0), (.slice none 0 0), (.slice none 0 0), (.slice none 0 0), (.slice none 0 0), (.slice none 0 0), (.slice none 0 0), (.slice none 0 0), (.slice none 0 0), (.slice none 0 0), (.slice none 0 0), (.slice none 0 0)] := ⟨_, fun w => Try.zeroValue129 w, rfl⟩
instance : ArT Try.prog 129 24 := ⟨_, Try.t24, Try.underlying129, by kernel_rfl, rfl, by decide⟩
instance : Ag Try.prog 130 24 := ⟨fun w => Try.isAgg130 w, fun w => Try.sizeOf130 w⟩
instance : Zr Try.prog 130 [(.slice none 0 0), (.slice none 0 0), (.slice none 0 0), (.slice none 0 0), (.slice none 0 0), (.slice none 0 0), (.slice none 0 0), (.slice none 0 0), (.slice none 0 0), (.slice none 0 0), (.slice none 0 0), (.slice none 0 0), (.slice none 0 0), (.slice none 0 0), (.slice none 0 0), (.slice none 0 0), (.slice none 0 0), (.slice none 0 0), (.slice none 0 0), (.slice none 0 0), (.slice none 0 0), (.slice none 0 0), (.slice none 0 0), (.slice none 0 0)] := ⟨_, fun w => Try.zeroValue130 w, rfl⟩
instance : ArT Try.prog 130 24 := ⟨_, Try.t24, Try.underlying130, by kernel_rfl, rfl, by decide⟩
instance : Sc Try.prog 132 := ⟨fun w => Try.isAgg132 w, fun w => Try.sizeOf132 w⟩
instance : Zr Try.prog 132 [.nilFunc] := ⟨_, fun w => Try.zeroValue132 w, rfl⟩
instance : Sc Try.prog 133 := ⟨fun w => Try.isAgg133 w, fun w => Try.sizeOf133 w⟩
instance : Zr Try.prog 133 [.nilFunc] := ⟨_, fun w => Try.zeroValue133 w, rfl⟩
instance : Sc Try.prog 134 := ⟨fun w => Try.isAgg134 w, fun w => Try.sizeOf134 w⟩
instance : Zr Try.prog 134 [.nilFunc] := ⟨_, fun w => Try.zeroValue134 w, rfl⟩
instance : Sc Try.prog 135 := ⟨fun w => Try.isAgg135 w, fun w => Try.sizeOf135 w⟩
instance : Zr Try.prog 135 [.nilFunc] := ⟨_, fun w => Try.zeroValue135 w, rfl⟩
instance : Sc Try.prog 136 := ⟨fun w => Try.isAgg136 w, fun w => Try.sizeOf136 w⟩
instance : Zr Try.prog 136 [.nilFunc] := ⟨_, fun w => Try.zeroValue136 w, rfl⟩
instance : Sc Try.prog 137 := ⟨fun w => Try.isAgg137 w, fun w => Try.sizeOf137 w⟩
instance : Zr Try.prog 137 [.nilFunc] := ⟨_, fun w => Try.zeroValue137 w, rfl⟩
instance : Sc Try.prog 138 := ⟨fun w => Try.isAgg138 w, fun w => Try.sizeOf138 w⟩
instance : Zr Try.prog 138 [(.slice none 0 0)] := ⟨_, fun w => Try.zeroValue138 w, rfl⟩
instance : Sl Try.prog 138 1 8 := ⟨3, Try.t3, _, Try.underlying138, by kernel_rfl, rfl, rfl, rfl, rfl, by decide⟩
instance : SlZ Try.prog 138 [(.int .i64 (0))] := ⟨fun {e i z} h1 h2 h3 => by
  rw [Try.underlying138] at h1; cases h1
  rw [show Try.prog.info? 3 = some Try.t3 by kernel_rfl] at h2; cases h2; cases h3; rfl⟩
instance : Sc Try.prog 139 := ⟨fun w => Try.isAgg139 w, fun w => Try.sizeOf139 w⟩
instance : Zr Try.prog 139 [.nilFunc] := ⟨_, fun w => Try.zeroValue139 w, rfl⟩
instance : Sc Try.prog 141 := ⟨fun w => Try.isAgg141 w, fun w => Try.sizeOf141 w⟩
instance : Zr Try.prog 141 [.nilFunc] := ⟨_, fun w => Try.zeroValue141 w, rfl⟩
instance : Sc Try.prog 142 := ⟨fun w => Try.isAgg142 w, fun w => Try.sizeOf142 w⟩
instance : Zr Try.prog 142 [.nilFunc] := ⟨_, fun w => Try.zeroValue142 w, rfl⟩
instance : Sc Try.prog 143 := ⟨fun w => Try.isAgg143 w, fun w => Try.sizeOf143 w⟩
instance : Zr Try.prog 143 [(.pointer none)] := ⟨_, fun w => Try.zeroValue143 w, rfl⟩
instance : Ag Try.prog 144 48 := ⟨fun w => Try.isAgg144 w, fun w => Try.sizeOf144 w⟩
instance : Zr Try.prog 144 [(.slice none 0 0), (.slice none 0 0), (.slice none 0 0), (.slice none 0 0), (.slice none 0 0), (.slice none 0 0), (.slice none 0 0), (.slice none 0 0), (.slice none 0 0), (.slice none 0 0), (.slice none 0 0), (.slice none 0 0), (.slice none 0 0), (.slice none 0 0), (.slice none 0 0), (.slice none 0 0), (.slice none 0 0), (.slice none 0 0), (.slice none 0 0), (.slice none 0 0), (.slice none 0 0), (.slice none 0 0), (.slice none 0 0), (.slice none 0 0), (.slice none 0 0), (.slice none 0 0), (.slice none 0 0), (.slice none 0 0), (.slice none 0 0), (.slice none 0 0), (.slice none 0 0), (.slice none 0 0), (.slice none 0 0), (.slice none 0 0), (.slice none 0 0), (.slice none 0 0), (.slice none 0 0), (.slice none 0 0), (.slice none 0 0), (.slice none 0 0), (.slice none 0 0), (.slice none 0 0), (.slice none 0 0), (.slice none 0 0), (.slice none 0 0), (.slice none 0 0), (.slice none 0 0), (.slice none 0 0)] := ⟨_, fun w => Try.zeroValue144 w, rfl⟩
instance : ArT Try.prog 144 48 := ⟨_, Try.t24, Try.underlying144, by kernel_rfl, rfl, by decide⟩
instance : Ag Try.prog 145 49 := ⟨fun w => Try.isAgg145 w, fun w => Try.sizeOf145 w⟩
instance : Zr Try.prog 145 [(.slice none 0 0), (.slice none 0 0), (.slice none 0 0), (.slice none 0 0), (.slice none 0 0), (.slice none 0 0), (.slice none 0 0), (.slice none 0 0), (.slice none 0 0), (.slice none 0 0), (.slice none 0 0), (.slice none 0 0), (.slice none 0 0), (.slice none 0 0), (.slice none 0 0), (.slice none 0 0), (.slice none 0 0), (.slice none 0 0), (.slice none 0 0), (.slice none 0 0), (.slice none 0 0), (.slice none 0 0), (.slice none 0 0), (.slice none 0 0), (.slice none 0 0), (.slice none 0 0), (.slice none 0 0), (.slice none 0 0), (.slice none 0 0), (.slice none 0 0), (.slice none 0 0), (.slice none 0 0), (.slice none 0 0), (.slice none 0 0), (.slice none 0 0), (.slice none 0 0), (.slice none 0 0), (.slice none 0 0), (.slice none 0 0), (.slice none 0 0), (.slice none 0 0), (.slice none 0 0), (.slice none 0 0), (.slice none 0 0), (.slice none 0 0), (.slice none 0 0), (.slice none 0 0), (.slice none 0 0), (.slice none 0 0)] := ⟨_, fun w => Try.zeroValue145 w, rfl⟩
instance : Fo Try.prog 145 0 0 := ⟨fun w a => by simp [Instr.fieldAt, Instr.sureAddr, fieldPlace]⟩
instance : Fo Try.prog 145 1 1 := ⟨fun w a => by simp [Instr.fieldAt, Instr.sureAddr, fieldPlace]⟩
instance : StT Try.prog 145 [(0, 1), (1, 48)] [(.slice none 0 0), (.slice none 0 0), (.slice none 0 0), (.slice none 0 0), (.slice none 0 0), (.slice none 0 0), (.slice none 0 0), (.slice none 0 0), (.slice none 0 0), (.slice none 0 0), (.slice none 0 0), (.slice none 0 0), (.slice none 0 0), (.slice none 0 0), (.slice none 0 0), (.slice none 0 0), (.slice none 0 0), (.slice none 0 0), (.slice none 0 0), (.slice none 0 0), (.slice none 0 0), (.slice none 0 0), (.slice none 0 0), (.slice none 0 0), (.slice none 0 0), (.slice none 0 0), (.slice none 0 0), (.slice none 0 0), (.slice none 0 0), (.slice none 0 0), (.slice none 0 0), (.slice none 0 0), (.slice none 0 0), (.slice none 0 0), (.slice none 0 0), (.slice none 0 0), (.slice none 0 0), (.slice none 0 0), (.slice none 0 0), (.slice none 0 0), (.slice none 0 0), (.slice none 0 0), (.slice none 0 0), (.slice none 0 0), (.slice none 0 0), (.slice none 0 0), (.slice none 0 0), (.slice none 0 0), (.slice none 0 0)] := ⟨_, Try.t145, _, Try.underlying145, by kernel_rfl, by kernel_rfl, rfl, rfl⟩
instance : Ag Try.prog 146 49 := ⟨fun w => Try.isAgg146 w, fun w => Try.sizeOf146 w⟩
instance : Zr Try.prog 146 [(.slice none 0 0), (.slice none 0 0), (.slice none 0 0), (.slice none 0 0), (.slice none 0 0), (.slice none 0 0), (.slice none 0 0), (.slice none 0 0), (.slice none 0 0), (.slice none 0 0), (.slice none 0 0), (.slice none 0 0), (.slice none 0 0), (.slice none 0 0), (.slice none 0 0), (.slice none 0 0), (.slice none 0 0), (.slice none 0 0), (.slice none 0 0), (.slice none 0 0), (.slice none 0 0), (.slice none 0 0), (.slice none 0 0), (.slice none 0 0), (.slice none 0 0), (.slice none 0 0), (.slice none 0 0), (.slice none 0 0), (.slice none 0 0), (.slice none 0 0), (.slice none 0 0), (.slice none 0 0), (.slice none 0 0), (.slice none 0 0), (.slice none 0 0), (.slice none 0 0), (.slice none 0 0), (.slice none 0 0), (.slice none 0 0), (.slice none 0 0), (.slice none 0 0), (.slice none 0 0), (.slice none 0 0), (.slice none 0 0), (.slice none 0 0), (.slice none 0 0), (.slice none 0 0), (.slice none 0 0), (.slice none 0 0)] := ⟨_, fun w => Try.zeroValue146 w, rfl⟩
instance : Fo Try.prog 146 0 0 := ⟨fun w a => by simp [Instr.fieldAt, Instr.sureAddr, fieldPlace]⟩
instance : Fo Try.prog 146 1 1 := ⟨fun w a => by simp [Instr.fieldAt, Instr.sureAddr, fieldPlace]⟩
instance : StT Try.prog 146 [(0, 1), (1, 48)] [(.slice none 0 0), (.slice none 0 0), (.slice none 0 0), (.slice none 0 0), (.slice none 0 0), (.slice none 0 0), (.slice none 0 0), (.slice none 0 0), (.slice none 0 0), (.slice none 0 0), (.slice none 0 0), (.slice none 0 0), (.slice none 0 0), (.slice none 0 0), (.slice none 0 0), (.slice none 0 0), (.slice none 0 0), (.slice none 0 0), (.slice none 0 0), (.slice none 0 0), (.slice none 0 0), (.slice none 0 0), (.slice none 0 0), (.slice none 0 0), (.slice none 0 0), (.slice none 0 0), (.slice none 0 0), (.slice none 0 0), (.slice none 0 0), (.slice none 0 0), (.slice none 0 0), (.slice none 0 0), (.slice none 0 0), (.slice none 0 0), (.slice none 0 0), (.slice none 0 0), (.slice none 0 0), (.slice none 0 0), (.slice none 0 0), (.slice none 0 0), (.slice none 0 0), (.slice none 0 0), (.slice none 0 0), (.slice none 0 0), (.slice none 0 0), (.slice none 0 0), (.slice none 0 0), (.slice none 0 0), (.slice none 0 0)] := ⟨_, Try.t146, _, Try.underlying146, by kernel_rfl, by kernel_rfl, rfl, rfl⟩
instance : Sc Try.prog 147 := ⟨fun w => Try.isAgg147 w, fun w => Try.sizeOf147 w⟩
instance : Zr Try.prog 147 [.nilFunc] := ⟨_, fun w => Try.zeroValue147 w, rfl⟩
instance : Sc Try.prog 148 := ⟨fun w => Try.isAgg148 w, fun w => Try.sizeOf148 w⟩
instance : Zr Try.prog 148 [.nilFunc] := ⟨_, fun w => Try.zeroValue148 w, rfl⟩
instance : Sc Try.prog 149 := ⟨fun w => Try.isAgg149 w, fun w => Try.sizeOf149 w⟩
instance : Zr Try.prog 149 [.nilFunc] := ⟨_, fun w => Try.zeroValue149 w, rfl⟩
instance : Sc Try.prog 150 := ⟨fun w => Try.isAgg150 w, fun w => Try.sizeOf150 w⟩
instance : Zr Try.prog 150 [.nilFunc] := ⟨_, fun w => Try.zeroValue150 w, rfl⟩
instance : Sc Try.prog 151 := ⟨fun w => Try.isAgg151 w, fun w => Try.sizeOf151 w⟩
instance : Zr Try.prog 151 [.nilFunc] := ⟨_, fun w => Try.zeroValue151 w, rfl⟩
instance : Sc Try.prog 153 := ⟨fun w => Try.isAgg153 w, fun w => Try.sizeOf153 w⟩
instance : Zr Try.prog 153 [.nilFunc] := ⟨_, fun w => Try.zeroValue153 w, rfl⟩
instance : Sc Try.prog 154 := ⟨fun w => Try.isAgg154 w, fun w => Try.sizeOf154 w⟩
instance : Zr Try.prog 154 [.nilFunc] := ⟨_, fun w => Try.zeroValue154 w, rfl⟩
instance : Sc Try.prog 155 := ⟨fun w => Try.isAgg155 w, fun w => Try.sizeOf155 w⟩
instance : Zr Try.prog 155 [.nilFunc] := ⟨_, fun w => Try.zeroValue155 w, rfl⟩
instance : Sc Try.prog 156 := ⟨fun w => Try.isAgg156 w, fun w => Try.sizeOf156 w⟩
instance : Zr Try.prog 156 [.nilFunc] := ⟨_, fun w => Try.zeroValue156 w, rfl⟩
instance : Sc Try.prog 157 := ⟨fun w => Try.isAgg157 w, fun w => Try.sizeOf157 w⟩
instance : Zr Try.prog 157 [.nilFunc] := ⟨_, fun w => Try.zeroValue157 w, rfl⟩
instance : Sc Try.prog 158 := ⟨fun w => Try.isAgg158 w, fun w => Try.sizeOf158 w⟩
instance : Zr Try.prog 158 [(.slice none 0 0)] := ⟨_, fun w => Try.zeroValue158 w, rfl⟩
instance : Sl Try.prog 158 1 4 := ⟨103, Try.t103, _, Try.underlying158, by kernel_rfl, rfl, rfl, rfl, rfl, by decide⟩
instance : SlZ Try.prog 158 [(.int .u32 (0))] := ⟨fun {e i z} h1 h2 h3 => by
  rw [Try.underlying158] at h1; cases h1
  rw [show Try.prog.info? 103 = some Try.t103 by kernel_rfl] at h2; cases h2; cases h3; rfl⟩
instance : Sc Try.prog 159 := ⟨fun w => Try.isAgg159 w, fun w => Try.sizeOf159 w⟩
instance : Zr Try.prog 159 [.nilFunc] := ⟨_, fun w => Try.zeroValue159 w, rfl⟩
instance : Sc Try.prog 160 := ⟨fun w => Try.isAgg160 w, fun w => Try.sizeOf160 w⟩
instance : Zr Try.prog 160 [.nilFunc] := ⟨_, fun w => Try.zeroValue160 w, rfl⟩
instance : Sc Try.prog 161 := ⟨fun w => Try.isAgg161 w, fun w => Try.sizeOf161 w⟩
instance : Zr Try.prog 161 [.nilFunc] := ⟨_, fun w => Try.zeroValue161 w, rfl⟩
instance : Sc Try.prog 162 := ⟨fun w => Try.isAgg162 w, fun w => Try.sizeOf162 w⟩
instance : Zr Try.prog 162 [.nilFunc] := ⟨_, fun w => Try.zeroValue162 w, rfl⟩
instance : Sc Try.prog 163 := ⟨fun w => Try.isAgg163 w, fun w => Try.sizeOf163 w⟩
instance : Zr Try.prog 163 [.nilFunc] := ⟨_, fun w => Try.zeroValue163 w, rfl⟩
instance : Sc Try.prog 164 := ⟨fun w => Try.isAgg164 w, fun w => Try.sizeOf164 w⟩
instance : Zr Try.prog 164 [.nilFunc] := ⟨_, fun w => Try.zeroValue164 w, rfl⟩
instance : Sc Try.prog 165 := ⟨fun w => Try.isAgg165 w, fun w => Try.sizeOf165 w⟩
instance : Zr Try.prog 165 [.nilFunc] := ⟨_, fun w => Try.zeroValue165 w, rfl⟩
instance : Sc Try.prog 166 := ⟨fun w => Try.isAgg166 w, fun w => Try.sizeOf166 w⟩
instance : Zr Try.prog 166 [.nilFunc] := ⟨_, fun w => Try.zeroValue166 w, rfl⟩
instance : Sc Try.prog 167 := ⟨fun w => Try.isAgg167 w, fun w => Try.sizeOf167 w⟩
instance : Zr Try.prog 167 [.nilFunc] := ⟨_, fun w => Try.zeroValue167 w, rfl⟩
instance : Sc Try.prog 168 := ⟨fun w => Try.isAgg168 w, fun w => Try.sizeOf168 w⟩
instance : Zr Try.prog 168 [.nilFunc] := ⟨_, fun w => Try.zeroValue168 w, rfl⟩
instance : Ag Try.prog 169 3 := ⟨fun w => Try.isAgg169 w, fun w => Try.sizeOf169 w⟩
instance : Zr Try.prog 169 [(.slice none 0 0), (.slice none 0 0), (.int .i64 (0))] := ⟨_, fun w => Try.zeroValue169 w, rfl⟩
instance : Fo Try.prog 169 0 0 := ⟨fun w a => by simp [Instr.fieldAt, Instr.sureAddr, fieldPlace]⟩
instance : Fo Try.prog 169 1 1 := ⟨fun w a => by simp [Instr.fieldAt, Instr.sureAddr, fieldPlace]⟩
instance : Fo Try.prog 169 2 2 := ⟨fun w a => by simp [Instr.fieldAt, Instr.sureAddr, fieldPlace]⟩
instance : StT Try.prog 169 [(0, 1), (1, 1), (2, 1)] [(.slice none 0 0), (.slice none 0 0), (.int .i64 (0))] := ⟨_, Try.t169, _, Try.underlying169, by kernel_rfl, by kernel_rfl, rfl, rfl⟩
instance : Ag Try.prog 170 3 := ⟨fun w => Try.isAgg170 w, fun w => Try.sizeOf170 w⟩
instance : Zr Try.prog 170 [(.slice none 0 0), (.slice none 0 0), (.int .i64 (0))] := ⟨_, fun w => Try.zeroValue170 w, rfl⟩
instance : Fo Try.prog 170 0 0 := ⟨fun w a => by simp [Instr.fieldAt, Instr.sureAddr, fieldPlace]⟩
instance : Fo Try.prog 170 1 1 := ⟨fun w a => by simp [Instr.fieldAt, Instr.sureAddr, fieldPlace]⟩
instance : Fo Try.prog 170 2 2 := ⟨fun w a => by simp [Instr.fieldAt, Instr.sureAddr, fieldPlace]⟩
instance : StT Try.prog 170 [(0, 1), (1, 1), (2, 1)] [(.slice none 0 0), (.slice none 0 0), (.int .i64 (0))] := ⟨_, Try.t170, _, Try.underlying170, by kernel_rfl, by kernel_rfl, rfl, rfl⟩
instance : Sc Try.prog 171 := ⟨fun w => Try.isAgg171 w, fun w => Try.sizeOf171 w⟩
instance : Zr Try.prog 171 [.nilFunc] := ⟨_, fun w => Try.zeroValue171 w, rfl⟩
instance : Sc Try.prog 172 := ⟨fun w => Try.isAgg172 w, fun w => Try.sizeOf172 w⟩
instance : Zr Try.prog 172 [.nilFunc] := ⟨_, fun w => Try.zeroValue172 w, rfl⟩
instance : Sc Try.prog 177 := ⟨fun w => Try.isAgg177 w, fun w => Try.sizeOf177 w⟩
instance : Zr Try.prog 177 [.nilFunc] := ⟨_, fun w => Try.zeroValue177 w, rfl⟩
instance : Sc Try.prog 178 := ⟨fun w => Try.isAgg178 w, fun w => Try.sizeOf178 w⟩
instance : Zr Try.prog 178 [.nilFunc] := ⟨_, fun w => Try.zeroValue178 w, rfl⟩
instance : Sc Try.prog 179 := ⟨fun w => Try.isAgg179 w, fun w => Try.sizeOf179 w⟩
instance : Zr Try.prog 179 [.nilFunc] := ⟨_, fun w => Try.zeroValue179 w, rfl⟩
instance : Sc Try.prog 180 := ⟨fun w => Try.isAgg180 w, fun w => Try.sizeOf180 w⟩
instance : Zr Try.prog 180 [.nilFunc] := ⟨_, fun w => Try.zeroValue180 w, rfl⟩
instance : Sc Try.prog 181 := ⟨fun w => Try.isAgg181 w, fun w => Try.sizeOf181 w⟩
instance : Zr Try.prog 181 [.nilFunc] := ⟨_, fun w => Try.zeroValue181 w, rfl⟩
instance : Sc Try.prog 182 := ⟨fun w => Try.isAgg182 w, fun w => Try.sizeOf182 w⟩
instance : Zr Try.prog 182 [.nilFunc] := ⟨_, fun w => Try.zeroValue182 w, rfl⟩
instance : Sc Try.prog 183 := ⟨fun w => Try.isAgg183 w, fun w => Try.sizeOf183 w⟩
instance : Zr Try.prog 183 [.nilFunc] := ⟨_, fun w => Try.zeroValue183 w, rfl⟩
instance : Sc Try.prog 184 := ⟨fun w => Try.isAgg184 w, fun w => Try.sizeOf184 w⟩
instance : Zr Try.prog 184 [.nilFunc] := ⟨_, fun w => Try.zeroValue184 w, rfl⟩
instance : Sc Try.prog 185 := ⟨fun w => Try.isAgg185 w, fun w => Try.sizeOf185 w⟩
instance : Zr Try.prog 185 [.nilFunc] := ⟨_, fun w => Try.zeroValue185 w, rfl⟩
instance : Sc Try.prog 186 := ⟨fun w => Try.isAgg186 w, fun w => Try.sizeOf186 w⟩
instance : Zr Try.prog 186 [.nilFunc] := ⟨_, fun w => Try.zeroValue186 w, rfl⟩
instance : Sc Try.prog 187 := ⟨fun w => Try.isAgg187 w, fun w => Try.sizeOf187 w⟩
instance : Zr Try.prog 187 [(.pointer none)] := ⟨_, fun w => Try.zeroValue187 w, rfl⟩
instance : Sc Try.prog 188 := ⟨fun w => Try.isAgg188 w, fun w => Try.sizeOf188 w⟩
instance : Zr Try.prog 188 [.nilFunc] := ⟨_, fun w => Try.zeroValue188 w, rfl⟩
instance : Sc Try.prog 189 := ⟨fun w => Try.isAgg189 w, fun w => Try.sizeOf189 w⟩
instance : Zr Try.prog 189 [.nilFunc] := ⟨_, fun w => Try.zeroValue189 w, rfl⟩
instance : Sc Try.prog 190 := ⟨fun w => Try.isAgg190 w, fun w => Try.sizeOf190 w⟩
instance : Zr Try.prog 190 [(.pointer none)] := ⟨_, fun w => Try.zeroValue190 w, rfl⟩
instance : Ag Try.prog 191 48 := ⟨fun w => Try.isAgg191 w, fun w => Try.sizeOf191 w⟩
instance : Zr Try.prog 191 [(.bool false), (.bool false), (.bool false), (.bool false), (.bool false), (.bool false), (.bool false), (.bool false), (.bool false), (.bool false), (.bool false), (.bool false), (.bool false), (.bool false), (.bool false), (.bool false), (.bool false), (.bool false), (.bool false), (.bool false), (.bool false), (.bool false), (.bool false), (.bool false), (.bool false), (.bool false), (.bool false), (.bool false), (.bool false), (.bool false), (.bool false), (.bool false), (.bool false), (.bool false), (.bool false), (.bool false), (.bool false), (.bool false), (.bool false), (.bool false), (.bool false), (.bool false), (.bool false), (.bool false), (.bool false), (.bool false), (.bool false), (.bool false)] := ⟨_, fun w => Try.zeroValue191 w, rfl⟩
instance : ArT Try.prog 191 48 := ⟨_, Try.t4, Try.underlying191, by kernel_rfl, rfl, by decide⟩
instance : Sc Try.prog 192 := ⟨fun w => Try.isAgg192 w, fun w => Try.sizeOf192 w⟩
instance : Zr Try.prog 192 [.nilFunc] := ⟨_, fun w => Try.zeroValue192 w, rfl⟩
instance : Sc Try.prog 193 := ⟨fun w => Try.isAgg193 w, fun w => Try.sizeOf193 w⟩
instance : Zr Try.prog 193 [.nilFunc] := ⟨_, fun w => Try.zeroValue193 w, rfl⟩
instance : Sc Try.prog 194 := ⟨fun w => Try.isAgg194 w, fun w => Try.sizeOf194 w⟩
instance : Zr Try.prog 194 [.nilFunc] := ⟨_, fun w => Try.zeroValue194 w, rfl⟩
instance : Sc Try.prog 195 := ⟨fun w => Try.isAgg195 w, fun w => Try.sizeOf195 w⟩
instance : Zr Try.prog 195 [.nilFunc] := ⟨_, fun w => Try.zeroValue195 w, rfl⟩
instance : Sc Try.prog 196 := ⟨fun w => Try.isAgg196 w, fun w => Try.sizeOf196 w⟩
instance : Zr Try.prog 196 [.nilFunc] := ⟨_, fun w => Try.zeroValue196 w, rfl⟩
instance : Sc Try.prog 204 := ⟨fun w => Try.isAgg204 w, fun w => Try.sizeOf204 w⟩
instance : Zr Try.prog 204 [.nilFunc] := ⟨_, fun w => Try.zeroValue204 w, rfl⟩
instance : Sc Try.prog 205 := ⟨fun w => Try.isAgg205 w, fun w => Try.sizeOf205 w⟩
instance : Zr Try.prog 205 [(.pointer none)] := ⟨_, fun w => Try.zeroValue205 w, rfl⟩
instance : Sc Try.prog 210 := ⟨fun w => Try.isAgg210 w, fun w => Try.sizeOf210 w⟩
instance : Zr Try.prog 210 [.nilFunc] := ⟨_, fun w => Try.zeroValue210 w, rfl⟩
instance : Op_ Try.prog 2 (Int) repInt := op_int Try.underlying2 (by kernel_rfl)
instance : Op_ Try.prog 3 (Int) repInt := op_int Try.underlying3 (by kernel_rfl)
instance : Op_ Try.prog 4 (Bool) repBool := op_bool Try.underlying4 (by kernel_rfl)
instance : Op_ Try.prog 9 (ByteArray) repStr := op_str Try.underlying9 (by kernel_rfl)
instance : Op_ Try.prog 24 (List Int) repList := op_slice Try.underlying24 (by kernel_rfl) inferInstance
instance : Op_ Try.prog 25 (List Int) repList := op_struct Try.underlying25 (by kernel_rfl) (opF_one rfl inferInstance)
instance : Op_ Try.prog 26 (List Int) repList := op_struct Try.underlying26 (by kernel_rfl) (opF_one rfl inferInstance)
instance : Op_ Try.prog 34 (List (List Int)) repList := op_slice Try.underlying34 (by kernel_rfl) inferInstance
instance : Op_ Try.prog 35 (List (List Int)) repList := op_struct Try.underlying35 (by kernel_rfl) (opF_one rfl inferInstance)
instance : Op_ Try.prog 36 (List (List Int)) repList := op_struct Try.underlying36 (by kernel_rfl) (opF_one rfl inferInstance)
instance : Op_ Try.prog 109 (Int × List Int × Int) repProd := op_struct Try.underlying109 (by kernel_rfl) (opF_cons rfl inferInstance rfl (opF_cons rfl inferInstance rfl (opF_one rfl inferInstance)))
instance : Op_ Try.prog 49 (List (Int × List Int × Int)) repList := op_slice Try.underlying49 (by kernel_rfl) inferInstance
instance : Op_ Try.prog 50 (Int × List (Int × List Int × Int) × List Int) repProd := op_struct Try.underlying50 (by kernel_rfl) (opF_cons rfl inferInstance rfl (opF_cons rfl inferInstance rfl (opF_one rfl inferInstance)))
instance : Op_ Try.prog 51 (Int × List (Int × List Int × Int) × List Int) repProd := op_struct Try.underlying51 (by kernel_rfl) (opF_cons rfl inferInstance rfl (opF_cons rfl inferInstance rfl (opF_one rfl inferInstance)))
instance : Op_ Try.prog 117 (List Int × List Int) repProd := op_struct Try.underlying117 (by kernel_rfl) (opF_cons rfl inferInstance rfl (opF_one rfl inferInstance))
instance : Op_ Try.prog 60 (List (List Int × List Int)) repList := op_slice Try.underlying60 (by kernel_rfl) inferInstance
instance : Op_ Try.prog 61 (List Int × List (List Int × List Int)) repProd := op_struct Try.underlying61 (by kernel_rfl) (opF_cons rfl inferInstance rfl (opF_one rfl inferInstance))
instance : Op_ Try.prog 62 (List Int × List (List Int × List Int)) repProd := op_struct Try.underlying62 (by kernel_rfl) (opF_cons rfl inferInstance rfl (opF_one rfl inferInstance))
instance : Op_ Try.prog 69 (Int × Int × List Int) repProd := op_struct Try.underlying69 (by kernel_rfl) (opF_cons rfl inferInstance rfl (opF_cons rfl inferInstance rfl (opF_one rfl inferInstance)))
instance : Op_ Try.prog 65 (List (Int × Int × List Int)) repList := op_slice Try.underlying65 (by kernel_rfl) inferInstance
instance : Op_ Try.prog 68 (Int × Int × List Int) repProd := op_struct Try.underlying68 (by kernel_rfl) (opF_cons rfl inferInstance rfl (opF_cons rfl inferInstance rfl (opF_one rfl inferInstance)))
instance : Op_ Try.prog 93 (List Int × List (List Int) × List (List Int) × List Int) repProd := op_struct Try.underlying93 (by kernel_rfl) (opF_cons rfl inferInstance rfl (opF_cons rfl inferInstance rfl (opF_cons rfl inferInstance rfl (opF_one rfl inferInstance))))
instance : Op_ Try.prog 94 (List Int × List (List Int) × List (List Int) × List Int) repProd := op_struct Try.underlying94 (by kernel_rfl) (opF_cons rfl inferInstance rfl (opF_cons rfl inferInstance rfl (opF_cons rfl inferInstance rfl (opF_one rfl inferInstance))))
instance : Op_ Try.prog 108 (Int × List Int × Int) repProd := op_struct Try.underlying108 (by kernel_rfl) (opF_cons rfl inferInstance rfl (opF_cons rfl inferInstance rfl (opF_one rfl inferInstance)))
instance : Op_ Try.prog 116 (List Int × List Int) repProd := op_struct Try.underlying116 (by kernel_rfl) (opF_cons rfl inferInstance rfl (opF_one rfl inferInstance))
instance : Op_ Try.prog 138 (List Int) repList := op_slice Try.underlying138 (by kernel_rfl) inferInstance
instance : Op_ Try.prog 169 (List Int × List Int × Int) repProd := op_struct Try.underlying169 (by kernel_rfl) (opF_cons rfl inferInstance rfl (opF_cons rfl inferInstance rfl (opF_one rfl inferInstance)))
instance : Op_ Try.prog 170 (List Int × List Int × Int) repProd := op_struct Try.underlying170 (by kernel_rfl) (opF_cons rfl inferInstance rfl (opF_cons rfl inferInstance rfl (opF_one rfl inferInstance)))
instance : ArN Try.prog 129 24 Int repInt := ⟨fun w => run_build w 129 #[] _ (by kernel_rfl)⟩
instance : ArN Try.prog 130 24 Int repInt := ⟨fun w => run_build w 130 #[] _ (by kernel_rfl)⟩
instance : ArN Try.prog 144 48 Int repInt := ⟨fun w => run_build w 144 #[] _ (by kernel_rfl)⟩
instance : ArB Try.prog 191 48 := ⟨fun w => run_build w 191 #[] _ (by kernel_rfl)⟩
instance : IsFn Try.prog 2 := isFn_of Try.func2 (by kernel_rfl) rfl
instance : IsFn Try.prog 3 := isFn_of Try.func3 (by kernel_rfl) rfl
instance : IsFn Try.prog 4 := isFn_of Try.func4 (by kernel_rfl) rfl
instance : IsFn Try.prog 5 := isFn_of Try.func5 (by kernel_rfl) rfl
instance : IsFn Try.prog 6 := isFn_of Try.func6 (by kernel_rfl) rfl
instance : IsFn Try.prog 7 := isFn_of Try.func7 (by kernel_rfl) rfl
instance : IsFn Try.prog 8 := isFn_of Try.func8 (by kernel_rfl) rfl
instance : IsFn Try.prog 9 := isFn_of Try.func9 (by kernel_rfl) rfl
instance : IsFn Try.prog 10 := isFn_of Try.func10 (by kernel_rfl) rfl
instance : IsFn Try.prog 11 := isFn_of Try.func11 (by kernel_rfl) rfl
instance : IsFn Try.prog 12 := isFn_of Try.func12 (by kernel_rfl) rfl
instance : IsFn Try.prog 13 := isFn_of Try.func13 (by kernel_rfl) rfl
instance : IsFn Try.prog 14 := isFn_of Try.func14 (by kernel_rfl) rfl
instance : IsFn Try.prog 15 := isFn_of Try.func15 (by kernel_rfl) rfl
instance : IsFn Try.prog 16 := isFn_of Try.func16 (by kernel_rfl) rfl
instance : IsFn Try.prog 17 := isFn_of Try.func17 (by kernel_rfl) rfl
instance : IsFn Try.prog 18 := isFn_of Try.func18 (by kernel_rfl) rfl
instance : IsFn Try.prog 19 := isFn_of Try.func19 (by kernel_rfl) rfl
instance : IsFn Try.prog 20 := isFn_of Try.func20 (by kernel_rfl) rfl
instance : IsFn Try.prog 21 := isFn_of Try.func21 (by kernel_rfl) rfl
instance : IsFn Try.prog 22 := isFn_of Try.func22 (by kernel_rfl) rfl
instance : IsFn Try.prog 23 := isFn_of Try.func23 (by kernel_rfl) rfl
instance : IsFn Try.prog 24 := isFn_of Try.func24 (by kernel_rfl) rfl
instance : IsFn Try.prog 25 := isFn_of Try.func25 (by kernel_rfl) rfl
instance : IsFn Try.prog 26 := isFn_of Try.func26 (by kernel_rfl) rfl
instance : IsFn Try.prog 27 := isFn_of Try.func27 (by kernel_rfl) rfl
instance : IsFn Try.prog 28 := isFn_of Try.func28 (by kernel_rfl) rfl
instance : IsFn Try.prog 29 := isFn_of Try.func29 (by kernel_rfl) rfl
instance : IsFn Try.prog 30 := isFn_of Try.func30 (by kernel_rfl) rfl
instance : IsFn Try.prog 31 := isFn_of Try.func31 (by kernel_rfl) rfl
instance : IsFn Try.prog 32 := isFn_of Try.func32 (by kernel_rfl) rfl
instance : IsFn Try.prog 33 := isFn_of Try.func33 (by kernel_rfl) rfl
instance : IsFn Try.prog 34 := isFn_of Try.func34 (by kernel_rfl) rfl
instance : IsFn Try.prog 35 := isFn_of Try.func35 (by kernel_rfl) rfl
instance : IsFn Try.prog 36 := isFn_of Try.func36 (by kernel_rfl) rfl
instance : IsFn Try.prog 37 := isFn_of Try.func37 (by kernel_rfl) rfl
instance : IsFn Try.prog 38 := isFn_of Try.func38 (by kernel_rfl) rfl
instance : IsFn Try.prog 39 := isFn_of Try.func39 (by kernel_rfl) rfl
instance : IsFn Try.prog 40 := isFn_of Try.func40 (by kernel_rfl) rfl
instance : IsFn Try.prog 41 := isFn_of Try.func41 (by kernel_rfl) rfl
instance : IsFn Try.prog 42 := isFn_of Try.func42 (by kernel_rfl) rfl
instance : IsFn Try.prog 43 := isFn_of Try.func43 (by kernel_rfl) rfl
instance : IsFn Try.prog 44 := isFn_of Try.func44 (by kernel_rfl) rfl
instance : IsFn Try.prog 45 := isFn_of Try.func45 (by kernel_rfl) rfl
instance : IsFn Try.prog 46 := isFn_of Try.func46 (by kernel_rfl) rfl
instance : IsFn Try.prog 47 := isFn_of Try.func47 (by kernel_rfl) rfl
instance : IsFn Try.prog 48 := isFn_of Try.func48 (by kernel_rfl) rfl
instance : IsFn Try.prog 49 := isFn_of Try.func49 (by kernel_rfl) rfl
instance : IsFn Try.prog 50 := isFn_of Try.func50 (by kernel_rfl) rfl
instance : IsFn Try.prog 51 := isFn_of Try.func51 (by kernel_rfl) rfl
instance : IsFn Try.prog 52 := isFn_of Try.func52 (by kernel_rfl) rfl
instance : IsFn Try.prog 53 := isFn_of Try.func53 (by kernel_rfl) rfl
instance : IsFn Try.prog 54 := isFn_of Try.func54 (by kernel_rfl) rfl
instance : IsFn Try.prog 55 := isFn_of Try.func55 (by kernel_rfl) rfl
instance : IsFn Try.prog 56 := isFn_of Try.func56 (by kernel_rfl) rfl
instance : IsFn Try.prog 57 := isFn_of Try.func57 (by kernel_rfl) rfl
instance : IsFn Try.prog 58 := isFn_of Try.func58 (by kernel_rfl) rfl
instance : IsFn Try.prog 59 := isFn_of Try.func59 (by kernel_rfl) rfl
instance : IsFn Try.prog 60 := isFn_of Try.func60 (by kernel_rfl) rfl
instance : IsFn Try.prog 61 := isFn_of Try.func61 (by kernel_rfl) rfl
instance : IsFn Try.prog 62 := isFn_of Try.func62 (by kernel_rfl) rfl
instance : IsFn Try.prog 63 := isFn_of Try.func63 (by kernel_rfl) rfl
instance : IsFn Try.prog 64 := isFn_of Try.func64 (by kernel_rfl) rfl
instance : IsFn Try.prog 65 := isFn_of Try.func65 (by kernel_rfl) rfl
instance : IsFn Try.prog 66 := isFn_of Try.func66 (by kernel_rfl) rfl
instance : IsFn Try.prog 67 := isFn_of Try.func67 (by kernel_rfl) rfl
instance : IsFn Try.prog 68 := isFn_of Try.func68 (by kernel_rfl) rfl
instance : IsFn Try.prog 69 := isFn_of Try.func69 (by kernel_rfl) rfl
instance : IsFn Try.prog 70 := isFn_of Try.func70 (by kernel_rfl) rfl
instance : IsFn Try.prog 71 := isFn_of Try.func71 (by kernel_rfl) rfl
instance : IsFn Try.prog 72 := isFn_of Try.func72 (by kernel_rfl) rfl
instance : IsFn Try.prog 73 := isFn_of Try.func73 (by kernel_rfl) rfl
instance : IsFn Try.prog 74 := isFn_of Try.func74 (by kernel_rfl) rfl
instance : IsFn Try.prog 75 := isFn_of Try.func75 (by kernel_rfl) rfl
instance : IsFn Try.prog 76 := isFn_of Try.func76 (by kernel_rfl) rfl
instance : IsFn Try.prog 77 := isFn_of Try.func77 (by kernel_rfl) rfl
instance : IsFn Try.prog 78 := isFn_of Try.func78 (by kernel_rfl) rfl
instance : IsFn Try.prog 79 := isFn_of Try.func79 (by kernel_rfl) rfl
instance : IsFn Try.prog 80 := isFn_of Try.func80 (by kernel_rfl) rfl
instance : IsFn Try.prog 81 := isFn_of Try.func81 (by kernel_rfl) rfl
instance : IsFn Try.prog 82 := isFn_of Try.func82 (by kernel_rfl) rfl
instance : IsFn Try.prog 83 := isFn_of Try.func83 (by kernel_rfl) rfl
instance : IsFn Try.prog 84 := isFn_of Try.func84 (by kernel_rfl) rfl
instance : IsFn Try.prog 85 := isFn_of Try.func85 (by kernel_rfl) rfl
instance : IsFn Try.prog 86 := isFn_of Try.func86 (by kernel_rfl) rfl
instance : IsFn Try.prog 87 := isFn_of Try.func87 (by kernel_rfl) rfl
instance : IsFn Try.prog 88 := isFn_of Try.func88 (by kernel_rfl) rfl
instance : IsFn Try.prog 89 := isFn_of Try.func89 (by kernel_rfl) rfl
instance : IsFn Try.prog 90 := isFn_of Try.func90 (by kernel_rfl) rfl
instance : IsFn Try.prog 91 := isFn_of Try.func91 (by kernel_rfl) rfl
instance : IsFn Try.prog 92 := isFn_of Try.func92 (by kernel_rfl) rfl
instance : IsFn Try.prog 93 := isFn_of Try.func93 (by kernel_rfl) rfl
instance : IsFn Try.prog 94 := isFn_of Try.func94 (by kernel_rfl) rfl
instance : IsFn Try.prog 95 := isFn_of Try.func95 (by kernel_rfl) rfl
instance : IsFn Try.prog 96 := isFn_of Try.func96 (by kernel_rfl) rfl
instance : IsFn Try.prog 97 := isFn_of Try.func97 (by kernel_rfl) rfl
instance : IsFn Try.prog 98 := isFn_of Try.func98 (by kernel_rfl) rfl
instance : IsFn Try.prog 99 := isFn_of Try.func99 (by kernel_rfl) rfl
instance : IsFn Try.prog 100 := isFn_of Try.func100 (by kernel_rfl) rfl
instance : IsFn Try.prog 101 := isFn_of Try.func101 (by kernel_rfl) rfl
instance : IsFn Try.prog 102 := isFn_of Try.func102 (by kernel_rfl) rfl
instance : IsFn Try.prog 103 := isFn_of Try.func103 (by kernel_rfl) rfl
instance : IsFn Try.prog 104 := isFn_of Try.func104 (by kernel_rfl) rfl
instance : IsFn Try.prog 105 := isFn_of Try.func105 (by kernel_rfl) rfl
instance : IsFn Try.prog 106 := isFn_of Try.func106 (by kernel_rfl) rfl
instance : IsFn Try.prog 107 := isFn_of Try.func107 (by kernel_rfl) rfl
instance : IsFn Try.prog 108 := isFn_of Try.func108 (by kernel_rfl) rfl
instance : IsFn Try.prog 109 := isFn_of Try.func109 (by kernel_rfl) rfl
instance : IsFn Try.prog 110 := isFn_of Try.func110 (by kernel_rfl) rfl
instance : IsFn Try.prog 111 := isFn_of Try.func111 (by kernel_rfl) rfl
instance : IsFn Try.prog 112 := isFn_of Try.func112 (by kernel_rfl) rfl
instance : IsFn Try.prog 113 := isFn_of Try.func113 (by kernel_rfl) rfl
instance : IsFn Try.prog 114 := isFn_of Try.func114 (by kernel_rfl) rfl
instance : IsFn Try.prog 115 := isFn_of Try.func115 (by kernel_rfl) rfl
instance : IsFn Try.prog 116 := isFn_of Try.func116 (by kernel_rfl) rfl
instance : IsFn Try.prog 117 := isFn_of Try.func117 (by kernel_rfl) rfl
instance : IsFn Try.prog 118 := isFn_of Try.func118 (by kernel_rfl) rfl
instance : IsFn Try.prog 119 := isFn_of Try.func119 (by kernel_rfl) rfl
instance : IsFn Try.prog 120 := isFn_of Try.func120 (by kernel_rfl) rfl
instance : IsFn Try.prog 121 := isFn_of Try.func121 (by kernel_rfl) rfl
instance : IsFn Try.prog 122 := isFn_of Try.func122 (by kernel_rfl) rfl
instance : IsFn Try.prog 123 := isFn_of Try.func123 (by kernel_rfl) rfl
instance : IsFn Try.prog 124 := isFn_of Try.func124 (by kernel_rfl) rfl
instance : IsFn Try.prog 125 := isFn_of Try.func125 (by kernel_rfl) rfl
instance : IsFn Try.prog 126 := isFn_of Try.func126 (by kernel_rfl) rfl
instance : IsFn Try.prog 127 := isFn_of Try.func127 (by kernel_rfl) rfl
instance : IsFn Try.prog 128 := isFn_of Try.func128 (by kernel_rfl) rfl
instance : IsFn Try.prog 129 := isFn_of Try.func129 (by kernel_rfl) rfl
instance : IsFn Try.prog 130 := isFn_of Try.func130 (by kernel_rfl) rfl
instance : IsFn Try.prog 131 := isFn_of Try.func131 (by kernel_rfl) rfl
instance : IsFn Try.prog 132 := isFn_of Try.func132 (by kernel_rfl) rfl
instance : IsFn Try.prog 133 := isFn_of Try.func133 (by kernel_rfl) rfl
instance : IsFn Try.prog 134 := isFn_of Try.func134 (by kernel_rfl) rfl
instance : IsFn Try.prog 135 := isFn_of Try.func135 (by kernel_rfl) rfl
instance : IsFn Try.prog 136 := isFn_of Try.func136 (by kernel_rfl) rfl
instance : IsFn Try.prog 137 := isFn_of Try.func137 (by kernel_rfl) rfl
instance : IsFn Try.prog 138 := isFn_of Try.func138 (by kernel_rfl) rfl
instance : IsFn Try.prog 139 := isFn_of Try.func139 (by kernel_rfl) rfl
instance : IsFn Try.prog 140 := isFn_of Try.func140 (by kernel_rfl) rfl
instance : IsFn Try.prog 141 := isFn_of Try.func141 (by kernel_rfl) rfl
instance : IsFn Try.prog 142 := isFn_of Try.func142 (by kernel_rfl) rfl
instance : IsFn Try.prog 143 := isFn_of Try.func143 (by kernel_rfl) rfl
instance : IsFn Try.prog 144 := isFn_of Try.func144 (by kernel_rfl) rfl
instance : IsFn Try.prog 145 := isFn_of Try.func145 (by kernel_rfl) rfl
instance : IsFn Try.prog 146 := isFn_of Try.func146 (by kernel_rfl) rfl
instance : IsFn Try.prog 147 := isFn_of Try.func147 (by kernel_rfl) rfl
instance : IsFn Try.prog 148 := isFn_of Try.func148 (by kernel_rfl) rfl
instance : IsFn Try.prog 149 := isFn_of Try.func149 (by kernel_rfl) rfl
instance : IsFn Try.prog 150 := isFn_of Try.func150 (by kernel_rfl) rfl
instance : IsFn Try.prog 151 := isFn_of Try.func151 (by kernel_rfl) rfl
instance : IsFn Try.prog 152 := isFn_of Try.func152 (by kernel_rfl) rfl
instance : IsFn Try.prog 153 := isFn_of Try.func153 (by kernel_rfl) rfl
instance : IsFn Try.prog 154 := isFn_of Try.func154 (by kernel_rfl) rfl
instance : IsFn Try.prog 155 := isFn_of Try.func155 (by kernel_rfl) rfl
instance : IsFn Try.prog 156 := isFn_of Try.func156 (by kernel_rfl) rfl
instance : IsFn Try.prog 157 := isFn_of Try.func157 (by kernel_rfl) rfl
instance : IsFn Try.prog 158 := isFn_of Try.func158 (by kernel_rfl) rfl
instance : IsFn Try.prog 159 := isFn_of Try.func159 (by kernel_rfl) rfl
instance : IsFn Try.prog 160 := isFn_of Try.func160 (by kernel_rfl) rfl
instance : IsFn Try.prog 161 := isFn_of Try.func161 (by kernel_rfl) rfl
instance : IsFn Try.prog 162 := isFn_of Try.func162 (by kernel_rfl) rfl
instance : IsFn Try.prog 163 := isFn_of Try.func163 (by kernel_rfl) rfl
instance : IsFn Try.prog 164 := isFn_of Try.func164 (by kernel_rfl) rfl
instance : IsFn Try.prog 165 := isFn_of Try.func165 (by kernel_rfl) rfl
instance : IsFn Try.prog 166 := isFn_of Try.func166 (by kernel_rfl) rfl
instance : IsFn Try.prog 167 := isFn_of Try.func167 (by kernel_rfl) rfl
instance : IsFn Try.prog 168 := isFn_of Try.func168 (by kernel_rfl) rfl
instance : IsFn Try.prog 169 := isFn_of Try.func169 (by kernel_rfl) rfl
instance : IsFn Try.prog 170 := isFn_of Try.func170 (by kernel_rfl) rfl
instance : IsFn Try.prog 171 := isFn_of Try.func171 (by kernel_rfl) rfl
instance : IsFn Try.prog 172 := isFn_of Try.func172 (by kernel_rfl) rfl
instance : IsFn Try.prog 173 := isFn_of Try.func173 (by kernel_rfl) rfl
instance : IsFn Try.prog 174 := isFn_of Try.func174 (by kernel_rfl) rfl
instance : IsFn Try.prog 175 := isFn_of Try.func175 (by kernel_rfl) rfl
instance : IsFn Try.prog 176 := isFn_of Try.func176 (by kernel_rfl) rfl
instance : IsFn Try.prog 177 := isFn_of Try.func177 (by kernel_rfl) rfl
instance : IsFn Try.prog 178 := isFn_of Try.func178 (by kernel_rfl) rfl
instance : IsFn Try.prog 179 := isFn_of Try.func179 (by kernel_rfl) rfl
instance : IsFn Try.prog 180 := isFn_of Try.func180 (by kernel_rfl) rfl
instance : IsFn Try.prog 181 := isFn_of Try.func181 (by kernel_rfl) rfl
instance : IsFn Try.prog 182 := isFn_of Try.func182 (by kernel_rfl) rfl
instance : IsFn Try.prog 183 := isFn_of Try.func183 (by kernel_rfl) rfl
instance : IsFn Try.prog 184 := isFn_of Try.func184 (by kernel_rfl) rfl
instance : IsFn Try.prog 185 := isFn_of Try.func185 (by kernel_rfl) rfl
instance : IsFn Try.prog 186 := isFn_of Try.func186 (by kernel_rfl) rfl
instance : IsFn Try.prog 187 := isFn_of Try.func187 (by kernel_rfl) rfl
instance : IsFn Try.prog 188 := isFn_of Try.func188 (by kernel_rfl) rfl
instance : IsFn Try.prog 189 := isFn_of Try.func189 (by kernel_rfl) rfl
instance : IsFn Try.prog 190 := isFn_of Try.func190 (by kernel_rfl) rfl
instance : IsFn Try.prog 191 := isFn_of Try.func191 (by kernel_rfl) rfl
instance : IsFn Try.prog 192 := isFn_of Try.func192 (by kernel_rfl) rfl
instance : IsFn Try.prog 193 := isFn_of Try.func193 (by kernel_rfl) rfl
instance : IsFn Try.prog 194 := isFn_of Try.func194 (by kernel_rfl) rfl
instance : IsFn Try.prog 195 := isFn_of Try.func195 (by kernel_rfl) rfl
instance : ResC Try.f2 [] := ⟨rfl⟩
instance : ResC Try.f3 [.tmp 2] := ⟨rfl⟩
instance : ResC Try.f4 [.tmp 2] := ⟨rfl⟩
instance : ResC Try.f5 [.tmp 2] := ⟨rfl⟩
instance : ResC Try.f6 [.tmp 2] := ⟨rfl⟩
instance : ResC Try.f7 [.tmp 2] := ⟨rfl⟩
instance : ResC Try.f8 [.tmp 2] := ⟨rfl⟩
instance : ResC Try.f9 [.tmp 2] := ⟨rfl⟩
instance : ResC Try.f10 [.tmp 2] := ⟨rfl⟩
instance : ResC Try.f11 [.cell 2 26, .tmp 3, .tmp 4] := ⟨rfl⟩
instance : ResC Try.f12 [.tmp 6] := ⟨rfl⟩
instance : ResC Try.f13 [.tmp 4] := ⟨rfl⟩
instance : ResC Try.f14 [.tmp 6] := ⟨rfl⟩
instance : ResC Try.f15 [.tmp 4] := ⟨rfl⟩
instance : ResC Try.f16 [.tmp 6] := ⟨rfl⟩
instance : ResC Try.f17 [.tmp 6] := ⟨rfl⟩
instance : ResC Try.f18 [.cell 2 26, .tmp 3, .tmp 4] := ⟨rfl⟩
instance : ResC Try.f19 [.cell 6 36, .tmp 7] := ⟨rfl⟩
instance : ResC Try.f20 [.cell 6 36, .tmp 7] := ⟨rfl⟩
instance : ResC Try.f21 [.tmp 6] := ⟨rfl⟩
instance : ResC Try.f22 [.cell 2 26, .cell 3 36, .tmp 4] := ⟨rfl⟩
instance : ResC Try.f23 [.tmp 6, .tmp 7] := ⟨rfl⟩
instance : ResC Try.f24 [.tmp 6, .tmp 7] := ⟨rfl⟩
instance : ResC Try.f25 [.tmp 4] := ⟨rfl⟩
instance : ResC Try.f26 [.cell 2 26, .tmp 3] := ⟨rfl⟩
instance : ResC Try.f27 [.tmp 4] := ⟨rfl⟩
instance : ResC Try.f28 [.tmp 4] := ⟨rfl⟩
instance : ResC Try.f29 [.tmp 6] := ⟨rfl⟩
instance : ResC Try.f30 [.cell 2 26, .tmp 3, .tmp 4] := ⟨rfl⟩
instance : ResC Try.f31 [.tmp 6] := ⟨rfl⟩
instance : ResC Try.f32 [.tmp 6] := ⟨rfl⟩
instance : ResC Try.f33 [.tmp 6] := ⟨rfl⟩
instance : ResC Try.f34 [.tmp 4] := ⟨rfl⟩
instance : ResC Try.f35 [.tmp 4] := ⟨rfl⟩
instance : ResC Try.f36 [.cell 2 26, .tmp 3, .tmp 4] := ⟨rfl⟩
instance : ResC Try.f37 [.cell 6 36, .tmp 7] := ⟨rfl⟩
instance : ResC Try.f38 [.cell 6 36, .tmp 7] := ⟨rfl⟩
instance : ResC Try.f39 [.tmp 4] := ⟨rfl⟩
instance : ResC Try.f40 [.tmp 6] := ⟨rfl⟩
instance : ResC Try.f41 [.cell 6 36, .tmp 7] := ⟨rfl⟩
instance : ResC Try.f42 [.tmp 6] := ⟨rfl⟩
instance : ResC Try.f43 [.cell 2 26, .cell 3 51, .tmp 4] := ⟨rfl⟩
instance : ResC Try.f44 [.tmp 6] := ⟨rfl⟩
instance : ResC Try.f45 [.tmp 4] := ⟨rfl⟩
instance : ResC Try.f46 [.tmp 6] := ⟨rfl⟩
instance : ResC Try.f47 [.tmp 4] := ⟨rfl⟩
instance : ResC Try.f48 [.tmp 4] := ⟨rfl⟩
instance : ResC Try.f49 [.tmp 4] := ⟨rfl⟩
instance : ResC Try.f50 [.cell 2 62] := ⟨rfl⟩
instance : ResC Try.f51 [.tmp 6] := ⟨rfl⟩
instance : ResC Try.f52 [.tmp 4] := ⟨rfl⟩
instance : ResC Try.f53 [.tmp 6] := ⟨rfl⟩
instance : ResC Try.f54 [.tmp 4] := ⟨rfl⟩
instance : ResC Try.f55 [.tmp 2] := ⟨rfl⟩
instance : ResC Try.f56 [.cell 2 26, .tmp 3, .tmp 4] := ⟨rfl⟩
instance : ResC Try.f57 [.tmp 4] := ⟨rfl⟩
instance : ResC Try.f58 [.tmp 2] := ⟨rfl⟩
instance : ResC Try.f59 [.tmp 8, .tmp 9] := ⟨rfl⟩
instance : ResC Try.f60 [.tmp 8] := ⟨rfl⟩
instance : ResC Try.f61 [.tmp 4] := ⟨rfl⟩
instance : ResC Try.f62 [.tmp 4] := ⟨rfl⟩
instance : ResC Try.f63 [.tmp 6] := ⟨rfl⟩
instance : ResC Try.f64 [.tmp 6] := ⟨rfl⟩
instance : ResC Try.f65 [.cell 6 36, .tmp 7] := ⟨rfl⟩
instance : ResC Try.f66 [.tmp 6] := ⟨rfl⟩
instance : ResC Try.f67 [.tmp 6] := ⟨rfl⟩
instance : ResC Try.f68 [.tmp 6] := ⟨rfl⟩
instance : ResC Try.f69 [.tmp 4] := ⟨rfl⟩
instance : ResC Try.f70 [.cell 6 36, .tmp 7] := ⟨rfl⟩
instance : ResC Try.f71 [.tmp 4] := ⟨rfl⟩
instance : ResC Try.f72 [.tmp 4] := ⟨rfl⟩
instance : ResC Try.f73 [.cell 2 26] := ⟨rfl⟩
instance : ResC Try.f74 [.cell 4 36] := ⟨rfl⟩
instance : ResC Try.f75 [.tmp 4] := ⟨rfl⟩
instance : ResC Try.f76 [.tmp 4, .tmp 5] := ⟨rfl⟩
instance : ResC Try.f77 [.tmp 4] := ⟨rfl⟩
instance : ResC Try.f78 [.tmp 4, .tmp 5] := ⟨rfl⟩
instance : ResC Try.f79 [.tmp 4] := ⟨rfl⟩
instance : ResC Try.f80 [.tmp 4] := ⟨rfl⟩
instance : ResC Try.f81 [.tmp 4] := ⟨rfl⟩
instance : ResC Try.f82 [.tmp 6] := ⟨rfl⟩
instance : ResC Try.f83 [.tmp 2] := ⟨rfl⟩
instance : ResC Try.f84 [.tmp 4] := ⟨rfl⟩
instance : ResC Try.f85 [.tmp 6] := ⟨rfl⟩
instance : ResC Try.f86 [.tmp 6] := ⟨rfl⟩
instance : ResC Try.f87 [.cell 2 26, .tmp 3, .tmp 4] := ⟨rfl⟩
instance : ResC Try.f88 [] := ⟨rfl⟩
instance : ResC Try.f89 [.tmp 6] := ⟨rfl⟩
instance : ResC Try.f90 [.tmp 2] := ⟨rfl⟩
instance : ResC Try.f91 [.cell 6 36, .tmp 7] := ⟨rfl⟩
instance : ResC Try.f92 [.cell 8 36, .tmp 9] := ⟨rfl⟩
instance : ResC Try.f93 [.cell 2 36] := ⟨rfl⟩
instance : ResC Try.f94 [.cell 4 36, .tmp 5] := ⟨rfl⟩
instance : ResC Try.f95 [.tmp 4] := ⟨rfl⟩
instance : ResC Try.f96 [.cell 2 36] := ⟨rfl⟩
instance : ResC Try.f97 [.cell 2 26, .cell 3 51] := ⟨rfl⟩
instance : ResC Try.f98 [.tmp 4] := ⟨rfl⟩
instance : ResC Try.f99 [.tmp 4] := ⟨rfl⟩
instance : ResC Try.f100 [.tmp 4] := ⟨rfl⟩
instance : ResC Try.f101 [.tmp 8] := ⟨rfl⟩
instance : ResC Try.f102 [.tmp 2] := ⟨rfl⟩
instance : ResC Try.f103 [.tmp 2] := ⟨rfl⟩
instance : ResC Try.f104 [.tmp 4] := ⟨rfl⟩
instance : ResC Try.f105 [.tmp 4] := ⟨rfl⟩
instance : ResC Try.f106 [.tmp 8] := ⟨rfl⟩
instance : ResC Try.f107 [.tmp 4] := ⟨rfl⟩
instance : ResC Try.f108 [.tmp 4] := ⟨rfl⟩
instance : ResC Try.f109 [.tmp 2] := ⟨rfl⟩
instance : ResC Try.f110 [.cell 0 26] := ⟨rfl⟩
instance : ResC Try.f111 [.tmp 2] := ⟨rfl⟩
instance : ResC Try.f112 [.cell 2 117] := ⟨rfl⟩
instance : ResC Try.f113 [.tmp 4] := ⟨rfl⟩
instance : ResC Try.f114 [.tmp 4] := ⟨rfl⟩
instance : ResC Try.f115 [.tmp 2] := ⟨rfl⟩
instance : ResC Try.f116 [.tmp 6] := ⟨rfl⟩
instance : ResC Try.f117 [.tmp 6] := ⟨rfl⟩
instance : ResC Try.f118 [.tmp 8, .tmp 9] := ⟨rfl⟩
instance : ResC Try.f119 [.tmp 2] := ⟨rfl⟩
instance : ResC Try.f120 [.tmp 2] := ⟨rfl⟩
instance : ResC Try.f121 [.tmp 2] := ⟨rfl⟩
instance : ResC Try.f122 [.tmp 6] := ⟨rfl⟩
instance : ResC Try.f123 [.tmp 2] := ⟨rfl⟩
instance : ResC Try.f124 [.tmp 4] := ⟨rfl⟩
instance : ResC Try.f125 [.cell 8 130, .tmp 9] := ⟨rfl⟩
instance : ResC Try.f126 [.cell 2 36] := ⟨rfl⟩
instance : ResC Try.f127 [.cell 2 26] := ⟨rfl⟩
instance : ResC Try.f128 [.tmp 6] := ⟨rfl⟩
instance : ResC Try.f129 [.cell 4 36] := ⟨rfl⟩
instance : ResC Try.f130 [.tmp 2] := ⟨rfl⟩
instance : ResC Try.f131 [.tmp 2] := ⟨rfl⟩
instance : ResC Try.f132 [.tmp 2] := ⟨rfl⟩
instance : ResC Try.f133 [.tmp 6] := ⟨rfl⟩
instance : ResC Try.f134 [.tmp 14, .tmp 15, .tmp 16] := ⟨rfl⟩
instance : ResC Try.f135 [.tmp 4] := ⟨rfl⟩
instance : ResC Try.f136 [.tmp 2] := ⟨rfl⟩
instance : ResC Try.f137 [.cell 6 4] := ⟨rfl⟩
instance : ResC Try.f138 [.tmp 6, .tmp 7] := ⟨rfl⟩
instance : ResC Try.f139 [.cell 6 36, .tmp 7] := ⟨rfl⟩
instance : ResC Try.f140 [.tmp 4] := ⟨rfl⟩
instance : ResC Try.f141 [.tmp 2] := ⟨rfl⟩
instance : ResC Try.f142 [.tmp 6] := ⟨rfl⟩
instance : ResC Try.f143 [.tmp 2] := ⟨rfl⟩
instance : ResC Try.f144 [.cell 4 51] := ⟨rfl⟩
instance : ResC Try.f145 [.cell 4 51, .tmp 5] := ⟨rfl⟩
instance : ResC Try.f146 [.tmp 4] := ⟨rfl⟩
instance : ResC Try.f147 [.tmp 4] := ⟨rfl⟩
instance : ResC Try.f148 [.tmp 4] := ⟨rfl⟩
instance : ResC Try.f149 [.tmp 3] := ⟨rfl⟩
instance : ResC Try.f150 [.tmp 4] := ⟨rfl⟩
instance : ResC Try.f151 [.tmp 2] := ⟨rfl⟩
instance : ResC Try.f152 [.tmp 6] := ⟨rfl⟩
instance : ResC Try.f153 [.tmp 4] := ⟨rfl⟩
instance : ResC Try.f154 [.tmp 2] := ⟨rfl⟩
instance : ResC Try.f155 [.tmp 4] := ⟨rfl⟩
instance : ResC Try.f156 [.tmp 6] := ⟨rfl⟩
instance : ResC Try.f157 [.tmp 4] := ⟨rfl⟩
instance : ResC Try.f158 [.tmp 2] := ⟨rfl⟩
instance : ResC Try.f159 [.tmp 6] := ⟨rfl⟩
instance : ResC Try.f160 [.tmp 6] := ⟨rfl⟩
instance : ResC Try.f161 [.tmp 3] := ⟨rfl⟩
instance : ResC Try.f162 [.tmp 4] := ⟨rfl⟩
instance : ResC Try.f163 [.tmp 2] := ⟨rfl⟩
instance : ResC Try.f164 [.tmp 8, .tmp 9] := ⟨rfl⟩
instance : ResC Try.f165 [.tmp 4] := ⟨rfl⟩
instance : ResC Try.f166 [.tmp 8, .tmp 9] := ⟨rfl⟩
instance : ResC Try.f167 [.tmp 2] := ⟨rfl⟩
instance : ResC Try.f168 [.tmp 3] := ⟨rfl⟩
instance : ResC Try.f169 [.tmp 4] := ⟨rfl⟩
instance : ResC Try.f170 [.tmp 4] := ⟨rfl⟩
instance : ResC Try.f171 [] := ⟨rfl⟩
instance : ResC Try.f172 [] := ⟨rfl⟩
instance : ResC Try.f173 [.tmp 4, .tmp 5] := ⟨rfl⟩
instance : ResC Try.f174 [.tmp 4, .tmp 5] := ⟨rfl⟩
instance : ResC Try.f175 [.tmp 4] := ⟨rfl⟩
instance : ResC Try.f176 [.tmp 4] := ⟨rfl⟩
instance : ResC Try.f177 [.tmp 4] := ⟨rfl⟩
instance : ResC Try.f178 [.tmp 4] := ⟨rfl⟩
instance : ResC Try.f179 [.tmp 4] := ⟨rfl⟩
instance : ResC Try.f180 [.tmp 3] := ⟨rfl⟩
instance : ResC Try.f181 [.tmp 4] := ⟨rfl⟩
instance : ResC Try.f182 [.tmp 4] := ⟨rfl⟩
instance : ResC Try.f183 [.tmp 4] := ⟨rfl⟩
instance : ResC Try.f184 [.tmp 4] := ⟨rfl⟩
instance : ResC Try.f185 [.tmp 4] := ⟨rfl⟩
instance : ResC Try.f186 [.tmp 8, .tmp 9] := ⟨rfl⟩
instance : ResC Try.f187 [.tmp 2] := ⟨rfl⟩
instance : ResC Try.f188 [.tmp 4] := ⟨rfl⟩
instance : ResC Try.f189 [.tmp 8] := ⟨rfl⟩
instance : ResC Try.f190 [.tmp 6, .tmp 7] := ⟨rfl⟩
instance : ResC Try.f191 [.tmp 4] := ⟨rfl⟩
instance : ResC Try.f192 [.tmp 4] := ⟨rfl⟩
instance : ResC Try.f193 [.tmp 2] := ⟨rfl⟩
instance : ResC Try.f194 [.tmp 2] := ⟨rfl⟩
instance : ResC Try.f195 [.tmp 4] := ⟨rfl⟩
end Go.Proofs
