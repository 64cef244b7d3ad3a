/- The engine's classes at this program: its types, its functions. Written by a program. -/
import Derived.Test.YtfdpmkilhllkoaaChecked
import Derived.Test.YtfdpmkilhllkoaaEngO
namespace Go.Proofs
open Go Go.Eng
set_option linter.unusedVariables false
set_option maxRecDepth 20000
instance : Mixed Try.prog := ⟨by kernel_rfl⟩
instance : Sc Try.prog 1 := ⟨fun w => Try.isAgg1 w, fun w => Try.sizeOf1 w⟩
instance : Zr Try.prog 1 [.nilFunc] := ⟨_, fun w => Try.zeroValue1 w, rfl⟩
instance : Sc Try.prog 2 := ⟨fun w => Try.isAgg2 w, fun w => Try.sizeOf2 w⟩
instance : Zr Try.prog 2 [(.int .i64 (0))] := ⟨_, fun w => Try.zeroValue2 w, rfl⟩
instance : I64T Try.prog 2 := ⟨Try.underlying2⟩
instance : Sc Try.prog 3 := ⟨fun w => Try.isAgg3 w, fun w => Try.sizeOf3 w⟩
instance : Zr Try.prog 3 [(.int .i64 (0))] := ⟨_, fun w => Try.zeroValue3 w, rfl⟩
instance : I64T Try.prog 3 := ⟨Try.underlying3⟩
instance : Sc Try.prog 4 := ⟨fun w => Try.isAgg4 w, fun w => Try.sizeOf4 w⟩
instance : Zr Try.prog 4 [(.bool false)] := ⟨_, fun w => Try.zeroValue4 w, rfl⟩
instance : IsBool Try.prog 4 := ⟨Try.underlying4⟩
instance : Sc Try.prog 5 := ⟨fun w => Try.isAgg5 w, fun w => Try.sizeOf5 w⟩
instance : Zr Try.prog 5 [(.int .u8 (0))] := ⟨_, fun w => Try.zeroValue5 w, rfl⟩
instance : Sc Try.prog 9 := ⟨fun w => Try.isAgg9 w, fun w => Try.sizeOf9 w⟩
instance : Zr Try.prog 9 [(.string ByteArray.empty)] := ⟨_, fun w => Try.zeroValue9 w, rfl⟩
instance : IsStr Try.prog 9 := ⟨Try.underlying9⟩
instance : Sc Try.prog 12 := ⟨fun w => Try.isAgg12 w, fun w => Try.sizeOf12 w⟩
instance : Zr Try.prog 12 [(.int .u64 (0))] := ⟨_, fun w => Try.zeroValue12 w, rfl⟩
instance : Ag Try.prog 13 2 := ⟨fun w => Try.isAgg13 w, fun w => Try.sizeOf13 w⟩
instance : Zr Try.prog 13 [(.string ByteArray.empty), (.int .u64 (0))] := ⟨_, fun w => Try.zeroValue13 w, rfl⟩
instance : Fo Try.prog 13 0 0 := ⟨fun w a => by simp [Instr.fieldAt, Instr.sureAddr, fieldPlace]⟩
instance : Fo Try.prog 13 1 1 := ⟨fun w a => by simp [Instr.fieldAt, Instr.sureAddr, fieldPlace]⟩
instance : StT Try.prog 13 [(0, 1), (1, 1)] [(.string ByteArray.empty), (.int .u64 (0))] := ⟨_, Try.t13, _, Try.underlying13, by kernel_rfl, by kernel_rfl, rfl, rfl⟩
instance : Sc Try.prog 20 := ⟨fun w => Try.isAgg20 w, fun w => Try.sizeOf20 w⟩
instance : Zr Try.prog 20 [.nilIface] := ⟨_, fun w => Try.zeroValue20 w, rfl⟩
instance : Sc Try.prog 21 := ⟨fun w => Try.isAgg21 w, fun w => Try.sizeOf21 w⟩
instance : Zr Try.prog 21 [(.int .i32 (0))] := ⟨_, fun w => Try.zeroValue21 w, rfl⟩
instance : Sc Try.prog 22 := ⟨fun w => Try.isAgg22 w, fun w => Try.sizeOf22 w⟩
instance : Zr Try.prog 22 [(.slice none 0 0)] := ⟨_, fun w => Try.zeroValue22 w, rfl⟩
instance : Sl Try.prog 22 1 8 := ⟨2, Try.t2, _, Try.underlying22, by kernel_rfl, rfl, rfl, rfl, rfl, by decide⟩
instance : SlZ Try.prog 22 [(.int .i64 (0))] := ⟨fun {e i z} h1 h2 h3 => by
  rw [Try.underlying22] at h1; cases h1
  rw [show Try.prog.info? 2 = some Try.t2 by kernel_rfl] at h2; cases h2; cases h3; rfl⟩
instance : Ag Try.prog 23 1 := ⟨fun w => Try.isAgg23 w, fun w => Try.sizeOf23 w⟩
instance : Zr Try.prog 23 [(.slice none 0 0)] := ⟨_, fun w => Try.zeroValue23 w, rfl⟩
instance : Fo Try.prog 23 0 0 := ⟨fun w a => by simp [Instr.fieldAt, Instr.sureAddr, fieldPlace]⟩
instance : StT Try.prog 23 [(0, 1)] [(.slice none 0 0)] := ⟨_, Try.t23, _, Try.underlying23, by kernel_rfl, by kernel_rfl, rfl, rfl⟩
instance : Ag Try.prog 24 1 := ⟨fun w => Try.isAgg24 w, fun w => Try.sizeOf24 w⟩
instance : Zr Try.prog 24 [(.slice none 0 0)] := ⟨_, fun w => Try.zeroValue24 w, rfl⟩
instance : Fo Try.prog 24 0 0 := ⟨fun w a => by simp [Instr.fieldAt, Instr.sureAddr, fieldPlace]⟩
instance : StT Try.prog 24 [(0, 1)] [(.slice none 0 0)] := ⟨_, Try.t24, _, Try.underlying24, by kernel_rfl, by kernel_rfl, rfl, rfl⟩
instance : Sc Try.prog 25 := ⟨fun w => Try.isAgg25 w, fun w => Try.sizeOf25 w⟩
instance : Zr Try.prog 25 [(.slice none 0 0)] := ⟨_, fun w => Try.zeroValue25 w, rfl⟩
instance : Sl Try.prog 25 3 40 := ⟨152, Try.t152, _, Try.underlying25, by kernel_rfl, rfl, rfl, rfl, rfl, by decide⟩
instance : SlZ Try.prog 25 [(.int .i64 (0)), (.slice none 0 0), (.int .i64 (0))] := ⟨fun {e i z} h1 h2 h3 => by
  rw [Try.underlying25] at h1; cases h1
  rw [show Try.prog.info? 152 = some Try.t152 by kernel_rfl] at h2; cases h2; cases h3; rfl⟩
instance : Ag Try.prog 26 3 := ⟨fun w => Try.isAgg26 w, fun w => Try.sizeOf26 w⟩
instance : Zr Try.prog 26 [(.int .i64 (0)), (.slice none 0 0), (.slice none 0 0)] := ⟨_, fun w => Try.zeroValue26 w, rfl⟩
instance : Fo Try.prog 26 0 0 := ⟨fun w a => by simp [Instr.fieldAt, Instr.sureAddr, fieldPlace]⟩
instance : Fo Try.prog 26 1 1 := ⟨fun w a => by simp [Instr.fieldAt, Instr.sureAddr, fieldPlace]⟩
instance : Fo Try.prog 26 2 2 := ⟨fun w a => by simp [Instr.fieldAt, Instr.sureAddr, fieldPlace]⟩
instance : StT Try.prog 26 [(0, 1), (1, 1), (2, 1)] [(.int .i64 (0)), (.slice none 0 0), (.slice none 0 0)] := ⟨_, Try.t26, _, Try.underlying26, by kernel_rfl, by kernel_rfl, rfl, rfl⟩
instance : Ag Try.prog 27 3 := ⟨fun w => Try.isAgg27 w, fun w => Try.sizeOf27 w⟩
instance : Zr Try.prog 27 [(.int .i64 (0)), (.slice none 0 0), (.slice none 0 0)] := ⟨_, fun w => Try.zeroValue27 w, rfl⟩
instance : Fo Try.prog 27 0 0 := ⟨fun w a => by simp [Instr.fieldAt, Instr.sureAddr, fieldPlace]⟩
instance : Fo Try.prog 27 1 1 := ⟨fun w a => by simp [Instr.fieldAt, Instr.sureAddr, fieldPlace]⟩
instance : Fo Try.prog 27 2 2 := ⟨fun w a => by simp [Instr.fieldAt, Instr.sureAddr, fieldPlace]⟩
instance : StT Try.prog 27 [(0, 1), (1, 1), (2, 1)] [(.int .i64 (0)), (.slice none 0 0), (.slice none 0 0)] := ⟨_, Try.t27, _, Try.underlying27, by kernel_rfl, by kernel_rfl, rfl, rfl⟩
instance : Sc Try.prog 28 := ⟨fun w => Try.isAgg28 w, fun w => Try.sizeOf28 w⟩
instance : Zr Try.prog 28 [.nilFunc] := ⟨_, fun w => Try.zeroValue28 w, rfl⟩
instance : Sc Try.prog 29 := ⟨fun w => Try.isAgg29 w, fun w => Try.sizeOf29 w⟩
instance : Zr Try.prog 29 [.nilFunc] := ⟨_, fun w => Try.zeroValue29 w, rfl⟩
instance : Sc Try.prog 31 := ⟨fun w => Try.isAgg31 w, fun w => Try.sizeOf31 w⟩
instance : Zr Try.prog 31 [.nilFunc] := ⟨_, fun w => Try.zeroValue31 w, rfl⟩
instance : Ag Try.prog 32 1 := ⟨fun w => Try.isAgg32 w, fun w => Try.sizeOf32 w⟩
instance : Zr Try.prog 32 [(.slice none 0 0)] := ⟨_, fun w => Try.zeroValue32 w, rfl⟩
instance : Fo Try.prog 32 0 0 := ⟨fun w a => by simp [Instr.fieldAt, Instr.sureAddr, fieldPlace]⟩
instance : StT Try.prog 32 [(0, 1)] [(.slice none 0 0)] := ⟨_, Try.t32, _, Try.underlying32, by kernel_rfl, by kernel_rfl, rfl, rfl⟩
instance : Sc Try.prog 33 := ⟨fun w => Try.isAgg33 w, fun w => Try.sizeOf33 w⟩
instance : Zr Try.prog 33 [.nilFunc] := ⟨_, fun w => Try.zeroValue33 w, rfl⟩
instance : Sc Try.prog 34 := ⟨fun w => Try.isAgg34 w, fun w => Try.sizeOf34 w⟩
instance : Zr Try.prog 34 [(.slice none 0 0)] := ⟨_, fun w => Try.zeroValue34 w, rfl⟩
instance : Sl Try.prog 34 3 40 := ⟨139, Try.t139, _, Try.underlying34, by kernel_rfl, rfl, rfl, rfl, rfl, by decide⟩
instance : SlZ Try.prog 34 [(.int .i64 (0)), (.slice none 0 0), (.int .i64 (0))] := ⟨fun {e i z} h1 h2 h3 => by
  rw [Try.underlying34] at h1; cases h1
  rw [show Try.prog.info? 139 = some Try.t139 by kernel_rfl] at h2; cases h2; cases h3; rfl⟩
instance : Ag Try.prog 35 3 := ⟨fun w => Try.isAgg35 w, fun w => Try.sizeOf35 w⟩
instance : Zr Try.prog 35 [(.int .i64 (0)), (.slice none 0 0), (.slice none 0 0)] := ⟨_, fun w => Try.zeroValue35 w, rfl⟩
instance : Fo Try.prog 35 0 0 := ⟨fun w a => by simp [Instr.fieldAt, Instr.sureAddr, fieldPlace]⟩
instance : Fo Try.prog 35 1 1 := ⟨fun w a => by simp [Instr.fieldAt, Instr.sureAddr, fieldPlace]⟩
instance : Fo Try.prog 35 2 2 := ⟨fun w a => by simp [Instr.fieldAt, Instr.sureAddr, fieldPlace]⟩
instance : StT Try.prog 35 [(0, 1), (1, 1), (2, 1)] [(.int .i64 (0)), (.slice none 0 0), (.slice none 0 0)] := ⟨_, Try.t35, _, Try.underlying35, by kernel_rfl, by kernel_rfl, rfl, rfl⟩
instance : Ag Try.prog 36 3 := ⟨fun w => Try.isAgg36 w, fun w => Try.sizeOf36 w⟩
instance : Zr Try.prog 36 [(.int .i64 (0)), (.slice none 0 0), (.slice none 0 0)] := ⟨_, fun w => Try.zeroValue36 w, rfl⟩
instance : Fo Try.prog 36 0 0 := ⟨fun w a => by simp [Instr.fieldAt, Instr.sureAddr, fieldPlace]⟩
instance : Fo Try.prog 36 1 1 := ⟨fun w a => by simp [Instr.fieldAt, Instr.sureAddr, fieldPlace]⟩
instance : Fo Try.prog 36 2 2 := ⟨fun w a => by simp [Instr.fieldAt, Instr.sureAddr, fieldPlace]⟩
instance : StT Try.prog 36 [(0, 1), (1, 1), (2, 1)] [(.int .i64 (0)), (.slice none 0 0), (.slice none 0 0)] := ⟨_, Try.t36, _, Try.underlying36, by kernel_rfl, by kernel_rfl, rfl, rfl⟩
instance : Sc Try.prog 37 := ⟨fun w => Try.isAgg37 w, fun w => Try.sizeOf37 w⟩
instance : Zr Try.prog 37 [.nilFunc] := ⟨_, fun w => Try.zeroValue37 w, rfl⟩
instance : Sc Try.prog 38 := ⟨fun w => Try.isAgg38 w, fun w => Try.sizeOf38 w⟩
instance : Zr Try.prog 38 [.nilFunc] := ⟨_, fun w => Try.zeroValue38 w, rfl⟩
instance : Sc Try.prog 39 := ⟨fun w => Try.isAgg39 w, fun w => Try.sizeOf39 w⟩
instance : Zr Try.prog 39 [.nilFunc] := ⟨_, fun w => Try.zeroValue39 w, rfl⟩
instance : Sc Try.prog 40 := ⟨fun w => Try.isAgg40 w, fun w => Try.sizeOf40 w⟩
instance : Zr Try.prog 40 [.nilFunc] := ⟨_, fun w => Try.zeroValue40 w, rfl⟩
instance : Sc Try.prog 41 := ⟨fun w => Try.isAgg41 w, fun w => Try.sizeOf41 w⟩
instance : Zr Try.prog 41 [.nilFunc] := ⟨_, fun w => Try.zeroValue41 w, rfl⟩
instance : Sc Try.prog 42 := ⟨fun w => Try.isAgg42 w, fun w => Try.sizeOf42 w⟩
instance : Zr Try.prog 42 [.nilFunc] := ⟨_, fun w => Try.zeroValue42 w, rfl⟩
instance : Sc Try.prog 43 := ⟨fun w => Try.isAgg43 w, fun w => Try.sizeOf43 w⟩
instance : Zr Try.prog 43 [.nilFunc] := ⟨_, fun w => Try.zeroValue43 w, rfl⟩
instance : Sc Try.prog 44 := ⟨fun w => Try.isAgg44 w, fun w => Try.sizeOf44 w⟩
instance : Zr Try.prog 44 [.nilFunc] := ⟨_, fun w => Try.zeroValue44 w, rfl⟩
instance : Sc Try.prog 45 := ⟨fun w => Try.isAgg45 w, fun w => Try.sizeOf45 w⟩
instance : Zr Try.prog 45 [(.slice none 0 0)] := ⟨_, fun w => Try.zeroValue45 w, rfl⟩
instance : Sl Try.prog 45 1 1 := ⟨5, Try.t5, _, Try.underlying45, by kernel_rfl, rfl, rfl, rfl, rfl, by decide⟩
instance : SlZ Try.prog 45 [(.int .u8 (0))] := ⟨fun {e i z} h1 h2 h3 => by
  rw [Try.underlying45] at h1; cases h1
  rw [show Try.prog.info? 5 = some Try.t5 by kernel_rfl] at h2; cases h2; cases h3; rfl⟩
instance : Sc Try.prog 46 := ⟨fun w => Try.isAgg46 w, fun w => Try.sizeOf46 w⟩
instance : Zr Try.prog 46 [.nilFunc] := ⟨_, fun w => Try.zeroValue46 w, rfl⟩
instance : Sc Try.prog 47 := ⟨fun w => Try.isAgg47 w, fun w => Try.sizeOf47 w⟩
instance : Zr Try.prog 47 [(.pointer none)] := ⟨_, fun w => Try.zeroValue47 w, rfl⟩
instance : Sc Try.prog 48 := ⟨fun w => Try.isAgg48 w, fun w => Try.sizeOf48 w⟩
instance : Zr Try.prog 48 [.nilFunc] := ⟨_, fun w => Try.zeroValue48 w, rfl⟩
instance : Sc Try.prog 49 := ⟨fun w => Try.isAgg49 w, fun w => Try.sizeOf49 w⟩
instance : Zr Try.prog 49 [(.int .u64 (0))] := ⟨_, fun w => Try.zeroValue49 w, rfl⟩
instance : Sc Try.prog 50 := ⟨fun w => Try.isAgg50 w, fun w => Try.sizeOf50 w⟩
instance : Zr Try.prog 50 [(.slice none 0 0)] := ⟨_, fun w => Try.zeroValue50 w, rfl⟩
instance : Sl Try.prog 50 2 48 := ⟨114, Try.t114, _, Try.underlying50, by kernel_rfl, rfl, rfl, rfl, rfl, by decide⟩
instance : SlZ Try.prog 50 [(.slice none 0 0), (.slice none 0 0)] := ⟨fun {e i z} h1 h2 h3 => by
  rw [Try.underlying50] at h1; cases h1
  rw [show Try.prog.info? 114 = some Try.t114 by kernel_rfl] at h2; cases h2; cases h3; rfl⟩
instance : Ag Try.prog 51 2 := ⟨fun w => Try.isAgg51 w, fun w => Try.sizeOf51 w⟩
instance : Zr Try.prog 51 [(.slice none 0 0), (.slice none 0 0)] := ⟨_, fun w => Try.zeroValue51 w, rfl⟩
instance : Fo Try.prog 51 0 0 := ⟨fun w a => by simp [Instr.fieldAt, Instr.sureAddr, fieldPlace]⟩
instance : Fo Try.prog 51 1 1 := ⟨fun w a => by simp [Instr.fieldAt, Instr.sureAddr, fieldPlace]⟩
instance : StT Try.prog 51 [(0, 1), (1, 1)] [(.slice none 0 0), (.slice none 0 0)] := ⟨_, Try.t51, _, Try.underlying51, by kernel_rfl, by kernel_rfl, rfl, rfl⟩
instance : Ag Try.prog 52 2 := ⟨fun w => Try.isAgg52 w, fun w => Try.sizeOf52 w⟩
instance : Zr Try.prog 52 [(.slice none 0 0), (.slice none 0 0)] := ⟨_, fun w => Try.zeroValue52 w, rfl⟩
instance : Fo Try.prog 52 0 0 := ⟨fun w a => by simp [Instr.fieldAt, Instr.sureAddr, fieldPlace]⟩
instance : Fo Try.prog 52 1 1 := ⟨fun w a => by simp [Instr.fieldAt, Instr.sureAddr, fieldPlace]⟩
instance : StT Try.prog 52 [(0, 1), (1, 1)] [(.slice none 0 0), (.slice none 0 0)] := ⟨_, Try.t52, _, Try.underlying52, by kernel_rfl, by kernel_rfl, rfl, rfl⟩
instance : Sc Try.prog 53 := ⟨fun w => Try.isAgg53 w, fun w => Try.sizeOf53 w⟩
instance : Zr Try.prog 53 [.nilFunc] := ⟨_, fun w => Try.zeroValue53 w, rfl⟩
instance : Sc Try.prog 54 := ⟨fun w => Try.isAgg54 w, fun w => Try.sizeOf54 w⟩
instance : Zr Try.prog 54 [.nilFunc] := ⟨_, fun w => Try.zeroValue54 w, rfl⟩
instance : Sc Try.prog 55 := ⟨fun w => Try.isAgg55 w, fun w => Try.sizeOf55 w⟩
instance : Zr Try.prog 55 [(.slice none 0 0)] := ⟨_, fun w => Try.zeroValue55 w, rfl⟩
instance : Sl Try.prog 55 3 40 := ⟨59, Try.t59, _, Try.underlying55, by kernel_rfl, rfl, rfl, rfl, rfl, by decide⟩
instance : SlZ Try.prog 55 [(.int .i64 (0)), (.int .i64 (0)), (.slice none 0 0)] := ⟨fun {e i z} h1 h2 h3 => by
  rw [Try.underlying55] at h1; cases h1
  rw [show Try.prog.info? 59 = some Try.t59 by kernel_rfl] at h2; cases h2; cases h3; rfl⟩
instance : Sc Try.prog 56 := ⟨fun w => Try.isAgg56 w, fun w => Try.sizeOf56 w⟩
instance : Zr Try.prog 56 [.nilFunc] := ⟨_, fun w => Try.zeroValue56 w, rfl⟩
instance : Sc Try.prog 57 := ⟨fun w => Try.isAgg57 w, fun w => Try.sizeOf57 w⟩
instance : Zr Try.prog 57 [.nilFunc] := ⟨_, fun w => Try.zeroValue57 w, rfl⟩
instance : Ag Try.prog 58 3 := ⟨fun w => Try.isAgg58 w, fun w => Try.sizeOf58 w⟩
instance : Zr Try.prog 58 [(.int .i64 (0)), (.int .i64 (0)), (.slice none 0 0)] := ⟨_, fun w => Try.zeroValue58 w, rfl⟩
instance : Fo Try.prog 58 0 0 := ⟨fun w a => by simp [Instr.fieldAt, Instr.sureAddr, fieldPlace]⟩
instance : Fo Try.prog 58 1 1 := ⟨fun w a => by simp [Instr.fieldAt, Instr.sureAddr, fieldPlace]⟩
instance : Fo Try.prog 58 2 2 := ⟨fun w a => by simp [Instr.fieldAt, Instr.sureAddr, fieldPlace]⟩
instance : StT Try.prog 58 [(0, 1), (1, 1), (2, 1)] [(.int .i64 (0)), (.int .i64 (0)), (.slice none 0 0)] := ⟨_, Try.t58, _, Try.underlying58, by kernel_rfl, by kernel_rfl, rfl, rfl⟩
instance : Ag Try.prog 59 3 := ⟨fun w => Try.isAgg59 w, fun w => Try.sizeOf59 w⟩
instance : Zr Try.prog 59 [(.int .i64 (0)), (.int .i64 (0)), (.slice none 0 0)] := ⟨_, fun w => Try.zeroValue59 w, rfl⟩
instance : Fo Try.prog 59 0 0 := ⟨fun w a => by simp [Instr.fieldAt, Instr.sureAddr, fieldPlace]⟩
instance : Fo Try.prog 59 1 1 := ⟨fun w a => by simp [Instr.fieldAt, Instr.sureAddr, fieldPlace]⟩
instance : Fo Try.prog 59 2 2 := ⟨fun w a => by simp [Instr.fieldAt, Instr.sureAddr, fieldPlace]⟩
instance : StT Try.prog 59 [(0, 1), (1, 1), (2, 1)] [(.int .i64 (0)), (.int .i64 (0)), (.slice none 0 0)] := ⟨_, Try.t59, _, Try.underlying59, by kernel_rfl, by kernel_rfl, rfl, rfl⟩
instance : Sc Try.prog 60 := ⟨fun w => Try.isAgg60 w, fun w => Try.sizeOf60 w⟩
instance : Zr Try.prog 60 [.nilFunc] := ⟨_, fun w => Try.zeroValue60 w, rfl⟩
instance : Sc Try.prog 61 := ⟨fun w => Try.isAgg61 w, fun w => Try.sizeOf61 w⟩
instance : Zr Try.prog 61 [.nilFunc] := ⟨_, fun w => Try.zeroValue61 w, rfl⟩
instance : Sc Try.prog 62 := ⟨fun w => Try.isAgg62 w, fun w => Try.sizeOf62 w⟩
instance : Zr Try.prog 62 [(.slice none 0 0)] := ⟨_, fun w => Try.zeroValue62 w, rfl⟩
instance : Sl Try.prog 62 2 48 := ⟨173, Try.t173, _, Try.underlying62, by kernel_rfl, rfl, rfl, rfl, rfl, by decide⟩
instance : SlZ Try.prog 62 [(.slice none 0 0), (.slice none 0 0)] := ⟨fun {e i z} h1 h2 h3 => by
  rw [Try.underlying62] at h1; cases h1
  rw [show Try.prog.info? 173 = some Try.t173 by kernel_rfl] at h2; cases h2; cases h3; rfl⟩
instance : Ag Try.prog 63 2 := ⟨fun w => Try.isAgg63 w, fun w => Try.sizeOf63 w⟩
instance : Zr Try.prog 63 [(.slice none 0 0), (.slice none 0 0)] := ⟨_, fun w => Try.zeroValue63 w, rfl⟩
instance : Fo Try.prog 63 0 0 := ⟨fun w a => by simp [Instr.fieldAt, Instr.sureAddr, fieldPlace]⟩
instance : Fo Try.prog 63 1 1 := ⟨fun w a => by simp [Instr.fieldAt, Instr.sureAddr, fieldPlace]⟩
instance : StT Try.prog 63 [(0, 1), (1, 1)] [(.slice none 0 0), (.slice none 0 0)] := ⟨_, Try.t63, _, Try.underlying63, by kernel_rfl, by kernel_rfl, rfl, rfl⟩
instance : Ag Try.prog 64 2 := ⟨fun w => Try.isAgg64 w, fun w => Try.sizeOf64 w⟩
instance : Zr Try.prog 64 [(.slice none 0 0), (.slice none 0 0)] := ⟨_, fun w => Try.zeroValue64 w, rfl⟩
instance : Fo Try.prog 64 0 0 := ⟨fun w a => by simp [Instr.fieldAt, Instr.sureAddr, fieldPlace]⟩
instance : Fo Try.prog 64 1 1 := ⟨fun w a => by simp [Instr.fieldAt, Instr.sureAddr, fieldPlace]⟩
instance : StT Try.prog 64 [(0, 1), (1, 1)] [(.slice none 0 0), (.slice none 0 0)] := ⟨_, Try.t64, _, Try.underlying64, by kernel_rfl, by kernel_rfl, rfl, rfl⟩
instance : Sc Try.prog 65 := ⟨fun w => Try.isAgg65 w, fun w => Try.sizeOf65 w⟩
instance : Zr Try.prog 65 [.nilFunc] := ⟨_, fun w => Try.zeroValue65 w, rfl⟩
instance : Sc Try.prog 66 := ⟨fun w => Try.isAgg66 w, fun w => Try.sizeOf66 w⟩
instance : Zr Try.prog 66 [.nilFunc] := ⟨_, fun w => Try.zeroValue66 w, rfl⟩
instance : Sc Try.prog 67 := ⟨fun w => Try.isAgg67 w, fun w => Try.sizeOf67 w⟩
instance : Zr Try.prog 67 [.nilFunc] := ⟨_, fun w => Try.zeroValue67 w, rfl⟩
instance : Sc Try.prog 68 := ⟨fun w => Try.isAgg68 w, fun w => Try.sizeOf68 w⟩
instance : Zr Try.prog 68 [.nilFunc] := ⟨_, fun w => Try.zeroValue68 w, rfl⟩
instance : Sc Try.prog 69 := ⟨fun w => Try.isAgg69 w, fun w => Try.sizeOf69 w⟩
instance : Zr Try.prog 69 [.nilFunc] := ⟨_, fun w => Try.zeroValue69 w, rfl⟩
instance : Sc Try.prog 70 := ⟨fun w => Try.isAgg70 w, fun w => Try.sizeOf70 w⟩
instance : Zr Try.prog 70 [.nilFunc] := ⟨_, fun w => Try.zeroValue70 w, rfl⟩
instance : Sc Try.prog 71 := ⟨fun w => Try.isAgg71 w, fun w => Try.sizeOf71 w⟩
instance : Zr Try.prog 71 [.nilFunc] := ⟨_, fun w => Try.zeroValue71 w, rfl⟩
instance : Sc Try.prog 72 := ⟨fun w => Try.isAgg72 w, fun w => Try.sizeOf72 w⟩
instance : Zr Try.prog 72 [.nilFunc] := ⟨_, fun w => Try.zeroValue72 w, rfl⟩
instance : Sc Try.prog 74 := ⟨fun w => Try.isAgg74 w, fun w => Try.sizeOf74 w⟩
instance : Zr Try.prog 74 [.nilFunc] := ⟨_, fun w => Try.zeroValue74 w, rfl⟩
instance : Sc Try.prog 76 := ⟨fun w => Try.isAgg76 w, fun w => Try.sizeOf76 w⟩
instance : Zr Try.prog 76 [.nilFunc] := ⟨_, fun w => Try.zeroValue76 w, rfl⟩
instance : Sc Try.prog 77 := ⟨fun w => Try.isAgg77 w, fun w => Try.sizeOf77 w⟩
instance : Zr Try.prog 77 [.nilFunc] := ⟨_, fun w => Try.zeroValue77 w, rfl⟩
instance : Sc Try.prog 78 := ⟨fun w => Try.isAgg78 w, fun w => Try.sizeOf78 w⟩
instance : Zr Try.prog 78 [.nilFunc] := ⟨_, fun w => Try.zeroValue78 w, rfl⟩
instance : Sc Try.prog 79 := ⟨fun w => Try.isAgg79 w, fun w => Try.sizeOf79 w⟩
instance : Zr Try.prog 79 [.nilFunc] := ⟨_, fun w => Try.zeroValue79 w, rfl⟩
instance : Sc Try.prog 80 := ⟨fun w => Try.isAgg80 w, fun w => Try.sizeOf80 w⟩
instance : Zr Try.prog 80 [(.slice none 0 0)] := ⟨_, fun w => Try.zeroValue80 w, rfl⟩
instance : Sl Try.prog 80 4 96 := ⟨90, Try.t90, _, Try.underlying80, by kernel_rfl, rfl, rfl, rfl, rfl, by decide⟩
instance : SlZ Try.prog 80 [(.slice none 0 0), (.slice none 0 0), (.slice none 0 0), (.slice none 0 0)] := ⟨fun {e i z} h1 h2 h3 => by
  rw [Try.underlying80] at h1; cases h1
  rw [show Try.prog.info? 90 = some Try.t90 by kernel_rfl] at h2; cases h2; cases h3; rfl⟩
instance : Sc Try.prog 81 := ⟨fun w => Try.isAgg81 w, fun w => Try.sizeOf81 w⟩
instance : Zr Try.prog 81 [.nilFunc] := ⟨_, fun w => Try.zeroValue81 w, rfl⟩
instance : Sc Try.prog 82 := ⟨fun w => Try.isAgg82 w, fun w => Try.sizeOf82 w⟩
instance : Zr Try.prog 82 [(.slice none 0 0)] := ⟨_, fun w => Try.zeroValue82 w, rfl⟩
instance : Sl Try.prog 82 1 24 := ⟨22, Try.t22, _, Try.underlying82, by kernel_rfl, rfl, rfl, rfl, rfl, by decide⟩
instance : SlZ Try.prog 82 [(.slice none 0 0)] := ⟨fun {e i z} h1 h2 h3 => by
  rw [Try.underlying82] at h1; cases h1
  rw [show Try.prog.info? 22 = some Try.t22 by kernel_rfl] at h2; cases h2; cases h3; rfl⟩
instance : Ag Try.prog 83 4 := ⟨fun w => Try.isAgg83 w, fun w => Try.sizeOf83 w⟩
instance : Zr Try.prog 83 [(.int .i64 (0)), (.slice none 0 0), (.slice none 0 0), (.slice none 0 0)] := ⟨_, fun w => Try.zeroValue83 w, rfl⟩
instance : Fo Try.prog 83 0 0 := ⟨fun w a => by simp [Instr.fieldAt, Instr.sureAddr, fieldPlace]⟩
instance : Fo Try.prog 83 1 1 := ⟨fun w a => by simp [Instr.fieldAt, Instr.sureAddr, fieldPlace]⟩
instance : Fo Try.prog 83 2 2 := ⟨fun w a => by simp [Instr.fieldAt, Instr.sureAddr, fieldPlace]⟩
instance : Fo Try.prog 83 3 3 := ⟨fun w a => by simp [Instr.fieldAt, Instr.sureAddr, fieldPlace]⟩
instance : StT Try.prog 83 [(0, 1), (1, 1), (2, 1), (3, 1)] [(.int .i64 (0)), (.slice none 0 0), (.slice none 0 0), (.slice none 0 0)] := ⟨_, Try.t83, _, Try.underlying83, by kernel_rfl, by kernel_rfl, rfl, rfl⟩
instance : Ag Try.prog 84 4 := ⟨fun w => Try.isAgg84 w, fun w => Try.sizeOf84 w⟩
instance : Zr Try.prog 84 [(.int .i64 (0)), (.slice none 0 0), (.slice none 0 0), (.slice none 0 0)] := ⟨_, fun w => Try.zeroValue84 w, rfl⟩
instance : Fo Try.prog 84 0 0 := ⟨fun w a => by simp [Instr.fieldAt, Instr.sureAddr, fieldPlace]⟩
instance : Fo Try.prog 84 1 1 := ⟨fun w a => by simp [Instr.fieldAt, Instr.sureAddr, fieldPlace]⟩
instance : Fo Try.prog 84 2 2 := ⟨fun w a => by simp [Instr.fieldAt, Instr.sureAddr, fieldPlace]⟩
instance : Fo Try.prog 84 3 3 := ⟨fun w a => by simp [Instr.fieldAt, Instr.sureAddr, fieldPlace]⟩
instance : StT Try.prog 84 [(0, 1), (1, 1), (2, 1), (3, 1)] [(.int .i64 (0)), (.slice none 0 0), (.slice none 0 0), (.slice none 0 0)] := ⟨_, Try.t84, _, Try.underlying84, by kernel_rfl, by kernel_rfl, rfl, rfl⟩
instance : Sc Try.prog 85 := ⟨fun w => Try.isAgg85 w, fun w => Try.sizeOf85 w⟩
instance : Zr Try.prog 85 [.nilFunc] := ⟨_, fun w => Try.zeroValue85 w, rfl⟩
instance : Sc Try.prog 87 := ⟨fun w => Try.isAgg87 w, fun w => Try.sizeOf87 w⟩
instance : Zr Try.prog 87 [.nilFunc] := ⟨_, fun w => Try.zeroValue87 w, rfl⟩
instance : Sc Try.prog 88 := ⟨fun w => Try.isAgg88 w, fun w => Try.sizeOf88 w⟩
instance : Zr Try.prog 88 [(.slice none 0 0)] := ⟨_, fun w => Try.zeroValue88 w, rfl⟩
instance : Sl Try.prog 88 2 32 := ⟨145, Try.t145, _, Try.underlying88, by kernel_rfl, rfl, rfl, rfl, rfl, by decide⟩
instance : SlZ Try.prog 88 [(.int .i64 (0)), (.slice none 0 0)] := ⟨fun {e i z} h1 h2 h3 => by
  rw [Try.underlying88] at h1; cases h1
  rw [show Try.prog.info? 145 = some Try.t145 by kernel_rfl] at h2; cases h2; cases h3; rfl⟩
instance : Ag Try.prog 89 4 := ⟨fun w => Try.isAgg89 w, fun w => Try.sizeOf89 w⟩
instance : Zr Try.prog 89 [(.slice none 0 0), (.slice none 0 0), (.slice none 0 0), (.slice none 0 0)] := ⟨_, fun w => Try.zeroValue89 w, rfl⟩
instance : Fo Try.prog 89 0 0 := ⟨fun w a => by simp [Instr.fieldAt, Instr.sureAddr, fieldPlace]⟩
instance : Fo Try.prog 89 1 1 := ⟨fun w a => by simp [Instr.fieldAt, Instr.sureAddr, fieldPlace]⟩
instance : Fo Try.prog 89 2 2 := ⟨fun w a => by simp [Instr.fieldAt, Instr.sureAddr, fieldPlace]⟩
instance : Fo Try.prog 89 3 3 := ⟨fun w a => by simp [Instr.fieldAt, Instr.sureAddr, fieldPlace]⟩
instance : StT Try.prog 89 [(0, 1), (1, 1), (2, 1), (3, 1)] [(.slice none 0 0), (.slice none 0 0), (.slice none 0 0), (.slice none 0 0)] := ⟨_, Try.t89, _, Try.underlying89, by kernel_rfl, by kernel_rfl, rfl, rfl⟩
instance : Ag Try.prog 90 4 := ⟨fun w => Try.isAgg90 w, fun w => Try.sizeOf90 w⟩
instance : Zr Try.prog 90 [(.slice none 0 0), (.slice none 0 0), (.slice none 0 0), (.slice none 0 0)] := ⟨_, fun w => Try.zeroValue90 w, rfl⟩
instance : Fo Try.prog 90 0 0 := ⟨fun w a => by simp [Instr.fieldAt, Instr.sureAddr, fieldPlace]⟩
instance : Fo Try.prog 90 1 1 := ⟨fun w a => by simp [Instr.fieldAt, Instr.sureAddr, fieldPlace]⟩
instance : Fo Try.prog 90 2 2 := ⟨fun w a => by simp [Instr.fieldAt, Instr.sureAddr, fieldPlace]⟩
instance : Fo Try.prog 90 3 3 := ⟨fun w a => by simp [Instr.fieldAt, Instr.sureAddr, fieldPlace]⟩
instance : StT Try.prog 90 [(0, 1), (1, 1), (2, 1), (3, 1)] [(.slice none 0 0), (.slice none 0 0), (.slice none 0 0), (.slice none 0 0)] := ⟨_, Try.t90, _, Try.underlying90, by kernel_rfl, by kernel_rfl, rfl, rfl⟩
instance : Sc Try.prog 91 := ⟨fun w => Try.isAgg91 w, fun w => Try.sizeOf91 w⟩
instance : Zr Try.prog 91 [.nilFunc] := ⟨_, fun w => Try.zeroValue91 w, rfl⟩
instance : Sc Try.prog 92 := ⟨fun w => Try.isAgg92 w, fun w => Try.sizeOf92 w⟩
instance : Zr Try.prog 92 [.nilFunc] := ⟨_, fun w => Try.zeroValue92 w, rfl⟩
instance : Sc Try.prog 93 := ⟨fun w => Try.isAgg93 w, fun w => Try.sizeOf93 w⟩
instance : Zr Try.prog 93 [.nilFunc] := ⟨_, fun w => Try.zeroValue93 w, rfl⟩
instance : Sc Try.prog 94 := ⟨fun w => Try.isAgg94 w, fun w => Try.sizeOf94 w⟩
instance : Zr Try.prog 94 [(.int .u32 (0))] := ⟨_, fun w => Try.zeroValue94 w, rfl⟩
instance : Sc Try.prog 95 := ⟨fun w => Try.isAgg95 w, fun w => Try.sizeOf95 w⟩
instance : Zr Try.prog 95 [(.int .u32 (0))] := ⟨_, fun w => Try.zeroValue95 w, rfl⟩
instance : Sc Try.prog 96 := ⟨fun w => Try.isAgg96 w, fun w => Try.sizeOf96 w⟩
instance : Zr Try.prog 96 [.nilFunc] := ⟨_, fun w => Try.zeroValue96 w, rfl⟩
instance : Sc Try.prog 97 := ⟨fun w => Try.isAgg97 w, fun w => Try.sizeOf97 w⟩
instance : Zr Try.prog 97 [.nilFunc] := ⟨_, fun w => Try.zeroValue97 w, rfl⟩
instance : Sc Try.prog 98 := ⟨fun w => Try.isAgg98 w, fun w => Try.sizeOf98 w⟩
instance : Zr Try.prog 98 [(.pointer none)] := ⟨_, fun w => Try.zeroValue98 w, rfl⟩
instance : Sc Try.prog 99 := ⟨fun w => Try.isAgg99 w, fun w => Try.sizeOf99 w⟩
instance : Zr Try.prog 99 [.nilFunc] := ⟨_, fun w => Try.zeroValue99 w, rfl⟩
instance : Sc Try.prog 100 := ⟨fun w => Try.isAgg100 w, fun w => Try.sizeOf100 w⟩
instance : Zr Try.prog 100 [.nilFunc] := ⟨_, fun w => Try.zeroValue100 w, rfl⟩
instance : Ag Try.prog 101 61 := ⟨fun w => Try.isAgg101 w, fun w => Try.sizeOf101 w⟩
instance : Zr Try.prog 101 [(.slice none 0 0), (.slice none 0 0), (.slice none 0 0), (.slice none 0 0), (.slice none 0 0), (.slice none 0 0), (.slice none 0 0), (.slice none 0 0), (.slice none 0 0), (.slice none 0 0), (.slice none 0 0), (.slice none 0 0), (.slice none 0 0), (.slice none 0 0), (.slice none 0 0), (.slice none 0 0), (.slice none 0 0), (.slice none 0 0), (.slice none 0 0), (.slice none 0 0), (.slice none 0 0), (.slice none 0 0), (.slice none 0 0), (.slice none 0 0), (.slice none 0 0), (.slice none 0 0), (.slice none 0 0), (.slice none 0 0), (.slice none 0 0), (.slice none 0 0), (.slice none 0 0), (.slice none 0 0), (.slice none 0 0), (.slice none 0 0), (.slice none 0 0), (.slice none 0 0), (.slice none 0 0), (.slice none 0 0), (.slice none 0 0), (.slice none 0 0), (.slice none 0 0), (.slice none 0 0), (.slice none 0 0), (.slice none 0 0), (.slice none 0 0), (.slice none 0 0), (.slice none 0 0), (.slice none 0 0), (.slice none 0 0), (.slice none 0 0), (.slice none 0 0), (.slice none 0 0), (.slice none 0 0), (.slice none 0 0), (.slice none 0 0), (.slice none 0 0), (.slice none 0 0), (.slice none 0 0), (.slice none 0 0), (.slice none 0 0), (.slice none 0 0)] := ⟨_, fun w => Try.zeroValue101 w, rfl⟩
instance : ArT Try.prog 101 61 := ⟨_, Try.t22, Try.underlying101, by kernel_rfl, rfl, by decide⟩
instance : Sc Try.prog 103 := ⟨fun w => Try.isAgg103 w, fun w => Try.sizeOf103 w⟩
instance : Zr Try.prog 103 [(.map none)] := ⟨_, fun w => Try.zeroValue103 w, rfl⟩
instance : Sc Try.prog 106 := ⟨fun w => Try.isAgg106 w, fun w => Try.sizeOf106 w⟩
instance : Zr Try.prog 106 [.nilFunc] := ⟨_, fun w => Try.zeroValue106 w, rfl⟩
instance : Sc Try.prog 107 := ⟨fun w => Try.isAgg107 w, fun w => Try.sizeOf107 w⟩
instance : Zr Try.prog 107 [.nilFunc] := ⟨_, fun w => Try.zeroValue107 w, rfl⟩
instance : Sc Try.prog 108 := ⟨fun w => Try.isAgg108 w, fun w => Try.sizeOf108 w⟩
instance : Zr Try.prog 108 [.nilFunc] := ⟨_, fun w => Try.zeroValue108 w, rfl⟩
instance : Ag Try.prog 109 3 := ⟨fun w => Try.isAgg109 w, fun w => Try.sizeOf109 w⟩
instance : Zr Try.prog 109 [(.slice none 0 0), (.int .i64 (0)), (.int .u64 (0))] := ⟨_, fun w => Try.zeroValue109 w, rfl⟩
instance : Fo Try.prog 109 0 0 := ⟨fun w a => by simp [Instr.fieldAt, Instr.sureAddr, fieldPlace]⟩
instance : Fo Try.prog 109 1 1 := ⟨fun w a => by simp [Instr.fieldAt, Instr.sureAddr, fieldPlace]⟩
instance : Fo Try.prog 109 2 2 := ⟨fun w a => by simp [Instr.fieldAt, Instr.sureAddr, fieldPlace]⟩
instance : StT Try.prog 109 [(0, 1), (1, 1), (2, 1)] [(.slice none 0 0), (.int .i64 (0)), (.int .u64 (0))] := ⟨_, Try.t109, _, Try.underlying109, by kernel_rfl, by kernel_rfl, rfl, rfl⟩
instance : Ag Try.prog 110 3 := ⟨fun w => Try.isAgg110 w, fun w => Try.sizeOf110 w⟩
instance : Zr Try.prog 110 [(.slice none 0 0), (.int .i64 (0)), (.int .u64 (0))] := ⟨_, fun w => Try.zeroValue110 w, rfl⟩
instance : Fo Try.prog 110 0 0 := ⟨fun w a => by simp [Instr.fieldAt, Instr.sureAddr, fieldPlace]⟩
instance : Fo Try.prog 110 1 1 := ⟨fun w a => by simp [Instr.fieldAt, Instr.sureAddr, fieldPlace]⟩
instance : Fo Try.prog 110 2 2 := ⟨fun w a => by simp [Instr.fieldAt, Instr.sureAddr, fieldPlace]⟩
instance : StT Try.prog 110 [(0, 1), (1, 1), (2, 1)] [(.slice none 0 0), (.int .i64 (0)), (.int .u64 (0))] := ⟨_, Try.t110, _, Try.underlying110, by kernel_rfl, by kernel_rfl, rfl, rfl⟩
instance : Sc Try.prog 111 := ⟨fun w => Try.isAgg111 w, fun w => Try.sizeOf111 w⟩
instance : Zr Try.prog 111 [.nilFunc] := ⟨_, fun w => Try.zeroValue111 w, rfl⟩
instance : Sc Try.prog 112 := ⟨fun w => Try.isAgg112 w, fun w => Try.sizeOf112 w⟩
instance : Zr Try.prog 112 [.nilFunc] := ⟨_, fun w => Try.zeroValue112 w, rfl⟩
instance : Ag Try.prog 113 2 := ⟨fun w => Try.isAgg113 w, fun w => Try.sizeOf113 w⟩
instance : Zr Try.prog 113 [(.slice none 0 0), (.slice none 0 0)] := ⟨_, fun w => Try.zeroValue113 w, rfl⟩
instance : Fo Try.prog 113 0 0 := ⟨fun w a => by simp [Instr.fieldAt, Instr.sureAddr, fieldPlace]⟩
instance : Fo Try.prog 113 1 1 := ⟨fun w a => by simp [Instr.fieldAt, Instr.sureAddr, fieldPlace]⟩
instance : StT Try.prog 113 [(0, 1), (1, 1)] [(.slice none 0 0), (.slice none 0 0)] := ⟨_, Try.t113, _, Try.underlying113, by kernel_rfl, by kernel_rfl, rfl, rfl⟩
instance : Ag Try.prog 114 2 := ⟨fun w => Try.isAgg114 w, fun w => Try.sizeOf114 w⟩
instance : Zr Try.prog 114 [(.slice none 0 0), (.slice none 0 0)] := ⟨_, fun w => Try.zeroValue114 w, rfl⟩
instance : Fo Try.prog 114 0 0 := ⟨fun w a => by simp [Instr.fieldAt, Instr.sureAddr, fieldPlace]⟩
instance : Fo Try.prog 114 1 1 := ⟨fun w a => by simp [Instr.fieldAt, Instr.sureAddr, fieldPlace]⟩
instance : StT Try.prog 114 [(0, 1), (1, 1)] [(.slice none 0 0), (.slice none 0 0)] := ⟨_, Try.t114, _, Try.underlying114, by kernel_rfl, by kernel_rfl, rfl, rfl⟩
instance : Sc Try.prog 115 := ⟨fun w => Try.isAgg115 w, fun w => Try.sizeOf115 w⟩
instance : Zr Try.prog 115 [.nilFunc] := ⟨_, fun w => Try.zeroValue115 w, rfl⟩
instance : Sc Try.prog 116 := ⟨fun w => Try.isAgg116 w, fun w => Try.sizeOf116 w⟩
instance : Zr Try.prog 116 [.nilFunc] := ⟨_, fun w => Try.zeroValue116 w, rfl⟩
instance : Sc Try.prog 117 := ⟨fun w => Try.isAgg117 w, fun w => Try.sizeOf117 w⟩
instance : Zr Try.prog 117 [.nilFunc] := ⟨_, fun w => Try.zeroValue117 w, rfl⟩
instance : Sc Try.prog 118 := ⟨fun w => Try.isAgg118 w, fun w => Try.sizeOf118 w⟩
instance : Zr Try.prog 118 [(.int .u64 (0))] := ⟨_, fun w => Try.zeroValue118 w, rfl⟩
instance : Sc Try.prog 119 := ⟨fun w => Try.isAgg119 w, fun w => Try.sizeOf119 w⟩
instance : Zr Try.prog 119 [.nilFunc] := ⟨_, fun w => Try.zeroValue119 w, rfl⟩
instance : Sc Try.prog 120 := ⟨fun w => Try.isAgg120 w, fun w => Try.sizeOf120 w⟩
instance : Zr Try.prog 120 [.nilFunc] := ⟨_, fun w => Try.zeroValue120 w, rfl⟩
instance : Sc Try.prog 121 := ⟨fun w => Try.isAgg121 w, fun w => Try.sizeOf121 w⟩
instance : Zr Try.prog 121 [.nilFunc] := ⟨_, fun w => Try.zeroValue121 w, rfl⟩
instance : Sc Try.prog 122 := ⟨fun w => Try.isAgg122 w, fun w => Try.sizeOf122 w⟩
instance : Zr Try.prog 122 [.nilFunc] := ⟨_, fun w => Try.zeroValue122 w, rfl⟩
instance : Sc Try.prog 123 := ⟨fun w => Try.isAgg123 w, fun w => Try.sizeOf123 w⟩
instance : Zr Try.prog 123 [.nilFunc] := ⟨_, fun w => Try.zeroValue123 w, rfl⟩
instance : Sc Try.prog 125 := ⟨fun w => Try.isAgg125 w, fun w => Try.sizeOf125 w⟩
instance : Zr Try.prog 125 [.nilFunc] := ⟨_, fun w => Try.zeroValue125 w, rfl⟩
instance : Sc Try.prog 126 := ⟨fun w => Try.isAgg126 w, fun w => Try.sizeOf126 w⟩
instance : Zr Try.prog 126 [.nilFunc] := ⟨_, fun w => Try.zeroValue126 w, rfl⟩
instance : Sc Try.prog 127 := ⟨fun w => Try.isAgg127 w, fun w => Try.sizeOf127 w⟩
instance : Zr Try.prog 127 [.nilFunc] := ⟨_, fun w => Try.zeroValue127 w, rfl⟩
instance : Sc Try.prog 128 := ⟨fun w => Try.isAgg128 w, fun w => Try.sizeOf128 w⟩
instance : Zr Try.prog 128 [.nilFunc] := ⟨_, fun w => Try.zeroValue128 w, rfl⟩
instance : Sc Try.prog 129 := ⟨fun w => Try.isAgg129 w, fun w => Try.sizeOf129 w⟩
instance : Zr Try.prog 129 [.nilFunc] := ⟨_, fun w => Try.zeroValue129 w, rfl⟩
instance : Sc Try.prog 130 := ⟨fun w => Try.isAgg130 w, fun w => Try.sizeOf130 w⟩
instance : Zr Try.prog 130 [.nilFunc] := ⟨_, fun w => Try.zeroValue130 w, rfl⟩
instance : Sc Try.prog 131 := ⟨fun w => Try.isAgg131 w, fun w => Try.sizeOf131 w⟩
instance : Zr Try.prog 131 [(.pointer none)] := ⟨_, fun w => Try.zeroValue131 w, rfl⟩
instance : Sc Try.prog 132 := ⟨fun w => Try.isAgg132 w, fun w => Try.sizeOf132 w⟩
instance : Zr Try.prog 132 [.nilFunc] := ⟨_, fun w => Try.zeroValue132 w, rfl⟩
instance : Sc Try.prog 134 := ⟨fun w => Try.isAgg134 w, fun w => Try.sizeOf134 w⟩
instance : Zr Try.prog 134 [.nilFunc] := ⟨_, fun w => Try.zeroValue134 w, rfl⟩
instance : Sc Try.prog 135 := ⟨fun w => Try.isAgg135 w, fun w => Try.sizeOf135 w⟩
instance : Zr Try.prog 135 [.nilFunc] := ⟨_, fun w => Try.zeroValue135 w, rfl⟩
instance : Sc Try.prog 136 := ⟨fun w => Try.isAgg136 w, fun w => Try.sizeOf136 w⟩
instance : Zr Try.prog 136 [.nilFunc] := ⟨_, fun w => Try.zeroValue136 w, rfl⟩
instance : Sc Try.prog 137 := ⟨fun w => Try.isAgg137 w, fun w => Try.sizeOf137 w⟩
instance : Zr Try.prog 137 [.nilFunc] := ⟨_, fun w => Try.zeroValue137 w, rfl⟩
instance : Ag Try.prog 138 3 := ⟨fun w => Try.isAgg138 w, fun w => Try.sizeOf138 w⟩
instance : Zr Try.prog 138 [(.int .i64 (0)), (.slice none 0 0), (.int .i64 (0))] := ⟨_, fun w => Try.zeroValue138 w, rfl⟩
instance : Fo Try.prog 138 0 0 := ⟨fun w a => by simp [Instr.fieldAt, Instr.sureAddr, fieldPlace]⟩
instance : Fo Try.prog 138 1 1 := ⟨fun w a => by simp [Instr.fieldAt, Instr.sureAddr, fieldPlace]⟩
instance : Fo Try.prog 138 2 2 := ⟨fun w a => by simp [Instr.fieldAt, Instr.sureAddr, fieldPlace]⟩
instance : StT Try.prog 138 [(0, 1), (1, 1), (2, 1)] [(.int .i64 (0)), (.slice none 0 0), (.int .i64 (0))] := ⟨_, Try.t138, _, Try.underlying138, by kernel_rfl, by kernel_rfl, rfl, rfl⟩
instance : Ag Try.prog 139 3 := ⟨fun w => Try.isAgg139 w, fun w => Try.sizeOf139 w⟩
instance : Zr Try.prog 139 [(.int .i64 (0)), (.slice none 0 0), (.int .i64 (0))] := ⟨_, fun w => Try.zeroValue139 w, rfl⟩
instance : Fo Try.prog 139 0 0 := ⟨fun w a => by simp [Instr.fieldAt, Instr.sureAddr, fieldPlace]⟩
instance : Fo Try.prog 139 1 1 := ⟨fun w a => by simp [Instr.fieldAt, Instr.sureAddr, fieldPlace]⟩
instance : Fo Try.prog 139 2 2 := ⟨fun w a => by simp [Instr.fieldAt, Instr.sureAddr, fieldPlace]⟩
instance : StT Try.prog 139 [(0, 1), (1, 1), (2, 1)] [(.int .i64 (0)), (.slice none 0 0), (.int .i64 (0))] := ⟨_, Try.t139, _, Try.underlying139, by kernel_rfl, by kernel_rfl, rfl, rfl⟩
instance : Sc Try.prog 140 := ⟨fun w => Try.isAgg140 w, fun w => Try.sizeOf140 w⟩
instance : Zr Try.prog 140 [.nilFunc] := ⟨_, fun w => Try.zeroValue140 w, rfl⟩
instance : Sc Try.prog 141 := ⟨fun w => Try.isAgg141 w, fun w => Try.sizeOf141 w⟩
instance : Zr Try.prog 141 [.nilFunc] := ⟨_, fun w => Try.zeroValue141 w, rfl⟩
instance : Sc Try.prog 142 := ⟨fun w => Try.isAgg142 w, fun w => Try.sizeOf142 w⟩
instance : Zr Try.prog 142 [.nilFunc] := ⟨_, fun w => Try.zeroValue142 w, rfl⟩
instance : Sc Try.prog 143 := ⟨fun w => Try.isAgg143 w, fun w => Try.sizeOf143 w⟩
instance : Zr Try.prog 143 [.nilFunc] := ⟨_, fun w => Try.zeroValue143 w, rfl⟩
instance : Ag Try.prog 144 2 := ⟨fun w => Try.isAgg144 w, fun w => Try.sizeOf144 w⟩
instance : Zr Try.prog 144 [(.int .i64 (0)), (.slice none 0 0)] := ⟨_, fun w => Try.zeroValue144 w, rfl⟩
instance : Fo Try.prog 144 0 0 := ⟨fun w a => by simp [Instr.fieldAt, Instr.sureAddr, fieldPlace]⟩
instance : Fo Try.prog 144 1 1 := ⟨fun w a => by simp [Instr.fieldAt, Instr.sureAddr, fieldPlace]⟩
instance : StT Try.prog 144 [(0, 1), (1, 1)] [(.int .i64 (0)), (.slice none 0 0)] := ⟨_, Try.t144, _, Try.underlying144, by kernel_rfl, by kernel_rfl, rfl, rfl⟩
instance : Ag Try.prog 145 2 := ⟨fun w => Try.isAgg145 w, fun w => Try.sizeOf145 w⟩
instance : Zr Try.prog 145 [(.int .i64 (0)), (.slice none 0 0)] := ⟨_, fun w => Try.zeroValue145 w, rfl⟩
instance : Fo Try.prog 145 0 0 := ⟨fun w a => by simp [Instr.fieldAt, Instr.sureAddr, fieldPlace]⟩
instance : Fo Try.prog 145 1 1 := ⟨fun w a => by simp [Instr.fieldAt, Instr.sureAddr, fieldPlace]⟩
instance : StT Try.prog 145 [(0, 1), (1, 1)] [(.int .i64 (0)), (.slice none 0 0)] := ⟨_, Try.t145, _, Try.underlying145, by kernel_rfl, by kernel_rfl, rfl, rfl⟩
instance : Sc Try.prog 146 := ⟨fun w => Try.isAgg146 w, fun w => Try.sizeOf146 w⟩
instance : Zr Try.prog 146 [.nilFunc] := ⟨_, fun w => Try.zeroValue146 w, rfl⟩
instance : Sc Try.prog 147 := ⟨fun w => Try.isAgg147 w, fun w => Try.sizeOf147 w⟩
instance : Zr Try.prog 147 [(.pointer none)] := ⟨_, fun w => Try.zeroValue147 w, rfl⟩
instance : Ag Try.prog 148 2 := ⟨fun w => Try.isAgg148 w, fun w => Try.sizeOf148 w⟩
instance : Zr Try.prog 148 [(.slice none 0 0), (.bool false)] := ⟨_, fun w => Try.zeroValue148 w, rfl⟩
instance : Fo Try.prog 148 0 0 := ⟨fun w a => by simp [Instr.fieldAt, Instr.sureAddr, fieldPlace]⟩
instance : Fo Try.prog 148 1 1 := ⟨fun w a => by simp [Instr.fieldAt, Instr.sureAddr, fieldPlace]⟩
instance : StT Try.prog 148 [(0, 1), (1, 1)] [(.slice none 0 0), (.bool false)] := ⟨_, Try.t148, _, Try.underlying148, by kernel_rfl, by kernel_rfl, rfl, rfl⟩
instance : Ag Try.prog 149 2 := ⟨fun w => Try.isAgg149 w, fun w => Try.sizeOf149 w⟩
instance : Zr Try.prog 149 [(.slice none 0 0), (.bool false)] := ⟨_, fun w => Try.zeroValue149 w, rfl⟩
instance : Fo Try.prog 149 0 0 := ⟨fun w a => by simp [Instr.fieldAt, Instr.sureAddr, fieldPlace]⟩
instance : Fo Try.prog 149 1 1 := ⟨fun w a => by simp [Instr.fieldAt, Instr.sureAddr, fieldPlace]⟩
instance : StT Try.prog 149 [(0, 1), (1, 1)] [(.slice none 0 0), (.bool false)] := ⟨_, Try.t149, _, Try.underlying149, by kernel_rfl, by kernel_rfl, rfl, rfl⟩
instance : Sc Try.prog 150 := ⟨fun w => Try.isAgg150 w, fun w => Try.sizeOf150 w⟩
instance : Zr Try.prog 150 [.nilFunc] := ⟨_, fun w => Try.zeroValue150 w, rfl⟩
instance : Sc Try.prog 151 := ⟨fun w => Try.isAgg151 w, fun w => Try.sizeOf151 w⟩
instance : Zr Try.prog 151 [.nilFunc] := ⟨_, fun w => Try.zeroValue151 w, rfl⟩
instance : Ag Try.prog 152 3 := ⟨fun w => Try.isAgg152 w, fun w => Try.sizeOf152 w⟩
instance : Zr Try.prog 152 [(.int .i64 (0)), (.slice none 0 0), (.int .i64 (0))] := ⟨_, fun w => Try.zeroValue152 w, rfl⟩
instance : Fo Try.prog 152 0 0 := ⟨fun w a => by simp [Instr.fieldAt, Instr.sureAddr, fieldPlace]⟩
instance : Fo Try.prog 152 1 1 := ⟨fun w a => by simp [Instr.fieldAt, Instr.sureAddr, fieldPlace]⟩
instance : Fo Try.prog 152 2 2 := ⟨fun w a => by simp [Instr.fieldAt, Instr.sureAddr, fieldPlace]⟩
instance : StT Try.prog 152 [(0, 1), (1, 1), (2, 1)] [(.int .i64 (0)), (.slice none 0 0), (.int .i64 (0))] := ⟨_, Try.t152, _, Try.underlying152, by kernel_rfl, by kernel_rfl, rfl, rfl⟩
instance : Sc Try.prog 153 := ⟨fun w => Try.isAgg153 w, fun w => Try.sizeOf153 w⟩
instance : Zr Try.prog 153 [.nilFunc] := ⟨_, fun w => Try.zeroValue153 w, rfl⟩
instance : Sc Try.prog 154 := ⟨fun w => Try.isAgg154 w, fun w => Try.sizeOf154 w⟩
instance : Zr Try.prog 154 [.nilFunc] := ⟨_, fun w => Try.zeroValue154 w, rfl⟩
instance : Sc Try.prog 155 := ⟨fun w => Try.isAgg155 w, fun w => Try.sizeOf155 w⟩
instance : Zr Try.prog 155 [.nilFunc] := ⟨_, fun w => Try.zeroValue155 w, rfl⟩
instance : Sc Try.prog 156 := ⟨fun w => Try.isAgg156 w, fun w => Try.sizeOf156 w⟩
instance : Zr Try.prog 156 [.nilFunc] := ⟨_, fun w => Try.zeroValue156 w, rfl⟩
instance : Sc Try.prog 157 := ⟨fun w => Try.isAgg157 w, fun w => Try.sizeOf157 w⟩
instance : Zr Try.prog 157 [.nilFunc] := ⟨_, fun w => Try.zeroValue157 w, rfl⟩
instance : Sc Try.prog 158 := ⟨fun w => Try.isAgg158 w, fun w => Try.sizeOf158 w⟩
instance : Zr Try.prog 158 [.nilFunc] := ⟨_, fun w => Try.zeroValue158 w, rfl⟩
instance : Sc Try.prog 159 := ⟨fun w => Try.isAgg159 w, fun w => Try.sizeOf159 w⟩
instance : Zr Try.prog 159 [.nilFunc] := ⟨_, fun w => Try.zeroValue159 w, rfl⟩
instance : Sc Try.prog 160 := ⟨fun w => Try.isAgg160 w, fun w => Try.sizeOf160 w⟩
instance : Zr Try.prog 160 [.nilFunc] := ⟨_, fun w => Try.zeroValue160 w, rfl⟩
instance : Sc Try.prog 161 := ⟨fun w => Try.isAgg161 w, fun w => Try.sizeOf161 w⟩
instance : Zr Try.prog 161 [.nilFunc] := ⟨_, fun w => Try.zeroValue161 w, rfl⟩
instance : Sc Try.prog 162 := ⟨fun w => Try.isAgg162 w, fun w => Try.sizeOf162 w⟩
instance : Zr Try.prog 162 [.nilFunc] := ⟨_, fun w => Try.zeroValue162 w, rfl⟩
instance : Sc Try.prog 163 := ⟨fun w => Try.isAgg163 w, fun w => Try.sizeOf163 w⟩
instance : Zr Try.prog 163 [.nilFunc] := ⟨_, fun w => Try.zeroValue163 w, rfl⟩
instance : Sc Try.prog 164 := ⟨fun w => Try.isAgg164 w, fun w => Try.sizeOf164 w⟩
instance : Zr Try.prog 164 [.nilFunc] := ⟨_, fun w => Try.zeroValue164 w, rfl⟩
instance : Sc Try.prog 165 := ⟨fun w => Try.isAgg165 w, fun w => Try.sizeOf165 w⟩
instance : Zr Try.prog 165 [.nilFunc] := ⟨_, fun w => Try.zeroValue165 w, rfl⟩
instance : Sc Try.prog 166 := ⟨fun w => Try.isAgg166 w, fun w => Try.sizeOf166 w⟩
instance : Zr Try.prog 166 [.nilFunc] := ⟨_, fun w => Try.zeroValue166 w, rfl⟩
instance : Sc Try.prog 167 := ⟨fun w => Try.isAgg167 w, fun w => Try.sizeOf167 w⟩
instance : Zr Try.prog 167 [.nilFunc] := ⟨_, fun w => Try.zeroValue167 w, rfl⟩
instance : Sc Try.prog 168 := ⟨fun w => Try.isAgg168 w, fun w => Try.sizeOf168 w⟩
instance : Zr Try.prog 168 [(.slice none 0 0)] := ⟨_, fun w => Try.zeroValue168 w, rfl⟩
instance : Sl Try.prog 168 1 8 := ⟨3, Try.t3, _, Try.underlying168, by kernel_rfl, rfl, rfl, rfl, rfl, by decide⟩
instance : SlZ Try.prog 168 [(.int .i64 (0))] := ⟨fun {e i z} h1 h2 h3 => by
  rw [Try.underlying168] at h1; cases h1
  rw [show Try.prog.info? 3 = some Try.t3 by kernel_rfl] at h2; cases h2; cases h3; rfl⟩
instance : Sc Try.prog 169 := ⟨fun w => Try.isAgg169 w, fun w => Try.sizeOf169 w⟩
instance : Zr Try.prog 169 [.nilFunc] := ⟨_, fun w => Try.zeroValue169 w, rfl⟩
instance : Sc Try.prog 170 := ⟨fun w => Try.isAgg170 w, fun w => Try.sizeOf170 w⟩
instance : Zr Try.prog 170 [.nilFunc] := ⟨_, fun w => Try.zeroValue170 w, rfl⟩
instance : Sc Try.prog 171 := ⟨fun w => Try.isAgg171 w, fun w => Try.sizeOf171 w⟩
instance : Zr Try.prog 171 [.nilFunc] := ⟨_, fun w => Try.zeroValue171 w, rfl⟩
instance : Sc Try.prog 172 := ⟨fun w => Try.isAgg172 w, fun w => Try.sizeOf172 w⟩
instance : Zr Try.prog 172 [.nilFunc] := ⟨_, fun w => Try.zeroValue172 w, rfl⟩
instance : Ag Try.prog 173 2 := ⟨fun w => Try.isAgg173 w, fun w => Try.sizeOf173 w⟩
instance : Zr Try.prog 173 [(.slice none 0 0), (.slice none 0 0)] := ⟨_, fun w => Try.zeroValue173 w, rfl⟩
instance : Fo Try.prog 173 0 0 := ⟨fun w a => by simp [Instr.fieldAt, Instr.sureAddr, fieldPlace]⟩
instance : Fo Try.prog 173 1 1 := ⟨fun w a => by simp [Instr.fieldAt, Instr.sureAddr, fieldPlace]⟩
instance : StT Try.prog 173 [(0, 1), (1, 1)] [(.slice none 0 0), (.slice none 0 0)] := ⟨_, Try.t173, _, Try.underlying173, by kernel_rfl, by kernel_rfl, rfl, rfl⟩
instance : Sc Try.prog 174 := ⟨fun w => Try.isAgg174 w, fun w => Try.sizeOf174 w⟩
instance : Zr Try.prog 174 [.nilFunc] := ⟨_, fun w => Try.zeroValue174 w, rfl⟩
instance : Sc Try.prog 175 := ⟨fun w => Try.isAgg175 w, fun w => Try.sizeOf175 w⟩
instance : Zr Try.prog 175 [.nilFunc] := ⟨_, fun w => Try.zeroValue175 w, rfl⟩
instance : Sc Try.prog 176 := ⟨fun w => Try.isAgg176 w, fun w => Try.sizeOf176 w⟩
instance : Zr Try.prog 176 [.nilFunc] := ⟨_, fun w => Try.zeroValue176 w, rfl⟩
instance : Sc Try.prog 177 := ⟨fun w => Try.isAgg177 w, fun w => Try.sizeOf177 w⟩
instance : Zr Try.prog 177 [.nilFunc] := ⟨_, fun w => Try.zeroValue177 w, rfl⟩
instance : Sc Try.prog 178 := ⟨fun w => Try.isAgg178 w, fun w => Try.sizeOf178 w⟩
instance : Zr Try.prog 178 [.nilFunc] := ⟨_, fun w => Try.zeroValue178 w, rfl⟩
instance : Sc Try.prog 180 := ⟨fun w => Try.isAgg180 w, fun w => Try.sizeOf180 w⟩
instance : Zr Try.prog 180 [.nilFunc] := ⟨_, fun w => Try.zeroValue180 w, rfl⟩
instance : Sc Try.prog 181 := ⟨fun w => Try.isAgg181 w, fun w => Try.sizeOf181 w⟩
instance : Zr Try.prog 181 [.nilFunc] := ⟨_, fun w => Try.zeroValue181 w, rfl⟩
instance : Sc Try.prog 182 := ⟨fun w => Try.isAgg182 w, fun w => Try.sizeOf182 w⟩
instance : Zr Try.prog 182 [.nilFunc] := ⟨_, fun w => Try.zeroValue182 w, rfl⟩
instance : Sc Try.prog 183 := ⟨fun w => Try.isAgg183 w, fun w => Try.sizeOf183 w⟩
instance : Zr Try.prog 183 [.nilFunc] := ⟨_, fun w => Try.zeroValue183 w, rfl⟩
instance : Sc Try.prog 184 := ⟨fun w => Try.isAgg184 w, fun w => Try.sizeOf184 w⟩
instance : Zr Try.prog 184 [.nilFunc] := ⟨_, fun w => Try.zeroValue184 w, rfl⟩
instance : Ag Try.prog 185 3 := ⟨fun w => Try.isAgg185 w, fun w => Try.sizeOf185 w⟩
instance : Zr Try.prog 185 [(.slice none 0 0), (.int .i64 (0)), (.int .i64 (0))] := ⟨_, fun w => Try.zeroValue185 w, rfl⟩
instance : Fo Try.prog 185 0 0 := ⟨fun w a => by simp [Instr.fieldAt, Instr.sureAddr, fieldPlace]⟩
instance : Fo Try.prog 185 1 1 := ⟨fun w a => by simp [Instr.fieldAt, Instr.sureAddr, fieldPlace]⟩
instance : Fo Try.prog 185 2 2 := ⟨fun w a => by simp [Instr.fieldAt, Instr.sureAddr, fieldPlace]⟩
instance : StT Try.prog 185 [(0, 1), (1, 1), (2, 1)] [(.slice none 0 0), (.int .i64 (0)), (.int .i64 (0))] := ⟨_, Try.t185, _, Try.underlying185, by kernel_rfl, by kernel_rfl, rfl, rfl⟩
instance : Ag Try.prog 186 3 := ⟨fun w => Try.isAgg186 w, fun w => Try.sizeOf186 w⟩
instance : Zr Try.prog 186 [(.slice none 0 0), (.int .i64 (0)), (.int .i64 (0))] := ⟨_, fun w => Try.zeroValue186 w, rfl⟩
instance : Fo Try.prog 186 0 0 := ⟨fun w a => by simp [Instr.fieldAt, Instr.sureAddr, fieldPlace]⟩
instance : Fo Try.prog 186 1 1 := ⟨fun w a => by simp [Instr.fieldAt, Instr.sureAddr, fieldPlace]⟩
instance : Fo Try.prog 186 2 2 := ⟨fun w a => by simp [Instr.fieldAt, Instr.sureAddr, fieldPlace]⟩
instance : StT Try.prog 186 [(0, 1), (1, 1), (2, 1)] [(.slice none 0 0), (.int .i64 (0)), (.int .i64 (0))] := ⟨_, Try.t186, _, Try.underlying186, by kernel_rfl, by kernel_rfl, rfl, rfl⟩
instance : Sc Try.prog 187 := ⟨fun w => Try.isAgg187 w, fun w => Try.sizeOf187 w⟩
instance : Zr Try.prog 187 [.nilFunc] := ⟨_, fun w => Try.zeroValue187 w, rfl⟩
instance : Sc Try.prog 188 := ⟨fun w => Try.isAgg188 w, fun w => Try.sizeOf188 w⟩
instance : Zr Try.prog 188 [.nilFunc] := ⟨_, fun w => Try.zeroValue188 w, rfl⟩
instance : Sc Try.prog 189 := ⟨fun w => Try.isAgg189 w, fun w => Try.sizeOf189 w⟩
instance : Zr Try.prog 189 [.nilFunc] := ⟨_, fun w => Try.zeroValue189 w, rfl⟩
instance : Sc Try.prog 190 := ⟨fun w => Try.isAgg190 w, fun w => Try.sizeOf190 w⟩
instance : Zr Try.prog 190 [.nilFunc] := ⟨_, fun w => Try.zeroValue190 w, rfl⟩
instance : Sc Try.prog 191 := ⟨fun w => Try.isAgg191 w, fun w => Try.sizeOf191 w⟩
instance : Zr Try.prog 191 [.nilFunc] := ⟨_, fun w => Try.zeroValue191 w, rfl⟩
instance : Sc Try.prog 192 := ⟨fun w => Try.isAgg192 w, fun w => Try.sizeOf192 w⟩
instance : Zr Try.prog 192 [(.slice none 0 0)] := ⟨_, fun w => Try.zeroValue192 w, rfl⟩
instance : Sl Try.prog 192 1 4 := ⟨95, Try.t95, _, Try.underlying192, by kernel_rfl, rfl, rfl, rfl, rfl, by decide⟩
instance : SlZ Try.prog 192 [(.int .u32 (0))] := ⟨fun {e i z} h1 h2 h3 => by
  rw [Try.underlying192] at h1; cases h1
  rw [show Try.prog.info? 95 = some Try.t95 by kernel_rfl] at h2; cases h2; cases h3; rfl⟩
instance : Sc Try.prog 193 := ⟨fun w => Try.isAgg193 w, fun w => Try.sizeOf193 w⟩
instance : Zr Try.prog 193 [.nilFunc] := ⟨_, fun w => Try.zeroValue193 w, rfl⟩
instance : Sc Try.prog 194 := ⟨fun w => Try.isAgg194 w, fun w => Try.sizeOf194 w⟩
instance : Zr Try.prog 194 [.nilFunc] := ⟨_, fun w => Try.zeroValue194 w, rfl⟩
instance : Sc Try.prog 195 := ⟨fun w => Try.isAgg195 w, fun w => Try.sizeOf195 w⟩
instance : Zr Try.prog 195 [.nilFunc] := ⟨_, fun w => Try.zeroValue195 w, rfl⟩
instance : Sc Try.prog 196 := ⟨fun w => Try.isAgg196 w, fun w => Try.sizeOf196 w⟩
instance : Zr Try.prog 196 [.nilFunc] := ⟨_, fun w => Try.zeroValue196 w, rfl⟩
instance : Sc Try.prog 197 := ⟨fun w => Try.isAgg197 w, fun w => Try.sizeOf197 w⟩
instance : Zr Try.prog 197 [.nilFunc] := ⟨_, fun w => Try.zeroValue197 w, rfl⟩
instance : Sc Try.prog 198 := ⟨fun w => Try.isAgg198 w, fun w => Try.sizeOf198 w⟩
instance : Zr Try.prog 198 [.nilFunc] := ⟨_, fun w => Try.zeroValue198 w, rfl⟩
instance : Sc Try.prog 199 := ⟨fun w => Try.isAgg199 w, fun w => Try.sizeOf199 w⟩
instance : Zr Try.prog 199 [.nilFunc] := ⟨_, fun w => Try.zeroValue199 w, rfl⟩
instance : Sc Try.prog 200 := ⟨fun w => Try.isAgg200 w, fun w => Try.sizeOf200 w⟩
instance : Zr Try.prog 200 [.nilFunc] := ⟨_, fun w => Try.zeroValue200 w, rfl⟩
instance : Sc Try.prog 201 := ⟨fun w => Try.isAgg201 w, fun w => Try.sizeOf201 w⟩
instance : Zr Try.prog 201 [.nilFunc] := ⟨_, fun w => Try.zeroValue201 w, rfl⟩
instance : Ag Try.prog 202 4 := ⟨fun w => Try.isAgg202 w, fun w => Try.sizeOf202 w⟩
instance : Zr Try.prog 202 [(.int .i64 (0)), (.int .i64 (0)), (.int .i64 (0)), (.int .i64 (0))] := ⟨_, fun w => Try.zeroValue202 w, rfl⟩
instance : ArT Try.prog 202 4 := ⟨_, Try.t2, Try.underlying202, by kernel_rfl, rfl, by decide⟩
instance : Ag Try.prog 203 1 := ⟨fun w => Try.isAgg203 w, fun w => Try.sizeOf203 w⟩
instance : Zr Try.prog 203 [(.slice none 0 0)] := ⟨_, fun w => Try.zeroValue203 w, rfl⟩
instance : Fo Try.prog 203 0 0 := ⟨fun w a => by simp [Instr.fieldAt, Instr.sureAddr, fieldPlace]⟩
instance : StT Try.prog 203 [(0, 1)] [(.slice none 0 0)] := ⟨_, Try.t203, _, Try.underlying203, by kernel_rfl, by kernel_rfl, rfl, rfl⟩
instance : Ag Try.prog 204 1 := ⟨fun w => Try.isAgg204 w, fun w => Try.sizeOf204 w⟩
instance : Zr Try.prog 204 [(.slice none 0 0)] := ⟨_, fun w => Try.zeroValue204 w, rfl⟩
instance : Fo Try.prog 204 0 0 := ⟨fun w a => by simp [Instr.fieldAt, Instr.sureAddr, fieldPlace]⟩
instance : StT Try.prog 204 [(0, 1)] [(.slice none 0 0)] := ⟨_, Try.t204, _, Try.underlying204, by kernel_rfl, by kernel_rfl, rfl, rfl⟩
instance : Sc Try.prog 206 := ⟨fun w => Try.isAgg206 w, fun w => Try.sizeOf206 w⟩
instance : Zr Try.prog 206 [.nilFunc] := ⟨_, fun w => Try.zeroValue206 w, rfl⟩
instance : Sc Try.prog 207 := ⟨fun w => Try.isAgg207 w, fun w => Try.sizeOf207 w⟩
instance : Zr Try.prog 207 [.nilFunc] := ⟨_, fun w => Try.zeroValue207 w, rfl⟩
instance : Sc Try.prog 208 := ⟨fun w => Try.isAgg208 w, fun w => Try.sizeOf208 w⟩
instance : Zr Try.prog 208 [.nilFunc] := ⟨_, fun w => Try.zeroValue208 w, rfl⟩
instance : Ag Try.prog 209 3 := ⟨fun w => Try.isAgg209 w, fun w => Try.sizeOf209 w⟩
instance : Zr Try.prog 209 [(.slice none 0 0), (.slice none 0 0), (.int .i64 (0))] := ⟨_, fun w => Try.zeroValue209 w, rfl⟩
instance : Fo Try.prog 209 0 0 := ⟨fun w a => by simp [Instr.fieldAt, Instr.sureAddr, fieldPlace]⟩
instance : Fo Try.prog 209 1 1 := ⟨fun w a => by simp [Instr.fieldAt, Instr.sureAddr, fieldPlace]⟩
instance : Fo Try.prog 209 2 2 := ⟨fun w a => by simp [Instr.fieldAt, Instr.sureAddr, fieldPlace]⟩
instance : StT Try.prog 209 [(0, 1), (1, 1), (2, 1)] [(.slice none 0 0), (.slice none 0 0), (.int .i64 (0))] := ⟨_, Try.t209, _, Try.underlying209, by kernel_rfl, by kernel_rfl, rfl, rfl⟩
instance : Ag Try.prog 210 3 := ⟨fun w => Try.isAgg210 w, fun w => Try.sizeOf210 w⟩
instance : Zr Try.prog 210 [(.slice none 0 0), (.slice none 0 0), (.int .i64 (0))] := ⟨_, fun w => Try.zeroValue210 w, rfl⟩
instance : Fo Try.prog 210 0 0 := ⟨fun w a => by simp [Instr.fieldAt, Instr.sureAddr, fieldPlace]⟩
instance : Fo Try.prog 210 1 1 := ⟨fun w a => by simp [Instr.fieldAt, Instr.sureAddr, fieldPlace]⟩
instance : Fo Try.prog 210 2 2 := ⟨fun w a => by simp [Instr.fieldAt, Instr.sureAddr, fieldPlace]⟩
instance : StT Try.prog 210 [(0, 1), (1, 1), (2, 1)] [(.slice none 0 0), (.slice none 0 0), (.int .i64 (0))] := ⟨_, Try.t210, _, Try.underlying210, by kernel_rfl, by kernel_rfl, rfl, rfl⟩
instance : Sc Try.prog 211 := ⟨fun w => Try.isAgg211 w, fun w => Try.sizeOf211 w⟩
instance : Zr Try.prog 211 [.nilFunc] := ⟨_, fun w => Try.zeroValue211 w, rfl⟩
instance : Sc Try.prog 212 := ⟨fun w => Try.isAgg212 w, fun w => Try.sizeOf212 w⟩
instance : Zr Try.prog 212 [.nilFunc] := ⟨_, fun w => Try.zeroValue212 w, rfl⟩
instance : Sc Try.prog 213 := ⟨fun w => Try.isAgg213 w, fun w => Try.sizeOf213 w⟩
instance : Zr Try.prog 213 [.nilFunc] := ⟨_, fun w => Try.zeroValue213 w, rfl⟩
instance : Sc Try.prog 214 := ⟨fun w => Try.isAgg214 w, fun w => Try.sizeOf214 w⟩
instance : Zr Try.prog 214 [.nilFunc] := ⟨_, fun w => Try.zeroValue214 w, rfl⟩
instance : Sc Try.prog 215 := ⟨fun w => Try.isAgg215 w, fun w => Try.sizeOf215 w⟩
instance : Zr Try.prog 215 [.nilFunc] := ⟨_, fun w => Try.zeroValue215 w, rfl⟩
instance : Sc Try.prog 217 := ⟨fun w => Try.isAgg217 w, fun w => Try.sizeOf217 w⟩
instance : Zr Try.prog 217 [.nilFunc] := ⟨_, fun w => Try.zeroValue217 w, rfl⟩
instance : Sc Try.prog 218 := ⟨fun w => Try.isAgg218 w, fun w => Try.sizeOf218 w⟩
instance : Zr Try.prog 218 [.nilFunc] := ⟨_, fun w => Try.zeroValue218 w, rfl⟩
instance : Sc Try.prog 219 := ⟨fun w => Try.isAgg219 w, fun w => Try.sizeOf219 w⟩
instance : Zr Try.prog 219 [.nilFunc] := ⟨_, fun w => Try.zeroValue219 w, rfl⟩
instance : Sc Try.prog 220 := ⟨fun w => Try.isAgg220 w, fun w => Try.sizeOf220 w⟩
instance : Zr Try.prog 220 [(.slice none 0 0)] := ⟨_, fun w => Try.zeroValue220 w, rfl⟩
instance : Sl Try.prog 220 4 64 := ⟨246, Try.t246, _, Try.underlying220, by kernel_rfl, rfl, rfl, rfl, rfl, by decide⟩
instance : SlZ Try.prog 220 [(.slice none 0 0), (.slice none 0 0), (.int .i64 (0)), (.int .i64 (0))] := ⟨fun {e i z} h1 h2 h3 => by
  rw [Try.underlying220] at h1; cases h1
  rw [show Try.prog.info? 246 = some Try.t246 by kernel_rfl] at h2; cases h2; cases h3; rfl⟩
instance : Sc Try.prog 222 := ⟨fun w => Try.isAgg222 w, fun w => Try.sizeOf222 w⟩
instance : Zr Try.prog 222 [.nilFunc] := ⟨_, fun w => Try.zeroValue222 w, rfl⟩
instance : Sc Try.prog 223 := ⟨fun w => Try.isAgg223 w, fun w => Try.sizeOf223 w⟩
instance : Zr Try.prog 223 [.nilFunc] := ⟨_, fun w => Try.zeroValue223 w, rfl⟩
instance : Sc Try.prog 224 := ⟨fun w => Try.isAgg224 w, fun w => Try.sizeOf224 w⟩
instance : Zr Try.prog 224 [.nilFunc] := ⟨_, fun w => Try.zeroValue224 w, rfl⟩
instance : Sc Try.prog 226 := ⟨fun w => Try.isAgg226 w, fun w => Try.sizeOf226 w⟩
instance : Zr Try.prog 226 [.nilFunc] := ⟨_, fun w => Try.zeroValue226 w, rfl⟩
instance : Sc Try.prog 227 := ⟨fun w => Try.isAgg227 w, fun w => Try.sizeOf227 w⟩
instance : Zr Try.prog 227 [.nilFunc] := ⟨_, fun w => Try.zeroValue227 w, rfl⟩
instance : Sc Try.prog 228 := ⟨fun w => Try.isAgg228 w, fun w => Try.sizeOf228 w⟩
instance : Zr Try.prog 228 [.nilFunc] := ⟨_, fun w => Try.zeroValue228 w, rfl⟩
instance : Sc Try.prog 229 := ⟨fun w => Try.isAgg229 w, fun w => Try.sizeOf229 w⟩
instance : Zr Try.prog 229 [.nilFunc] := ⟨_, fun w => Try.zeroValue229 w, rfl⟩
instance : Sc Try.prog 230 := ⟨fun w => Try.isAgg230 w, fun w => Try.sizeOf230 w⟩
instance : Zr Try.prog 230 [.nilFunc] := ⟨_, fun w => Try.zeroValue230 w, rfl⟩
instance : Sc Try.prog 231 := ⟨fun w => Try.isAgg231 w, fun w => Try.sizeOf231 w⟩
instance : Zr Try.prog 231 [(.pointer none)] := ⟨_, fun w => Try.zeroValue231 w, rfl⟩
instance : Sc Try.prog 232 := ⟨fun w => Try.isAgg232 w, fun w => Try.sizeOf232 w⟩
instance : Zr Try.prog 232 [.nilFunc] := ⟨_, fun w => Try.zeroValue232 w, rfl⟩
instance : Ag Try.prog 233 24 := ⟨fun w => Try.isAgg233 w, fun w => Try.sizeOf233 w⟩
instance : Zr Try.prog 233 [(.slice none 0 0), (.slice none 0 0), (.slice none 0 0), (.slice none 0 0), (.slice none 0 0), (.slice none 0 0), (.slice none 0 0), (.slice none 0 0), (.slice none 0 0), (.slice none 0 0), (.slice none 0 0), (.slice none 0 0), (.slice none 0 0), (.slice none 0 0), (.slice none 0 0), (.slice none 0 0), (.slice none 0 0), (.slice none 0 0), (.slice none 0 0), (.slice none 0 0), (.slice none 0 0), (.slice none 0 0), (.slice none 0 0), (.slice none 0 0)] := ⟨_, fun w => Try.zeroValue233 w, rfl⟩
instance : ArT Try.prog 233 24 := ⟨_, Try.t22, Try.underlying233, by kernel_rfl, rfl, by decide⟩
instance : Ag Try.prog 234 24 := ⟨fun w => Try.isAgg234 w, fun w => Try.sizeOf234 w⟩
instance : Zr Try.prog 234 [(.slice none 0 0), (.slice none 0 0), (.slice none 0 0), (.slice none 0 0), (.slice none 0 0), (.slice none 0 0), (.slice none 0 0), (.slice none 0 0), (.slice none 0 0), (.slice none 0 0), (.slice none 0 0), (.slice none 0 0), (.slice none 0 0), (.slice none 0 0), (.slice none 0 0), (.slice none 0 0), (.slice none 0 0), (.slice none 0 0), (.slice none 0 0), (.slice none 0 0), (.slice none 0 0), (.slice none 0 0), (.slice none 0 0), (.slice none 0 0)] := ⟨_, fun w => Try.zeroValue234 w, rfl⟩
instance : ArT Try.prog 234 24 := ⟨_, Try.t22, Try.underlying234, by kernel_rfl, rfl, by decide⟩
instance : Sc Try.prog 236 := ⟨fun w => Try.isAgg236 w, fun w => Try.sizeOf236 w⟩
instance : Zr Try.prog 236 [.nilFunc] := ⟨_, fun w => Try.zeroValue236 w, rfl⟩
instance : Sc Try.prog 237 := ⟨fun w => Try.isAgg237 w, fun w => Try.sizeOf237 w⟩
instance : Zr Try.prog 237 [.nilFunc] := ⟨_, fun w => Try.zeroValue237 w, rfl⟩
instance : Sc Try.prog 238 := ⟨fun w => Try.isAgg238 w, fun w => Try.sizeOf238 w⟩
instance : Zr Try.prog 238 [.nilFunc] := ⟨_, fun w => Try.zeroValue238 w, rfl⟩
instance : Sc Try.prog 239 := ⟨fun w => Try.isAgg239 w, fun w => Try.sizeOf239 w⟩
instance : Zr Try.prog 239 [.nilFunc] := ⟨_, fun w => Try.zeroValue239 w, rfl⟩
instance : Sc Try.prog 240 := ⟨fun w => Try.isAgg240 w, fun w => Try.sizeOf240 w⟩
instance : Zr Try.prog 240 [.nilFunc] := ⟨_, fun w => Try.zeroValue240 w, rfl⟩
instance : Sc Try.prog 241 := ⟨fun w => Try.isAgg241 w, fun w => Try.sizeOf241 w⟩
instance : Zr Try.prog 241 [(.map none)] := ⟨_, fun w => Try.zeroValue241 w, rfl⟩
instance : Sc Try.prog 242 := ⟨fun w => Try.isAgg242 w, fun w => Try.sizeOf242 w⟩
instance : Zr Try.prog 242 [.nilFunc] := ⟨_, fun w => Try.zeroValue242 w, rfl⟩
instance : Sc Try.prog 243 := ⟨fun w => Try.isAgg243 w, fun w => Try.sizeOf243 w⟩
instance : Zr Try.prog 243 [.nilFunc] := ⟨_, fun w => Try.zeroValue243 w, rfl⟩
instance : Ag Try.prog 245 4 := ⟨fun w => Try.isAgg245 w, fun w => Try.sizeOf245 w⟩
instance : Zr Try.prog 245 [(.slice none 0 0), (.slice none 0 0), (.int .i64 (0)), (.int .i64 (0))] := ⟨_, fun w => Try.zeroValue245 w, rfl⟩
instance : Fo Try.prog 245 0 0 := ⟨fun w a => by simp [Instr.fieldAt, Instr.sureAddr, fieldPlace]⟩
instance : Fo Try.prog 245 1 1 := ⟨fun w a => by simp [Instr.fieldAt, Instr.sureAddr, fieldPlace]⟩
instance : Fo Try.prog 245 2 2 := ⟨fun w a => by simp [Instr.fieldAt, Instr.sureAddr, fieldPlace]⟩
instance : Fo Try.prog 245 3 3 := ⟨fun w a => by simp [Instr.fieldAt, Instr.sureAddr, fieldPlace]⟩
instance : StT Try.prog 245 [(0, 1), (1, 1), (2, 1), (3, 1)] [(.slice none 0 0), (.slice none 0 0), (.int .i64 (0)), (.int .i64 (0))] := ⟨_, Try.t245, _, Try.underlying245, by kernel_rfl, by kernel_rfl, rfl, rfl⟩
instance : Ag Try.prog 246 4 := ⟨fun w => Try.isAgg246 w, fun w => Try.sizeOf246 w⟩
instance : Zr Try.prog 246 [(.slice none 0 0), (.slice none 0 0), (.int .i64 (0)), (.int .i64 (0))] := ⟨_, fun w => Try.zeroValue246 w, rfl⟩
instance : Fo Try.prog 246 0 0 := ⟨fun w a => by simp [Instr.fieldAt, Instr.sureAddr, fieldPlace]⟩
instance : Fo Try.prog 246 1 1 := ⟨fun w a => by simp [Instr.fieldAt, Instr.sureAddr, fieldPlace]⟩
instance : Fo Try.prog 246 2 2 := ⟨fun w a => by simp [Instr.fieldAt, Instr.sureAddr, fieldPlace]⟩
instance : Fo Try.prog 246 3 3 := ⟨fun w a => by simp [Instr.fieldAt, Instr.sureAddr, fieldPlace]⟩
instance : StT Try.prog 246 [(0, 1), (1, 1), (2, 1), (3, 1)] [(.slice none 0 0), (.slice none 0 0), (.int .i64 (0)), (.int .i64 (0))] := ⟨_, Try.t246, _, Try.underlying246, by kernel_rfl, by kernel_rfl, rfl, rfl⟩
instance : Sc Try.prog 248 := ⟨fun w => Try.isAgg248 w, fun w => Try.sizeOf248 w⟩
instance : Zr Try.prog 248 [.nilFunc] := ⟨_, fun w => Try.zeroValue248 w, rfl⟩
instance : Sc Try.prog 249 := ⟨fun w => Try.isAgg249 w, fun w => Try.sizeOf249 w⟩
instance : Zr Try.prog 249 [.nilFunc] := ⟨_, fun w => Try.zeroValue249 w, rfl⟩
instance : Sc Try.prog 250 := ⟨fun w => Try.isAgg250 w, fun w => Try.sizeOf250 w⟩
instance : Zr Try.prog 250 [.nilFunc] := ⟨_, fun w => Try.zeroValue250 w, rfl⟩
instance : Sc Try.prog 251 := ⟨fun w => Try.isAgg251 w, fun w => Try.sizeOf251 w⟩
instance : Zr Try.prog 251 [.nilFunc] := ⟨_, fun w => Try.zeroValue251 w, rfl⟩
instance : Sc Try.prog 252 := ⟨fun w => Try.isAgg252 w, fun w => Try.sizeOf252 w⟩
instance : Zr Try.prog 252 [.nilFunc] := ⟨_, fun w => Try.zeroValue252 w, rfl⟩
instance : Sc Try.prog 253 := ⟨fun w => Try.isAgg253 w, fun w => Try.sizeOf253 w⟩
instance : Zr Try.prog 253 [.nilFunc] := ⟨_, fun w => Try.zeroValue253 w, rfl⟩
instance : Sc Try.prog 255 := ⟨fun w => Try.isAgg255 w, fun w => Try.sizeOf255 w⟩
instance : Zr Try.prog 255 [.nilFunc] := ⟨_, fun w => Try.zeroValue255 w, rfl⟩
instance : Sc Try.prog 256 := ⟨fun w => Try.isAgg256 w, fun w => Try.sizeOf256 w⟩
instance : Zr Try.prog 256 [.nilFunc] := ⟨_, fun w => Try.zeroValue256 w, rfl⟩
instance : Sc Try.prog 257 := ⟨fun w => Try.isAgg257 w, fun w => Try.sizeOf257 w⟩
instance : Zr Try.prog 257 [.nilFunc] := ⟨_, fun w => Try.zeroValue257 w, rfl⟩
instance : Sc Try.prog 258 := ⟨fun w => Try.isAgg258 w, fun w => Try.sizeOf258 w⟩
instance : Zr Try.prog 258 [.nilFunc] := ⟨_, fun w => Try.zeroValue258 w, rfl⟩
instance : Sc Try.prog 259 := ⟨fun w => Try.isAgg259 w, fun w => Try.sizeOf259 w⟩
instance : Zr Try.prog 259 [.nilFunc] := ⟨_, fun w => Try.zeroValue259 w, rfl⟩
instance : Sc Try.prog 260 := ⟨fun w => Try.isAgg260 w, fun w => Try.sizeOf260 w⟩
instance : Zr Try.prog 260 [(.pointer none)] := ⟨_, fun w => Try.zeroValue260 w, rfl⟩
instance : Ag Try.prog 261 1 := ⟨fun w => Try.isAgg261 w, fun w => Try.sizeOf261 w⟩
instance : Zr Try.prog 261 [(.slice none 0 0)] := ⟨_, fun w => Try.zeroValue261 w, rfl⟩
instance : Fo Try.prog 261 0 0 := ⟨fun w a => by simp [Instr.fieldAt, Instr.sureAddr, fieldPlace]⟩
instance : StT Try.prog 261 [(0, 1)] [(.slice none 0 0)] := ⟨_, Try.t261, _, Try.underlying261, by kernel_rfl, by kernel_rfl, rfl, rfl⟩
instance : Ag Try.prog 262 1 := ⟨fun w => Try.isAgg262 w, fun w => Try.sizeOf262 w⟩
instance : Zr Try.prog 262 [(.slice none 0 0)] := ⟨_, fun w => Try.zeroValue262 w, rfl⟩
instance : Fo Try.prog 262 0 0 := ⟨fun w a => by simp [Instr.fieldAt, Instr.sureAddr, fieldPlace]⟩
instance : StT Try.prog 262 [(0, 1)] [(.slice none 0 0)] := ⟨_, Try.t262, _, Try.underlying262, by kernel_rfl, by kernel_rfl, rfl, rfl⟩
instance : Sc Try.prog 263 := ⟨fun w => Try.isAgg263 w, fun w => Try.sizeOf263 w⟩
instance : Zr Try.prog 263 [.nilFunc] := ⟨_, fun w => Try.zeroValue263 w, rfl⟩
instance : Sc Try.prog 264 := ⟨fun w => Try.isAgg264 w, fun w => Try.sizeOf264 w⟩
instance : Zr Try.prog 264 [.nilFunc] := ⟨_, fun w => Try.zeroValue264 w, rfl⟩
instance : Sc Try.prog 265 := ⟨fun w => Try.isAgg265 w, fun w => Try.sizeOf265 w⟩
instance : Zr Try.prog 265 [.nilFunc] := ⟨_, fun w => Try.zeroValue265 w, rfl⟩
instance : Sc Try.prog 266 := ⟨fun w => Try.isAgg266 w, fun w => Try.sizeOf266 w⟩
instance : Zr Try.prog 266 [.nilFunc] := ⟨_, fun w => Try.zeroValue266 w, rfl⟩
instance : Sc Try.prog 267 := ⟨fun w => Try.isAgg267 w, fun w => Try.sizeOf267 w⟩
instance : Zr Try.prog 267 [.nilFunc] := ⟨_, fun w => Try.zeroValue267 w, rfl⟩
instance : Sc Try.prog 268 := ⟨fun w => Try.isAgg268 w, fun w => Try.sizeOf268 w⟩
instance : Zr Try.prog 268 [.nilFunc] := ⟨_, fun w => Try.zeroValue268 w, rfl⟩
instance : Sc Try.prog 269 := ⟨fun w => Try.isAgg269 w, fun w => Try.sizeOf269 w⟩
instance : Zr Try.prog 269 [.nilFunc] := ⟨_, fun w => Try.zeroValue269 w, rfl⟩
instance : Sc Try.prog 270 := ⟨fun w => Try.isAgg270 w, fun w => Try.sizeOf270 w⟩
instance : Zr Try.prog 270 [.nilFunc] := ⟨_, fun w => Try.zeroValue270 w, rfl⟩
instance : Sc Try.prog 271 := ⟨fun w => Try.isAgg271 w, fun w => Try.sizeOf271 w⟩
instance : Zr Try.prog 271 [.nilFunc] := ⟨_, fun w => Try.zeroValue271 w, rfl⟩
instance : Sc Try.prog 272 := ⟨fun w => Try.isAgg272 w, fun w => Try.sizeOf272 w⟩
instance : Zr Try.prog 272 [.nilFunc] := ⟨_, fun w => Try.zeroValue272 w, rfl⟩
instance : Sc Try.prog 274 := ⟨fun w => Try.isAgg274 w, fun w => Try.sizeOf274 w⟩
instance : Zr Try.prog 274 [.nilFunc] := ⟨_, fun w => Try.zeroValue274 w, rfl⟩
instance : Sc Try.prog 275 := ⟨fun w => Try.isAgg275 w, fun w => Try.sizeOf275 w⟩
instance : Zr Try.prog 275 [.nilFunc] := ⟨_, fun w => Try.zeroValue275 w, rfl⟩
instance : Sc Try.prog 276 := ⟨fun w => Try.isAgg276 w, fun w => Try.sizeOf276 w⟩
instance : Zr Try.prog 276 [.nilFunc] := ⟨_, fun w => Try.zeroValue276 w, rfl⟩
instance : Sc Try.prog 277 := ⟨fun w => Try.isAgg277 w, fun w => Try.sizeOf277 w⟩
instance : Zr Try.prog 277 [.nilFunc] := ⟨_, fun w => Try.zeroValue277 w, rfl⟩
instance : Sc Try.prog 278 := ⟨fun w => Try.isAgg278 w, fun w => Try.sizeOf278 w⟩
instance : Zr Try.prog 278 [.nilFunc] := ⟨_, fun w => Try.zeroValue278 w, rfl⟩
instance : Sc Try.prog 279 := ⟨fun w => Try.isAgg279 w, fun w => Try.sizeOf279 w⟩
instance : Zr Try.prog 279 [.nilFunc] := ⟨_, fun w => Try.zeroValue279 w, rfl⟩
instance : Sc Try.prog 280 := ⟨fun w => Try.isAgg280 w, fun w => Try.sizeOf280 w⟩
instance : Zr Try.prog 280 [.nilFunc] := ⟨_, fun w => Try.zeroValue280 w, rfl⟩
instance : Sc Try.prog 281 := ⟨fun w => Try.isAgg281 w, fun w => Try.sizeOf281 w⟩
instance : Zr Try.prog 281 [.nilFunc] := ⟨_, fun w => Try.zeroValue281 w, rfl⟩
instance : Sc Try.prog 283 := ⟨fun w => Try.isAgg283 w, fun w => Try.sizeOf283 w⟩
instance : Zr Try.prog 283 [.nilFunc] := ⟨_, fun w => Try.zeroValue283 w, rfl⟩
instance : Sc Try.prog 285 := ⟨fun w => Try.isAgg285 w, fun w => Try.sizeOf285 w⟩
instance : Zr Try.prog 285 [.nilFunc] := ⟨_, fun w => Try.zeroValue285 w, rfl⟩
instance : Sc Try.prog 286 := ⟨fun w => Try.isAgg286 w, fun w => Try.sizeOf286 w⟩
instance : Zr Try.prog 286 [(.slice none 0 0)] := ⟨_, fun w => Try.zeroValue286 w, rfl⟩
instance : Sl Try.prog 286 1 1 := ⟨4, Try.t4, _, Try.underlying286, by kernel_rfl, rfl, rfl, rfl, rfl, by decide⟩
instance : SlZ Try.prog 286 [(.bool false)] := ⟨fun {e i z} h1 h2 h3 => by
  rw [Try.underlying286] at h1; cases h1
  rw [show Try.prog.info? 4 = some Try.t4 by kernel_rfl] at h2; cases h2; cases h3; rfl⟩
instance : Sc Try.prog 287 := ⟨fun w => Try.isAgg287 w, fun w => Try.sizeOf287 w⟩
instance : Zr Try.prog 287 [.nilFunc] := ⟨_, fun w => Try.zeroValue287 w, rfl⟩
instance : Sc Try.prog 289 := ⟨fun w => Try.isAgg289 w, fun w => Try.sizeOf289 w⟩
instance : Zr Try.prog 289 [.nilFunc] := ⟨_, fun w => Try.zeroValue289 w, rfl⟩
instance : Sc Try.prog 290 := ⟨fun w => Try.isAgg290 w, fun w => Try.sizeOf290 w⟩
instance : Zr Try.prog 290 [.nilFunc] := ⟨_, fun w => Try.zeroValue290 w, rfl⟩
instance : Sc Try.prog 291 := ⟨fun w => Try.isAgg291 w, fun w => Try.sizeOf291 w⟩
instance : Zr Try.prog 291 [.nilFunc] := ⟨_, fun w => Try.zeroValue291 w, rfl⟩
instance : Sc Try.prog 292 := ⟨fun w => Try.isAgg292 w, fun w => Try.sizeOf292 w⟩
instance : Zr Try.prog 292 [.nilFunc] := ⟨_, fun w => Try.zeroValue292 w, rfl⟩
instance : Sc Try.prog 293 := ⟨fun w => Try.isAgg293 w, fun w => Try.sizeOf293 w⟩
instance : Zr Try.prog 293 [.nilFunc] := ⟨_, fun w => Try.zeroValue293 w, rfl⟩
instance : Sc Try.prog 301 := ⟨fun w => Try.isAgg301 w, fun w => Try.sizeOf301 w⟩
instance : Zr Try.prog 301 [.nilFunc] := ⟨_, fun w => Try.zeroValue301 w, rfl⟩
instance : Sc Try.prog 302 := ⟨fun w => Try.isAgg302 w, fun w => Try.sizeOf302 w⟩
instance : Zr Try.prog 302 [(.pointer none)] := ⟨_, fun w => Try.zeroValue302 w, rfl⟩
instance : Sc Try.prog 307 := ⟨fun w => Try.isAgg307 w, fun w => Try.sizeOf307 w⟩
instance : Zr Try.prog 307 [.nilFunc] := ⟨_, fun w => Try.zeroValue307 w, rfl⟩
instance : Op_ Try.prog 2 (Int) repInt := op_int Try.underlying2 (by kernel_rfl)
instance : Op_ Try.prog 3 (Int) repInt := op_int Try.underlying3 (by kernel_rfl)
instance : Op_ Try.prog 4 (Bool) repBool := op_bool Try.underlying4 (by kernel_rfl)
instance : Op_ Try.prog 9 (ByteArray) repStr := op_str Try.underlying9 (by kernel_rfl)
instance : Op_ Try.prog 22 (List Int) repList := op_slice Try.underlying22 (by kernel_rfl) inferInstance
instance : Op_ Try.prog 23 (List Int) repList := op_struct Try.underlying23 (by kernel_rfl) (opF_one rfl inferInstance)
instance : Op_ Try.prog 24 (List Int) repList := op_struct Try.underlying24 (by kernel_rfl) (opF_one rfl inferInstance)
instance : Op_ Try.prog 152 (Int × List Int × Int) repProd := op_struct Try.underlying152 (by kernel_rfl) (opF_cons rfl inferInstance rfl (opF_cons rfl inferInstance rfl (opF_one rfl inferInstance)))
instance : Op_ Try.prog 25 (List (Int × List Int × Int)) repList := op_slice Try.underlying25 (by kernel_rfl) inferInstance
instance : Op_ Try.prog 26 (Int × List (Int × List Int × Int) × List Int) repProd := op_struct Try.underlying26 (by kernel_rfl) (opF_cons rfl inferInstance rfl (opF_cons rfl inferInstance rfl (opF_one rfl inferInstance)))
instance : Op_ Try.prog 27 (Int × List (Int × List Int × Int) × List Int) repProd := op_struct Try.underlying27 (by kernel_rfl) (opF_cons rfl inferInstance rfl (opF_cons rfl inferInstance rfl (opF_one rfl inferInstance)))
instance : Op_ Try.prog 32 (List Int) repList := op_struct Try.underlying32 (by kernel_rfl) (opF_one rfl inferInstance)
instance : Op_ Try.prog 139 (Int × List Int × Int) repProd := op_struct Try.underlying139 (by kernel_rfl) (opF_cons rfl inferInstance rfl (opF_cons rfl inferInstance rfl (opF_one rfl inferInstance)))
instance : Op_ Try.prog 34 (List (Int × List Int × Int)) repList := op_slice Try.underlying34 (by kernel_rfl) inferInstance
instance : Op_ Try.prog 35 (Int × List (Int × List Int × Int) × List Int) repProd := op_struct Try.underlying35 (by kernel_rfl) (opF_cons rfl inferInstance rfl (opF_cons rfl inferInstance rfl (opF_one rfl inferInstance)))
instance : Op_ Try.prog 36 (Int × List (Int × List Int × Int) × List Int) repProd := op_struct Try.underlying36 (by kernel_rfl) (opF_cons rfl inferInstance rfl (opF_cons rfl inferInstance rfl (opF_one rfl inferInstance)))
instance : Op_ Try.prog 114 (List Int × List Int) repProd := op_struct Try.underlying114 (by kernel_rfl) (opF_cons rfl inferInstance rfl (opF_one rfl inferInstance))
instance : Op_ Try.prog 50 (List (List Int × List Int)) repList := op_slice Try.underlying50 (by kernel_rfl) inferInstance
instance : Op_ Try.prog 51 (List Int × List (List Int × List Int)) repProd := op_struct Try.underlying51 (by kernel_rfl) (opF_cons rfl inferInstance rfl (opF_one rfl inferInstance))
instance : Op_ Try.prog 52 (List Int × List (List Int × List Int)) repProd := op_struct Try.underlying52 (by kernel_rfl) (opF_cons rfl inferInstance rfl (opF_one rfl inferInstance))
instance : Op_ Try.prog 59 (Int × Int × List Int) repProd := op_struct Try.underlying59 (by kernel_rfl) (opF_cons rfl inferInstance rfl (opF_cons rfl inferInstance rfl (opF_one rfl inferInstance)))
instance : Op_ Try.prog 55 (List (Int × Int × List Int)) repList := op_slice Try.underlying55 (by kernel_rfl) inferInstance
instance : Op_ Try.prog 58 (Int × Int × List Int) repProd := op_struct Try.underlying58 (by kernel_rfl) (opF_cons rfl inferInstance rfl (opF_cons rfl inferInstance rfl (opF_one rfl inferInstance)))
instance : Op_ Try.prog 173 (List Int × List Int) repProd := op_struct Try.underlying173 (by kernel_rfl) (opF_cons rfl inferInstance rfl (opF_one rfl inferInstance))
instance : Op_ Try.prog 62 (List (List Int × List Int)) repList := op_slice Try.underlying62 (by kernel_rfl) inferInstance
instance : Op_ Try.prog 63 (List Int × List (List Int × List Int)) repProd := op_struct Try.underlying63 (by kernel_rfl) (opF_cons rfl inferInstance rfl (opF_one rfl inferInstance))
instance : Op_ Try.prog 64 (List Int × List (List Int × List Int)) repProd := op_struct Try.underlying64 (by kernel_rfl) (opF_cons rfl inferInstance rfl (opF_one rfl inferInstance))
instance : Op_ Try.prog 145 (Int × List Int) repProd := op_struct Try.underlying145 (by kernel_rfl) (opF_cons rfl inferInstance rfl (opF_one rfl inferInstance))
instance : Op_ Try.prog 88 (List (Int × List Int)) repList := op_slice Try.underlying88 (by kernel_rfl) inferInstance
instance : Op_ Try.prog 90 (List Int × List Int × List (Int × List Int) × List Int) repProd := op_struct Try.underlying90 (by kernel_rfl) (opF_cons rfl inferInstance rfl (opF_cons rfl inferInstance rfl (opF_cons rfl inferInstance rfl (opF_one rfl inferInstance))))
instance : Op_ Try.prog 80 (List (List Int × List Int × List (Int × List Int) × List Int)) repList := op_slice Try.underlying80 (by kernel_rfl) inferInstance
instance : Op_ Try.prog 82 (List (List Int)) repList := op_slice Try.underlying82 (by kernel_rfl) inferInstance
instance : Op_ Try.prog 83 (Int × List Int × List (List Int) × List Int) repProd := op_struct Try.underlying83 (by kernel_rfl) (opF_cons rfl inferInstance rfl (opF_cons rfl inferInstance rfl (opF_cons rfl inferInstance rfl (opF_one rfl inferInstance))))
instance : Op_ Try.prog 84 (Int × List Int × List (List Int) × List Int) repProd := op_struct Try.underlying84 (by kernel_rfl) (opF_cons rfl inferInstance rfl (opF_cons rfl inferInstance rfl (opF_cons rfl inferInstance rfl (opF_one rfl inferInstance))))
instance : Op_ Try.prog 89 (List Int × List Int × List (Int × List Int) × List Int) repProd := op_struct Try.underlying89 (by kernel_rfl) (opF_cons rfl inferInstance rfl (opF_cons rfl inferInstance rfl (opF_cons rfl inferInstance rfl (opF_one rfl inferInstance))))
instance : Op_ Try.prog 113 (List Int × List Int) repProd := op_struct Try.underlying113 (by kernel_rfl) (opF_cons rfl inferInstance rfl (opF_one rfl inferInstance))
instance : Op_ Try.prog 138 (Int × List Int × Int) repProd := op_struct Try.underlying138 (by kernel_rfl) (opF_cons rfl inferInstance rfl (opF_cons rfl inferInstance rfl (opF_one rfl inferInstance)))
instance : Op_ Try.prog 144 (Int × List Int) repProd := op_struct Try.underlying144 (by kernel_rfl) (opF_cons rfl inferInstance rfl (opF_one rfl inferInstance))
instance : Op_ Try.prog 148 (List Int × Bool) repProd := op_struct Try.underlying148 (by kernel_rfl) (opF_cons rfl inferInstance rfl (opF_one rfl inferInstance))
instance : Op_ Try.prog 149 (List Int × Bool) repProd := op_struct Try.underlying149 (by kernel_rfl) (opF_cons rfl inferInstance rfl (opF_one rfl inferInstance))
instance : Op_ Try.prog 168 (List Int) repList := op_slice Try.underlying168 (by kernel_rfl) inferInstance
instance : Op_ Try.prog 203 (List (List Int)) repList := op_struct Try.underlying203 (by kernel_rfl) (opF_one rfl inferInstance)
instance : Op_ Try.prog 204 (List (List Int)) repList := op_struct Try.underlying204 (by kernel_rfl) (opF_one rfl inferInstance)
instance : Op_ Try.prog 209 (List Int × List Int × Int) repProd := op_struct Try.underlying209 (by kernel_rfl) (opF_cons rfl inferInstance rfl (opF_cons rfl inferInstance rfl (opF_one rfl inferInstance)))
instance : Op_ Try.prog 210 (List Int × List Int × Int) repProd := op_struct Try.underlying210 (by kernel_rfl) (opF_cons rfl inferInstance rfl (opF_cons rfl inferInstance rfl (opF_one rfl inferInstance)))
instance : Op_ Try.prog 246 (List Int × List Int × Int × Int) repProd := op_struct Try.underlying246 (by kernel_rfl) (opF_cons rfl inferInstance rfl (opF_cons rfl inferInstance rfl (opF_cons rfl inferInstance rfl (opF_one rfl inferInstance))))
instance : Op_ Try.prog 220 (List (List Int × List Int × Int × Int)) repList := op_slice Try.underlying220 (by kernel_rfl) inferInstance
instance : Op_ Try.prog 245 (List Int × List Int × Int × Int) repProd := op_struct Try.underlying245 (by kernel_rfl) (opF_cons rfl inferInstance rfl (opF_cons rfl inferInstance rfl (opF_cons rfl inferInstance rfl (opF_one rfl inferInstance))))
instance : Op_ Try.prog 261 (List (List Int)) repList := op_struct Try.underlying261 (by kernel_rfl) (opF_one rfl inferInstance)
instance : Op_ Try.prog 262 (List (List Int)) repList := op_struct Try.underlying262 (by kernel_rfl) (opF_one rfl inferInstance)
instance : Op_ Try.prog 286 (List Bool) repList := op_slice Try.underlying286 (by kernel_rfl) inferInstance
instance : ArN Try.prog 233 24 Int repInt := ⟨fun w => run_build w 233 #[] _ (by kernel_rfl)⟩
instance : ArN Try.prog 234 24 Int repInt := ⟨fun w => run_build w 234 #[] _ (by kernel_rfl)⟩
instance : IsFn Try.prog 2 := isFn_of Try.func2 (by kernel_rfl) rfl
instance : IsFn Try.prog 3 := isFn_of Try.func3 (by kernel_rfl) rfl
instance : IsFn Try.prog 4 := isFn_of Try.func4 (by kernel_rfl) rfl
instance : IsFn Try.prog 5 := isFn_of Try.func5 (by kernel_rfl) rfl
instance : IsFn Try.prog 6 := isFn_of Try.func6 (by kernel_rfl) rfl
instance : IsFn Try.prog 7 := isFn_of Try.func7 (by kernel_rfl) rfl
instance : IsFn Try.prog 8 := isFn_of Try.func8 (by kernel_rfl) rfl
instance : IsFn Try.prog 9 := isFn_of Try.func9 (by kernel_rfl) rfl
instance : IsFn Try.prog 10 := isFn_of Try.func10 (by kernel_rfl) rfl
instance : IsFn Try.prog 11 := isFn_of Try.func11 (by kernel_rfl) rfl
instance : IsFn Try.prog 12 := isFn_of Try.func12 (by kernel_rfl) rfl
instance : IsFn Try.prog 13 := isFn_of Try.func13 (by kernel_rfl) rfl
instance : IsFn Try.prog 14 := isFn_of Try.func14 (by kernel_rfl) rfl
instance : IsFn Try.prog 15 := isFn_of Try.func15 (by kernel_rfl) rfl
instance : IsFn Try.prog 16 := isFn_of Try.func16 (by kernel_rfl) rfl
instance : IsFn Try.prog 17 := isFn_of Try.func17 (by kernel_rfl) rfl
instance : IsFn Try.prog 18 := isFn_of Try.func18 (by kernel_rfl) rfl
instance : IsFn Try.prog 19 := isFn_of Try.func19 (by kernel_rfl) rfl
instance : IsFn Try.prog 20 := isFn_of Try.func20 (by kernel_rfl) rfl
instance : IsFn Try.prog 21 := isFn_of Try.func21 (by kernel_rfl) rfl
instance : IsFn Try.prog 22 := isFn_of Try.func22 (by kernel_rfl) rfl
instance : IsFn Try.prog 23 := isFn_of Try.func23 (by kernel_rfl) rfl
instance : IsFn Try.prog 24 := isFn_of Try.func24 (by kernel_rfl) rfl
instance : IsFn Try.prog 25 := isFn_of Try.func25 (by kernel_rfl) rfl
instance : IsFn Try.prog 26 := isFn_of Try.func26 (by kernel_rfl) rfl
instance : IsFn Try.prog 27 := isFn_of Try.func27 (by kernel_rfl) rfl
instance : IsFn Try.prog 28 := isFn_of Try.func28 (by kernel_rfl) rfl
instance : IsFn Try.prog 29 := isFn_of Try.func29 (by kernel_rfl) rfl
instance : IsFn Try.prog 30 := isFn_of Try.func30 (by kernel_rfl) rfl
instance : IsFn Try.prog 31 := isFn_of Try.func31 (by kernel_rfl) rfl
instance : IsFn Try.prog 32 := isFn_of Try.func32 (by kernel_rfl) rfl
instance : IsFn Try.prog 33 := isFn_of Try.func33 (by kernel_rfl) rfl
instance : IsFn Try.prog 34 := isFn_of Try.func34 (by kernel_rfl) rfl
instance : IsFn Try.prog 35 := isFn_of Try.func35 (by kernel_rfl) rfl
instance : IsFn Try.prog 36 := isFn_of Try.func36 (by kernel_rfl) rfl
instance : IsFn Try.prog 37 := isFn_of Try.func37 (by kernel_rfl) rfl
instance : IsFn Try.prog 38 := isFn_of Try.func38 (by kernel_rfl) rfl
instance : IsFn Try.prog 39 := isFn_of Try.func39 (by kernel_rfl) rfl
instance : IsFn Try.prog 40 := isFn_of Try.func40 (by kernel_rfl) rfl
instance : IsFn Try.prog 41 := isFn_of Try.func41 (by kernel_rfl) rfl
instance : IsFn Try.prog 42 := isFn_of Try.func42 (by kernel_rfl) rfl
instance : IsFn Try.prog 43 := isFn_of Try.func43 (by kernel_rfl) rfl
instance : IsFn Try.prog 44 := isFn_of Try.func44 (by kernel_rfl) rfl
instance : IsFn Try.prog 45 := isFn_of Try.func45 (by kernel_rfl) rfl
instance : IsFn Try.prog 46 := isFn_of Try.func46 (by kernel_rfl) rfl
instance : IsFn Try.prog 47 := isFn_of Try.func47 (by kernel_rfl) rfl
instance : IsFn Try.prog 48 := isFn_of Try.func48 (by kernel_rfl) rfl
instance : IsFn Try.prog 49 := isFn_of Try.func49 (by kernel_rfl) rfl
instance : IsFn Try.prog 50 := isFn_of Try.func50 (by kernel_rfl) rfl
instance : IsFn Try.prog 51 := isFn_of Try.func51 (by kernel_rfl) rfl
instance : IsFn Try.prog 52 := isFn_of Try.func52 (by kernel_rfl) rfl
instance : IsFn Try.prog 53 := isFn_of Try.func53 (by kernel_rfl) rfl
instance : IsFn Try.prog 54 := isFn_of Try.func54 (by kernel_rfl) rfl
instance : IsFn Try.prog 55 := isFn_of Try.func55 (by kernel_rfl) rfl
instance : IsFn Try.prog 56 := isFn_of Try.func56 (by kernel_rfl) rfl
instance : IsFn Try.prog 57 := isFn_of Try.func57 (by kernel_rfl) rfl
instance : IsFn Try.prog 58 := isFn_of Try.func58 (by kernel_rfl) rfl
instance : IsFn Try.prog 59 := isFn_of Try.func59 (by kernel_rfl) rfl
instance : IsFn Try.prog 60 := isFn_of Try.func60 (by kernel_rfl) rfl
instance : IsFn Try.prog 61 := isFn_of Try.func61 (by kernel_rfl) rfl
instance : IsFn Try.prog 62 := isFn_of Try.func62 (by kernel_rfl) rfl
instance : IsFn Try.prog 63 := isFn_of Try.func63 (by kernel_rfl) rfl
instance : IsFn Try.prog 64 := isFn_of Try.func64 (by kernel_rfl) rfl
instance : IsFn Try.prog 65 := isFn_of Try.func65 (by kernel_rfl) rfl
instance : IsFn Try.prog 66 := isFn_of Try.func66 (by kernel_rfl) rfl
instance : IsFn Try.prog 67 := isFn_of Try.func67 (by kernel_rfl) rfl
instance : IsFn Try.prog 68 := isFn_of Try.func68 (by kernel_rfl) rfl
instance : IsFn Try.prog 69 := isFn_of Try.func69 (by kernel_rfl) rfl
instance : IsFn Try.prog 70 := isFn_of Try.func70 (by kernel_rfl) rfl
instance : IsFn Try.prog 71 := isFn_of Try.func71 (by kernel_rfl) rfl
instance : IsFn Try.prog 72 := isFn_of Try.func72 (by kernel_rfl) rfl
instance : IsFn Try.prog 73 := isFn_of Try.func73 (by kernel_rfl) rfl
instance : IsFn Try.prog 74 := isFn_of Try.func74 (by kernel_rfl) rfl
instance : IsFn Try.prog 75 := isFn_of Try.func75 (by kernel_rfl) rfl
instance : IsFn Try.prog 76 := isFn_of Try.func76 (by kernel_rfl) rfl
instance : IsFn Try.prog 77 := isFn_of Try.func77 (by kernel_rfl) rfl
instance : IsFn Try.prog 78 := isFn_of Try.func78 (by kernel_rfl) rfl
instance : IsFn Try.prog 79 := isFn_of Try.func79 (by kernel_rfl) rfl
instance : IsFn Try.prog 80 := isFn_of Try.func80 (by kernel_rfl) rfl
instance : IsFn Try.prog 81 := isFn_of Try.func81 (by kernel_rfl) rfl
instance : IsFn Try.prog 82 := isFn_of Try.func82 (by kernel_rfl) rfl
instance : IsFn Try.prog 83 := isFn_of Try.func83 (by kernel_rfl) rfl
instance : IsFn Try.prog 84 := isFn_of Try.func84 (by kernel_rfl) rfl
instance : IsFn Try.prog 85 := isFn_of Try.func85 (by kernel_rfl) rfl
instance : IsFn Try.prog 86 := isFn_of Try.func86 (by kernel_rfl) rfl
instance : IsFn Try.prog 87 := isFn_of Try.func87 (by kernel_rfl) rfl
instance : IsFn Try.prog 88 := isFn_of Try.func88 (by kernel_rfl) rfl
instance : IsFn Try.prog 89 := isFn_of Try.func89 (by kernel_rfl) rfl
instance : IsFn Try.prog 90 := isFn_of Try.func90 (by kernel_rfl) rfl
instance : IsFn Try.prog 91 := isFn_of Try.func91 (by kernel_rfl) rfl
instance : IsFn Try.prog 92 := isFn_of Try.func92 (by kernel_rfl) rfl
instance : IsFn Try.prog 93 := isFn_of Try.func93 (by kernel_rfl) rfl
instance : IsFn Try.prog 94 := isFn_of Try.func94 (by kernel_rfl) rfl
instance : IsFn Try.prog 95 := isFn_of Try.func95 (by kernel_rfl) rfl
instance : IsFn Try.prog 96 := isFn_of Try.func96 (by kernel_rfl) rfl
instance : IsFn Try.prog 97 := isFn_of Try.func97 (by kernel_rfl) rfl
instance : IsFn Try.prog 98 := isFn_of Try.func98 (by kernel_rfl) rfl
instance : IsFn Try.prog 99 := isFn_of Try.func99 (by kernel_rfl) rfl
instance : IsFn Try.prog 100 := isFn_of Try.func100 (by kernel_rfl) rfl
instance : IsFn Try.prog 101 := isFn_of Try.func101 (by kernel_rfl) rfl
instance : IsFn Try.prog 102 := isFn_of Try.func102 (by kernel_rfl) rfl
instance : IsFn Try.prog 103 := isFn_of Try.func103 (by kernel_rfl) rfl
instance : IsFn Try.prog 104 := isFn_of Try.func104 (by kernel_rfl) rfl
instance : IsFn Try.prog 105 := isFn_of Try.func105 (by kernel_rfl) rfl
instance : IsFn Try.prog 106 := isFn_of Try.func106 (by kernel_rfl) rfl
instance : IsFn Try.prog 107 := isFn_of Try.func107 (by kernel_rfl) rfl
instance : IsFn Try.prog 108 := isFn_of Try.func108 (by kernel_rfl) rfl
instance : IsFn Try.prog 109 := isFn_of Try.func109 (by kernel_rfl) rfl
instance : IsFn Try.prog 110 := isFn_of Try.func110 (by kernel_rfl) rfl
instance : IsFn Try.prog 111 := isFn_of Try.func111 (by kernel_rfl) rfl
instance : IsFn Try.prog 112 := isFn_of Try.func112 (by kernel_rfl) rfl
instance : IsFn Try.prog 113 := isFn_of Try.func113 (by kernel_rfl) rfl
instance : IsFn Try.prog 114 := isFn_of Try.func114 (by kernel_rfl) rfl
instance : IsFn Try.prog 115 := isFn_of Try.func115 (by kernel_rfl) rfl
instance : IsFn Try.prog 116 := isFn_of Try.func116 (by kernel_rfl) rfl
instance : IsFn Try.prog 117 := isFn_of Try.func117 (by kernel_rfl) rfl
instance : IsFn Try.prog 118 := isFn_of Try.func118 (by kernel_rfl) rfl
instance : IsFn Try.prog 119 := isFn_of Try.func119 (by kernel_rfl) rfl
instance : IsFn Try.prog 120 := isFn_of Try.func120 (by kernel_rfl) rfl
instance : IsFn Try.prog 121 := isFn_of Try.func121 (by kernel_rfl) rfl
instance : IsFn Try.prog 122 := isFn_of Try.func122 (by kernel_rfl) rfl
instance : IsFn Try.prog 123 := isFn_of Try.func123 (by kernel_rfl) rfl
instance : IsFn Try.prog 124 := isFn_of Try.func124 (by kernel_rfl) rfl
instance : IsFn Try.prog 125 := isFn_of Try.func125 (by kernel_rfl) rfl
instance : IsFn Try.prog 126 := isFn_of Try.func126 (by kernel_rfl) rfl
instance : IsFn Try.prog 127 := isFn_of Try.func127 (by kernel_rfl) rfl
instance : IsFn Try.prog 128 := isFn_of Try.func128 (by kernel_rfl) rfl
instance : IsFn Try.prog 129 := isFn_of Try.func129 (by kernel_rfl) rfl
instance : IsFn Try.prog 130 := isFn_of Try.func130 (by kernel_rfl) rfl
instance : IsFn Try.prog 131 := isFn_of Try.func131 (by kernel_rfl) rfl
instance : IsFn Try.prog 132 := isFn_of Try.func132 (by kernel_rfl) rfl
instance : IsFn Try.prog 133 := isFn_of Try.func133 (by kernel_rfl) rfl
instance : IsFn Try.prog 134 := isFn_of Try.func134 (by kernel_rfl) rfl
instance : IsFn Try.prog 135 := isFn_of Try.func135 (by kernel_rfl) rfl
instance : IsFn Try.prog 136 := isFn_of Try.func136 (by kernel_rfl) rfl
instance : IsFn Try.prog 137 := isFn_of Try.func137 (by kernel_rfl) rfl
instance : IsFn Try.prog 138 := isFn_of Try.func138 (by kernel_rfl) rfl
instance : IsFn Try.prog 139 := isFn_of Try.func139 (by kernel_rfl) rfl
instance : IsFn Try.prog 140 := isFn_of Try.func140 (by kernel_rfl) rfl
instance : IsFn Try.prog 141 := isFn_of Try.func141 (by kernel_rfl) rfl
instance : IsFn Try.prog 142 := isFn_of Try.func142 (by kernel_rfl) rfl
instance : IsFn Try.prog 143 := isFn_of Try.func143 (by kernel_rfl) rfl
instance : IsFn Try.prog 144 := isFn_of Try.func144 (by kernel_rfl) rfl
instance : IsFn Try.prog 145 := isFn_of Try.func145 (by kernel_rfl) rfl
instance : IsFn Try.prog 146 := isFn_of Try.func146 (by kernel_rfl) rfl
instance : IsFn Try.prog 147 := isFn_of Try.func147 (by kernel_rfl) rfl
instance : IsFn Try.prog 148 := isFn_of Try.func148 (by kernel_rfl) rfl
instance : IsFn Try.prog 149 := isFn_of Try.func149 (by kernel_rfl) rfl
instance : IsFn Try.prog 150 := isFn_of Try.func150 (by kernel_rfl) rfl
instance : IsFn Try.prog 151 := isFn_of Try.func151 (by kernel_rfl) rfl
instance : IsFn Try.prog 152 := isFn_of Try.func152 (by kernel_rfl) rfl
instance : IsFn Try.prog 153 := isFn_of Try.func153 (by kernel_rfl) rfl
instance : IsFn Try.prog 154 := isFn_of Try.func154 (by kernel_rfl) rfl
instance : IsFn Try.prog 155 := isFn_of Try.func155 (by kernel_rfl) rfl
instance : IsFn Try.prog 156 := isFn_of Try.func156 (by kernel_rfl) rfl
instance : IsFn Try.prog 157 := isFn_of Try.func157 (by kernel_rfl) rfl
instance : IsFn Try.prog 158 := isFn_of Try.func158 (by kernel_rfl) rfl
instance : IsFn Try.prog 159 := isFn_of Try.func159 (by kernel_rfl) rfl
instance : IsFn Try.prog 160 := isFn_of Try.func160 (by kernel_rfl) rfl
instance : IsFn Try.prog 161 := isFn_of Try.func161 (by kernel_rfl) rfl
instance : IsFn Try.prog 162 := isFn_of Try.func162 (by kernel_rfl) rfl
instance : IsFn Try.prog 163 := isFn_of Try.func163 (by kernel_rfl) rfl
instance : IsFn Try.prog 164 := isFn_of Try.func164 (by kernel_rfl) rfl
instance : IsFn Try.prog 165 := isFn_of Try.func165 (by kernel_rfl) rfl
instance : IsFn Try.prog 166 := isFn_of Try.func166 (by kernel_rfl) rfl
instance : IsFn Try.prog 167 := isFn_of Try.func167 (by kernel_rfl) rfl
instance : IsFn Try.prog 168 := isFn_of Try.func168 (by kernel_rfl) rfl
instance : IsFn Try.prog 169 := isFn_of Try.func169 (by kernel_rfl) rfl
instance : IsFn Try.prog 170 := isFn_of Try.func170 (by kernel_rfl) rfl
instance : IsFn Try.prog 171 := isFn_of Try.func171 (by kernel_rfl) rfl
instance : IsFn Try.prog 172 := isFn_of Try.func172 (by kernel_rfl) rfl
instance : IsFn Try.prog 173 := isFn_of Try.func173 (by kernel_rfl) rfl
instance : IsFn Try.prog 174 := isFn_of Try.func174 (by kernel_rfl) rfl
instance : IsFn Try.prog 175 := isFn_of Try.func175 (by kernel_rfl) rfl
instance : IsFn Try.prog 176 := isFn_of Try.func176 (by kernel_rfl) rfl
instance : IsFn Try.prog 177 := isFn_of Try.func177 (by kernel_rfl) rfl
instance : IsFn Try.prog 178 := isFn_of Try.func178 (by kernel_rfl) rfl
instance : IsFn Try.prog 179 := isFn_of Try.func179 (by kernel_rfl) rfl
instance : IsFn Try.prog 180 := isFn_of Try.func180 (by kernel_rfl) rfl
instance : IsFn Try.prog 181 := isFn_of Try.func181 (by kernel_rfl) rfl
instance : IsFn Try.prog 182 := isFn_of Try.func182 (by kernel_rfl) rfl
instance : IsFn Try.prog 183 := isFn_of Try.func183 (by kernel_rfl) rfl
instance : IsFn Try.prog 184 := isFn_of Try.func184 (by kernel_rfl) rfl
instance : IsFn Try.prog 185 := isFn_of Try.func185 (by kernel_rfl) rfl
instance : IsFn Try.prog 186 := isFn_of Try.func186 (by kernel_rfl) rfl
instance : IsFn Try.prog 187 := isFn_of Try.func187 (by kernel_rfl) rfl
instance : IsFn Try.prog 188 := isFn_of Try.func188 (by kernel_rfl) rfl
instance : IsFn Try.prog 189 := isFn_of Try.func189 (by kernel_rfl) rfl
instance : IsFn Try.prog 190 := isFn_of Try.func190 (by kernel_rfl) rfl
instance : IsFn Try.prog 191 := isFn_of Try.func191 (by kernel_rfl) rfl
instance : IsFn Try.prog 192 := isFn_of Try.func192 (by kernel_rfl) rfl
instance : IsFn Try.prog 193 := isFn_of Try.func193 (by kernel_rfl) rfl
instance : IsFn Try.prog 194 := isFn_of Try.func194 (by kernel_rfl) rfl
instance : IsFn Try.prog 195 := isFn_of Try.func195 (by kernel_rfl) rfl
instance : IsFn Try.prog 196 := isFn_of Try.func196 (by kernel_rfl) rfl
instance : IsFn Try.prog 197 := isFn_of Try.func197 (by kernel_rfl) rfl
instance : IsFn Try.prog 198 := isFn_of Try.func198 (by kernel_rfl) rfl
instance : IsFn Try.prog 199 := isFn_of Try.func199 (by kernel_rfl) rfl
instance : IsFn Try.prog 200 := isFn_of Try.func200 (by kernel_rfl) rfl
instance : IsFn Try.prog 201 := isFn_of Try.func201 (by kernel_rfl) rfl
instance : IsFn Try.prog 202 := isFn_of Try.func202 (by kernel_rfl) rfl
instance : IsFn Try.prog 203 := isFn_of Try.func203 (by kernel_rfl) rfl
instance : IsFn Try.prog 204 := isFn_of Try.func204 (by kernel_rfl) rfl
instance : IsFn Try.prog 205 := isFn_of Try.func205 (by kernel_rfl) rfl
instance : IsFn Try.prog 206 := isFn_of Try.func206 (by kernel_rfl) rfl
instance : IsFn Try.prog 207 := isFn_of Try.func207 (by kernel_rfl) rfl
instance : IsFn Try.prog 208 := isFn_of Try.func208 (by kernel_rfl) rfl
instance : IsFn Try.prog 209 := isFn_of Try.func209 (by kernel_rfl) rfl
instance : IsFn Try.prog 210 := isFn_of Try.func210 (by kernel_rfl) rfl
instance : IsFn Try.prog 211 := isFn_of Try.func211 (by kernel_rfl) rfl
instance : IsFn Try.prog 212 := isFn_of Try.func212 (by kernel_rfl) rfl
instance : IsFn Try.prog 213 := isFn_of Try.func213 (by kernel_rfl) rfl
instance : IsFn Try.prog 214 := isFn_of Try.func214 (by kernel_rfl) rfl
instance : IsFn Try.prog 215 := isFn_of Try.func215 (by kernel_rfl) rfl
instance : IsFn Try.prog 216 := isFn_of Try.func216 (by kernel_rfl) rfl
instance : IsFn Try.prog 217 := isFn_of Try.func217 (by kernel_rfl) rfl
instance : IsFn Try.prog 218 := isFn_of Try.func218 (by kernel_rfl) rfl
instance : IsFn Try.prog 219 := isFn_of Try.func219 (by kernel_rfl) rfl
instance : IsFn Try.prog 220 := isFn_of Try.func220 (by kernel_rfl) rfl
instance : IsFn Try.prog 221 := isFn_of Try.func221 (by kernel_rfl) rfl
instance : IsFn Try.prog 222 := isFn_of Try.func222 (by kernel_rfl) rfl
instance : IsFn Try.prog 223 := isFn_of Try.func223 (by kernel_rfl) rfl
instance : IsFn Try.prog 224 := isFn_of Try.func224 (by kernel_rfl) rfl
instance : IsFn Try.prog 225 := isFn_of Try.func225 (by kernel_rfl) rfl
instance : IsFn Try.prog 226 := isFn_of Try.func226 (by kernel_rfl) rfl
instance : IsFn Try.prog 227 := isFn_of Try.func227 (by kernel_rfl) rfl
instance : IsFn Try.prog 228 := isFn_of Try.func228 (by kernel_rfl) rfl
instance : IsFn Try.prog 229 := isFn_of Try.func229 (by kernel_rfl) rfl
instance : IsFn Try.prog 230 := isFn_of Try.func230 (by kernel_rfl) rfl
instance : IsFn Try.prog 231 := isFn_of Try.func231 (by kernel_rfl) rfl
instance : IsFn Try.prog 232 := isFn_of Try.func232 (by kernel_rfl) rfl
instance : IsFn Try.prog 233 := isFn_of Try.func233 (by kernel_rfl) rfl
instance : IsFn Try.prog 234 := isFn_of Try.func234 (by kernel_rfl) rfl
instance : IsFn Try.prog 235 := isFn_of Try.func235 (by kernel_rfl) rfl
instance : IsFn Try.prog 236 := isFn_of Try.func236 (by kernel_rfl) rfl
instance : IsFn Try.prog 237 := isFn_of Try.func237 (by kernel_rfl) rfl
instance : IsFn Try.prog 238 := isFn_of Try.func238 (by kernel_rfl) rfl
instance : IsFn Try.prog 239 := isFn_of Try.func239 (by kernel_rfl) rfl
instance : IsFn Try.prog 240 := isFn_of Try.func240 (by kernel_rfl) rfl
instance : IsFn Try.prog 241 := isFn_of Try.func241 (by kernel_rfl) rfl
instance : IsFn Try.prog 242 := isFn_of Try.func242 (by kernel_rfl) rfl
instance : IsFn Try.prog 243 := isFn_of Try.func243 (by kernel_rfl) rfl
instance : IsFn Try.prog 244 := isFn_of Try.func244 (by kernel_rfl) rfl
instance : IsFn Try.prog 245 := isFn_of Try.func245 (by kernel_rfl) rfl
instance : IsFn Try.prog 246 := isFn_of Try.func246 (by kernel_rfl) rfl
instance : IsFn Try.prog 247 := isFn_of Try.func247 (by kernel_rfl) rfl
instance : IsFn Try.prog 248 := isFn_of Try.func248 (by kernel_rfl) rfl
instance : IsFn Try.prog 249 := isFn_of Try.func249 (by kernel_rfl) rfl
instance : IsFn Try.prog 250 := isFn_of Try.func250 (by kernel_rfl) rfl
instance : IsFn Try.prog 251 := isFn_of Try.func251 (by kernel_rfl) rfl
instance : IsFn Try.prog 252 := isFn_of Try.func252 (by kernel_rfl) rfl
instance : IsFn Try.prog 253 := isFn_of Try.func253 (by kernel_rfl) rfl
instance : IsFn Try.prog 254 := isFn_of Try.func254 (by kernel_rfl) rfl
instance : ResC Try.f2 [] := ⟨rfl⟩
instance : ResC Try.f3 [.tmp 4] := ⟨rfl⟩
instance : ResC Try.f4 [.tmp 2] := ⟨rfl⟩
instance : ResC Try.f5 [.tmp 4] := ⟨rfl⟩
instance : ResC Try.f6 [.tmp 4] := ⟨rfl⟩
instance : ResC Try.f7 [.tmp 2] := ⟨rfl⟩
instance : ResC Try.f8 [.tmp 2] := ⟨rfl⟩
instance : ResC Try.f9 [.tmp 4] := ⟨rfl⟩
instance : ResC Try.f10 [.tmp 4] := ⟨rfl⟩
instance : ResC Try.f11 [.tmp 4, .tmp 5] := ⟨rfl⟩
instance : ResC Try.f12 [.cell 2 32] := ⟨rfl⟩
instance : ResC Try.f13 [.cell 2 36] := ⟨rfl⟩
instance : ResC Try.f14 [.tmp 4, .tmp 5] := ⟨rfl⟩
instance : ResC Try.f15 [.tmp 4] := ⟨rfl⟩
instance : ResC Try.f16 [.tmp 4] := ⟨rfl⟩
instance : ResC Try.f17 [.tmp 4] := ⟨rfl⟩
instance : ResC Try.f18 [.tmp 4] := ⟨rfl⟩
instance : ResC Try.f19 [.tmp 4] := ⟨rfl⟩
instance : ResC Try.f20 [.tmp 4] := ⟨rfl⟩
instance : ResC Try.f21 [.tmp 4] := ⟨rfl⟩
instance : ResC Try.f22 [.tmp 2] := ⟨rfl⟩
instance : ResC Try.f23 [.tmp 4] := ⟨rfl⟩
instance : ResC Try.f24 [.cell 2 52] := ⟨rfl⟩
instance : ResC Try.f25 [.tmp 6] := ⟨rfl⟩
instance : ResC Try.f26 [.tmp 4] := ⟨rfl⟩
instance : ResC Try.f27 [.tmp 6] := ⟨rfl⟩
instance : ResC Try.f28 [.tmp 4] := ⟨rfl⟩
instance : ResC Try.f29 [.tmp 4] := ⟨rfl⟩
instance : ResC Try.f30 [.tmp 4] := ⟨rfl⟩
instance : ResC Try.f31 [.cell 2 52] := ⟨rfl⟩
instance : ResC Try.f32 [.tmp 2] := ⟨rfl⟩
instance : ResC Try.f33 [.tmp 4] := ⟨rfl⟩
instance : ResC Try.f34 [.tmp 4] := ⟨rfl⟩
instance : ResC Try.f35 [.tmp 4] := ⟨rfl⟩
instance : ResC Try.f36 [.tmp 4] := ⟨rfl⟩
instance : ResC Try.f37 [.tmp 4] := ⟨rfl⟩
instance : ResC Try.f38 [.tmp 4] := ⟨rfl⟩
instance : ResC Try.f39 [.cell 4 36, .tmp 5] := ⟨rfl⟩
instance : ResC Try.f40 [.cell 4 36, .tmp 5] := ⟨rfl⟩
instance : ResC Try.f41 [.tmp 4] := ⟨rfl⟩
instance : ResC Try.f42 [.cell 2 32, .cell 3 36, .tmp 4] := ⟨rfl⟩
instance : ResC Try.f43 [.tmp 6] := ⟨rfl⟩
instance : ResC Try.f44 [.tmp 4] := ⟨rfl⟩
instance : ResC Try.f45 [.tmp 4] := ⟨rfl⟩
instance : ResC Try.f46 [.tmp 6] := ⟨rfl⟩
instance : ResC Try.f47 [.tmp 4] := ⟨rfl⟩
instance : ResC Try.f48 [.tmp 4] := ⟨rfl⟩
instance : ResC Try.f49 [.tmp 2] := ⟨rfl⟩
instance : ResC Try.f50 [.cell 2 84] := ⟨rfl⟩
instance : ResC Try.f51 [.cell 2 84] := ⟨rfl⟩
instance : ResC Try.f52 [.tmp 2, .tmp 3] := ⟨rfl⟩
instance : ResC Try.f53 [.tmp 4] := ⟨rfl⟩
instance : ResC Try.f54 [.tmp 4] := ⟨rfl⟩
instance : ResC Try.f55 [.tmp 4] := ⟨rfl⟩
instance : ResC Try.f56 [.tmp 2] := ⟨rfl⟩
instance : ResC Try.f57 [.tmp 4] := ⟨rfl⟩
instance : ResC Try.f58 [.tmp 2] := ⟨rfl⟩
instance : ResC Try.f59 [.tmp 2] := ⟨rfl⟩
instance : ResC Try.f60 [.tmp 4] := ⟨rfl⟩
instance : ResC Try.f61 [.tmp 2] := ⟨rfl⟩
instance : ResC Try.f62 [.tmp 2] := ⟨rfl⟩
instance : ResC Try.f63 [.tmp 0] := ⟨rfl⟩
instance : ResC Try.f64 [] := ⟨rfl⟩
instance : ResC Try.f65 [.tmp 4] := ⟨rfl⟩
instance : ResC Try.f66 [.tmp 2] := ⟨rfl⟩
instance : ResC Try.f67 [.tmp 4] := ⟨rfl⟩
instance : ResC Try.f68 [.tmp 4] := ⟨rfl⟩
instance : ResC Try.f69 [.cell 0 32] := ⟨rfl⟩
instance : ResC Try.f70 [.tmp 2] := ⟨rfl⟩
instance : ResC Try.f71 [.cell 2 114] := ⟨rfl⟩
instance : ResC Try.f72 [.tmp 4] := ⟨rfl⟩
instance : ResC Try.f73 [.tmp 4] := ⟨rfl⟩
instance : ResC Try.f74 [.tmp 2] := ⟨rfl⟩
instance : ResC Try.f75 [.tmp 4] := ⟨rfl⟩
instance : ResC Try.f76 [.tmp 6] := ⟨rfl⟩
instance : ResC Try.f77 [.tmp 2] := ⟨rfl⟩
instance : ResC Try.f78 [.tmp 6] := ⟨rfl⟩
instance : ResC Try.f79 [.tmp 6] := ⟨rfl⟩
instance : ResC Try.f80 [.tmp 4] := ⟨rfl⟩
instance : ResC Try.f81 [.tmp 2] := ⟨rfl⟩
instance : ResC Try.f82 [.tmp 4, .tmp 5] := ⟨rfl⟩
instance : ResC Try.f83 [.tmp 4] := ⟨rfl⟩
instance : ResC Try.f84 [.tmp 4] := ⟨rfl⟩
instance : ResC Try.f85 [.tmp 4] := ⟨rfl⟩
instance : ResC Try.f86 [.cell 4 36, .tmp 5] := ⟨rfl⟩
instance : ResC Try.f87 [.tmp 4] := ⟨rfl⟩
instance : ResC Try.f88 [.cell 4 36, .tmp 5] := ⟨rfl⟩
instance : ResC Try.f89 [.tmp 2] := ⟨rfl⟩
instance : ResC Try.f90 [.tmp 4] := ⟨rfl⟩
instance : ResC Try.f91 [.tmp 2] := ⟨rfl⟩
instance : ResC Try.f92 [.cell 2 32, .cell 3 36] := ⟨rfl⟩
instance : ResC Try.f93 [.tmp 4] := ⟨rfl⟩
instance : ResC Try.f94 [.tmp 4] := ⟨rfl⟩
instance : ResC Try.f95 [.tmp 8] := ⟨rfl⟩
instance : ResC Try.f96 [.tmp 4] := ⟨rfl⟩
instance : ResC Try.f97 [.tmp 8] := ⟨rfl⟩
instance : ResC Try.f98 [.tmp 4] := ⟨rfl⟩
instance : ResC Try.f99 [.tmp 2] := ⟨rfl⟩
instance : ResC Try.f100 [.tmp 2] := ⟨rfl⟩
instance : ResC Try.f101 [.tmp 2] := ⟨rfl⟩
instance : ResC Try.f102 [.tmp 2] := ⟨rfl⟩
instance : ResC Try.f103 [.tmp 4] := ⟨rfl⟩
instance : ResC Try.f104 [.tmp 2] := ⟨rfl⟩
instance : ResC Try.f105 [.tmp 2] := ⟨rfl⟩
instance : ResC Try.f106 [.tmp 4] := ⟨rfl⟩
instance : ResC Try.f107 [.tmp 4] := ⟨rfl⟩
instance : ResC Try.f108 [.tmp 6] := ⟨rfl⟩
instance : ResC Try.f109 [.tmp 4] := ⟨rfl⟩
instance : ResC Try.f110 [.cell 2 139] := ⟨rfl⟩
instance : ResC Try.f111 [.tmp 2] := ⟨rfl⟩
instance : ResC Try.f112 [.tmp 4] := ⟨rfl⟩
instance : ResC Try.f113 [.tmp 4] := ⟨rfl⟩
instance : ResC Try.f114 [.tmp 3] := ⟨rfl⟩
instance : ResC Try.f115 [.tmp 4] := ⟨rfl⟩
instance : ResC Try.f116 [.tmp 4] := ⟨rfl⟩
instance : ResC Try.f117 [.tmp 6] := ⟨rfl⟩
instance : ResC Try.f118 [.tmp 4] := ⟨rfl⟩
instance : ResC Try.f119 [.tmp 4] := ⟨rfl⟩
instance : ResC Try.f120 [.tmp 4] := ⟨rfl⟩
instance : ResC Try.f121 [.tmp 2] := ⟨rfl⟩
instance : ResC Try.f122 [.tmp 8, .tmp 9] := ⟨rfl⟩
instance : ResC Try.f123 [.tmp 4] := ⟨rfl⟩
instance : ResC Try.f124 [.tmp 2] := ⟨rfl⟩
instance : ResC Try.f125 [.tmp 6] := ⟨rfl⟩
instance : ResC Try.f126 [.tmp 4] := ⟨rfl⟩
instance : ResC Try.f127 [.tmp 8, .tmp 9] := ⟨rfl⟩
instance : ResC Try.f128 [.tmp 6] := ⟨rfl⟩
instance : ResC Try.f129 [.tmp 6] := ⟨rfl⟩
instance : ResC Try.f130 [.tmp 4] := ⟨rfl⟩
instance : ResC Try.f131 [.tmp 4] := ⟨rfl⟩
instance : ResC Try.f132 [.cell 2 114] := ⟨rfl⟩
instance : ResC Try.f133 [.tmp 4] := ⟨rfl⟩
instance : ResC Try.f134 [.tmp 4] := ⟨rfl⟩
instance : ResC Try.f135 [.tmp 4, .tmp 5] := ⟨rfl⟩
instance : ResC Try.f136 [.tmp 4, .tmp 5] := ⟨rfl⟩
instance : ResC Try.f137 [.tmp 4] := ⟨rfl⟩
instance : ResC Try.f138 [.tmp 6] := ⟨rfl⟩
instance : ResC Try.f139 [.tmp 4] := ⟨rfl⟩
instance : ResC Try.f140 [.tmp 4] := ⟨rfl⟩
instance : ResC Try.f141 [.cell 4 36, .tmp 5] := ⟨rfl⟩
instance : ResC Try.f142 [.cell 2 32] := ⟨rfl⟩
instance : ResC Try.f143 [.cell 4 36] := ⟨rfl⟩
instance : ResC Try.f144 [.tmp 4] := ⟨rfl⟩
instance : ResC Try.f145 [.tmp 4] := ⟨rfl⟩
instance : ResC Try.f146 [.tmp 4] := ⟨rfl⟩
instance : ResC Try.f147 [.cell 2 32] := ⟨rfl⟩
instance : ResC Try.f148 [.tmp 4] := ⟨rfl⟩
instance : ResC Try.f149 [.tmp 8] := ⟨rfl⟩
instance : ResC Try.f150 [.tmp 2] := ⟨rfl⟩
instance : ResC Try.f151 [.tmp 6] := ⟨rfl⟩
instance : ResC Try.f152 [.tmp 2] := ⟨rfl⟩
instance : ResC Try.f153 [.tmp 6] := ⟨rfl⟩
instance : ResC Try.f154 [.tmp 3] := ⟨rfl⟩
instance : ResC Try.f155 [.tmp 2, .tmp 3] := ⟨rfl⟩
instance : ResC Try.f156 [.cell 2 52] := ⟨rfl⟩
instance : ResC Try.f157 [.tmp 2] := ⟨rfl⟩
instance : ResC Try.f158 [.tmp 4] := ⟨rfl⟩
instance : ResC Try.f159 [.tmp 2] := ⟨rfl⟩
instance : ResC Try.f160 [.tmp 4] := ⟨rfl⟩
instance : ResC Try.f161 [.tmp 4] := ⟨rfl⟩
instance : ResC Try.f162 [.tmp 3] := ⟨rfl⟩
instance : ResC Try.f163 [.tmp 4] := ⟨rfl⟩
instance : ResC Try.f164 [.tmp 4] := ⟨rfl⟩
instance : ResC Try.f165 [.tmp 2] := ⟨rfl⟩
instance : ResC Try.f166 [.tmp 4] := ⟨rfl⟩
instance : ResC Try.f167 [.cell 6 204, .tmp 7] := ⟨rfl⟩
instance : ResC Try.f168 [.tmp 6] := ⟨rfl⟩
instance : ResC Try.f169 [.tmp 4, .tmp 5] := ⟨rfl⟩
instance : ResC Try.f170 [.tmp 8, .tmp 9] := ⟨rfl⟩
instance : ResC Try.f171 [.tmp 4] := ⟨rfl⟩
instance : ResC Try.f172 [.tmp 2] := ⟨rfl⟩
instance : ResC Try.f173 [.cell 6 204, .tmp 7] := ⟨rfl⟩
instance : ResC Try.f174 [.tmp 4, .tmp 5] := ⟨rfl⟩
instance : ResC Try.f175 [.tmp 8, .tmp 9] := ⟨rfl⟩
instance : ResC Try.f176 [.tmp 4] := ⟨rfl⟩
instance : ResC Try.f177 [] := ⟨rfl⟩
instance : ResC Try.f178 [.tmp 8] := ⟨rfl⟩
instance : ResC Try.f179 [.tmp 6, .tmp 7] := ⟨rfl⟩
instance : ResC Try.f180 [.tmp 6, .tmp 7, .tmp 8] := ⟨rfl⟩
instance : ResC Try.f181 [.tmp 2] := ⟨rfl⟩
instance : ResC Try.f182 [.tmp 4] := ⟨rfl⟩
instance : ResC Try.f183 [.tmp 6] := ⟨rfl⟩
instance : ResC Try.f184 [.tmp 2, .tmp 3] := ⟨rfl⟩
instance : ResC Try.f185 [.tmp 4] := ⟨rfl⟩
instance : ResC Try.f186 [.tmp 4] := ⟨rfl⟩
instance : ResC Try.f187 [.tmp 2] := ⟨rfl⟩
instance : ResC Try.f188 [.cell 4 90, .tmp 5] := ⟨rfl⟩
instance : ResC Try.f189 [.tmp 4] := ⟨rfl⟩
instance : ResC Try.f190 [.cell 2 52] := ⟨rfl⟩
instance : ResC Try.f191 [.tmp 4] := ⟨rfl⟩
instance : ResC Try.f192 [.cell 2 204] := ⟨rfl⟩
instance : ResC Try.f193 [.tmp 4] := ⟨rfl⟩
instance : ResC Try.f194 [.tmp 4] := ⟨rfl⟩
instance : ResC Try.f195 [.tmp 2] := ⟨rfl⟩
instance : ResC Try.f196 [.cell 8 234, .tmp 9] := ⟨rfl⟩
instance : ResC Try.f197 [.cell 2 204] := ⟨rfl⟩
instance : ResC Try.f198 [.cell 2 204] := ⟨rfl⟩
instance : ResC Try.f199 [.tmp 2] := ⟨rfl⟩
instance : ResC Try.f200 [.tmp 6] := ⟨rfl⟩
instance : ResC Try.f201 [.tmp 4] := ⟨rfl⟩
instance : ResC Try.f202 [.tmp 6] := ⟨rfl⟩
instance : ResC Try.f203 [.cell 6 246, .tmp 7] := ⟨rfl⟩
instance : ResC Try.f204 [.tmp 6] := ⟨rfl⟩
instance : ResC Try.f205 [.tmp 6] := ⟨rfl⟩
instance : ResC Try.f206 [.tmp 2] := ⟨rfl⟩
instance : ResC Try.f207 [.tmp 4, .tmp 5] := ⟨rfl⟩
instance : ResC Try.f208 [.tmp 6, .tmp 7] := ⟨rfl⟩
instance : ResC Try.f209 [.tmp 4, .tmp 5] := ⟨rfl⟩
instance : ResC Try.f210 [.tmp 6, .tmp 7] := ⟨rfl⟩
instance : ResC Try.f211 [.cell 2 52] := ⟨rfl⟩
instance : ResC Try.f212 [.cell 4 114] := ⟨rfl⟩
instance : ResC Try.f213 [.tmp 2] := ⟨rfl⟩
instance : ResC Try.f214 [.tmp 3] := ⟨rfl⟩
instance : ResC Try.f215 [.tmp 4] := ⟨rfl⟩
instance : ResC Try.f216 [.tmp 4] := ⟨rfl⟩
instance : ResC Try.f217 [.tmp 2] := ⟨rfl⟩
instance : ResC Try.f218 [.tmp 6] := ⟨rfl⟩
instance : ResC Try.f219 [.tmp 6] := ⟨rfl⟩
instance : ResC Try.f220 [.tmp 4, .tmp 5] := ⟨rfl⟩
instance : ResC Try.f221 [.tmp 8] := ⟨rfl⟩
instance : ResC Try.f222 [.tmp 4] := ⟨rfl⟩
instance : ResC Try.f223 [.tmp 4] := ⟨rfl⟩
instance : ResC Try.f224 [.tmp 4] := ⟨rfl⟩
instance : ResC Try.f225 [.tmp 4] := ⟨rfl⟩
instance : ResC Try.f226 [.tmp 6] := ⟨rfl⟩
instance : ResC Try.f227 [.tmp 4] := ⟨rfl⟩
instance : ResC Try.f228 [.tmp 4] := ⟨rfl⟩
instance : ResC Try.f229 [.tmp 4] := ⟨rfl⟩
instance : ResC Try.f230 [.tmp 4] := ⟨rfl⟩
instance : ResC Try.f231 [.tmp 10, .tmp 11] := ⟨rfl⟩
instance : ResC Try.f232 [.tmp 4, .tmp 5] := ⟨rfl⟩
instance : ResC Try.f233 [.tmp 4] := ⟨rfl⟩
instance : ResC Try.f234 [.tmp 8, .tmp 9] := ⟨rfl⟩
instance : ResC Try.f235 [.tmp 2] := ⟨rfl⟩
instance : ResC Try.f236 [.tmp 4, .tmp 5] := ⟨rfl⟩
instance : ResC Try.f237 [.tmp 4] := ⟨rfl⟩
instance : ResC Try.f238 [.tmp 4] := ⟨rfl⟩
instance : ResC Try.f239 [.tmp 6] := ⟨rfl⟩
instance : ResC Try.f240 [.tmp 4] := ⟨rfl⟩
instance : ResC Try.f241 [.tmp 2] := ⟨rfl⟩
instance : ResC Try.f242 [.tmp 4] := ⟨rfl⟩
instance : ResC Try.f243 [.tmp 8] := ⟨rfl⟩
instance : ResC Try.f244 [.tmp 6] := ⟨rfl⟩
instance : ResC Try.f245 [.tmp 6] := ⟨rfl⟩
instance : ResC Try.f246 [.tmp 4, .tmp 5] := ⟨rfl⟩
instance : ResC Try.f247 [.tmp 4, .tmp 5] := ⟨rfl⟩
instance : ResC Try.f248 [.tmp 4] := ⟨rfl⟩
instance : ResC Try.f249 [.cell 6 145, .tmp 7] := ⟨rfl⟩
instance : ResC Try.f250 [.tmp 4] := ⟨rfl⟩
instance : ResC Try.f251 [.cell 6 145, .tmp 7] := ⟨rfl⟩
instance : ResC Try.f252 [.cell 6 145, .tmp 7] := ⟨rfl⟩
instance : ResC Try.f253 [.cell 8 145, .tmp 9] := ⟨rfl⟩
instance : ResC Try.f254 [.cell 6 145, .tmp 7] := ⟨rfl⟩
end Go.Proofs
