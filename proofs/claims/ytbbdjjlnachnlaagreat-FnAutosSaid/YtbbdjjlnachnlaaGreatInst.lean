/- The engine's classes at this program: its types, its functions. Written by a program. -/
import Derived.Test.YtbbdjjlnachnlaaGreatChecked
import Derived.Test.YtbbdjjlnachnlaaGreatEngO
namespace Go.Proofs
open Go Go.Eng
set_option linter.unusedVariables false
set_option maxRecDepth 20000
instance : Mixed Tryz.prog := ⟨by kernel_rfl⟩
instance : Sc Tryz.prog 1 := ⟨fun w => Tryz.isAgg1 w, fun w => Tryz.sizeOf1 w⟩
instance : Zr Tryz.prog 1 [.nilFunc] := ⟨_, fun w => Tryz.zeroValue1 w, rfl⟩
instance : Sc Tryz.prog 2 := ⟨fun w => Tryz.isAgg2 w, fun w => Tryz.sizeOf2 w⟩
instance : Zr Tryz.prog 2 [(.int .i64 (0))] := ⟨_, fun w => Tryz.zeroValue2 w, rfl⟩
instance : I64T Tryz.prog 2 := ⟨Tryz.underlying2⟩
instance : Sc Tryz.prog 3 := ⟨fun w => Tryz.isAgg3 w, fun w => Tryz.sizeOf3 w⟩
instance : Zr Tryz.prog 3 [(.int .i64 (0))] := ⟨_, fun w => Tryz.zeroValue3 w, rfl⟩
instance : I64T Tryz.prog 3 := ⟨Tryz.underlying3⟩
instance : Sc Tryz.prog 4 := ⟨fun w => Tryz.isAgg4 w, fun w => Tryz.sizeOf4 w⟩
instance : Zr Tryz.prog 4 [(.bool false)] := ⟨_, fun w => Tryz.zeroValue4 w, rfl⟩
instance : IsBool Tryz.prog 4 := ⟨Tryz.underlying4⟩
instance : Sc Tryz.prog 5 := ⟨fun w => Tryz.isAgg5 w, fun w => Tryz.sizeOf5 w⟩
instance : Zr Tryz.prog 5 [(.int .u8 (0))] := ⟨_, fun w => Tryz.zeroValue5 w, rfl⟩
instance : Sc Tryz.prog 9 := ⟨fun w => Tryz.isAgg9 w, fun w => Tryz.sizeOf9 w⟩
instance : Zr Tryz.prog 9 [(.string ByteArray.empty)] := ⟨_, fun w => Tryz.zeroValue9 w, rfl⟩
instance : IsStr Tryz.prog 9 := ⟨Tryz.underlying9⟩
instance : Sc Tryz.prog 12 := ⟨fun w => Tryz.isAgg12 w, fun w => Tryz.sizeOf12 w⟩
instance : Zr Tryz.prog 12 [(.int .u64 (0))] := ⟨_, fun w => Tryz.zeroValue12 w, rfl⟩
instance : Ag Tryz.prog 13 2 := ⟨fun w => Tryz.isAgg13 w, fun w => Tryz.sizeOf13 w⟩
instance : Zr Tryz.prog 13 [(.string ByteArray.empty), (.int .u64 (0))] := ⟨_, fun w => Tryz.zeroValue13 w, rfl⟩
instance : Fo Tryz.prog 13 0 0 := ⟨fun w a => by simp [Instr.fieldAt, Instr.sureAddr, fieldPlace]⟩
instance : Fo Tryz.prog 13 1 1 := ⟨fun w a => by simp [Instr.fieldAt, Instr.sureAddr, fieldPlace]⟩
instance : StT Tryz.prog 13 [(0, 1), (1, 1)] [(.string ByteArray.empty), (.int .u64 (0))] := ⟨_, Tryz.t13, _, Tryz.underlying13, by kernel_rfl, by kernel_rfl, rfl, rfl⟩
instance : Sc Tryz.prog 20 := ⟨fun w => Tryz.isAgg20 w, fun w => Tryz.sizeOf20 w⟩
instance : Zr Tryz.prog 20 [.nilIface] := ⟨_, fun w => Tryz.zeroValue20 w, rfl⟩
instance : Sc Tryz.prog 21 := ⟨fun w => Tryz.isAgg21 w, fun w => Tryz.sizeOf21 w⟩
instance : Zr Tryz.prog 21 [(.int .i32 (0))] := ⟨_, fun w => Tryz.zeroValue21 w, rfl⟩
instance : Sc Tryz.prog 22 := ⟨fun w => Tryz.isAgg22 w, fun w => Tryz.sizeOf22 w⟩
instance : Zr Tryz.prog 22 [(.slice none 0 0)] := ⟨_, fun w => Tryz.zeroValue22 w, rfl⟩
instance : Sl Tryz.prog 22 1 8 := ⟨2, Tryz.t2, _, Tryz.underlying22, by kernel_rfl, rfl, rfl, rfl, rfl, by decide⟩
instance : SlZ Tryz.prog 22 [(.int .i64 (0))] := ⟨fun {e i z} h1 h2 h3 => by
  rw [Tryz.underlying22] at h1; cases h1
  rw [show Tryz.prog.info? 2 = some Tryz.t2 by kernel_rfl] at h2; cases h2; cases h3; rfl⟩
instance : Ag Tryz.prog 23 1 := ⟨fun w => Tryz.isAgg23 w, fun w => Tryz.sizeOf23 w⟩
instance : Zr Tryz.prog 23 [(.slice none 0 0)] := ⟨_, fun w => Tryz.zeroValue23 w, rfl⟩
instance : Fo Tryz.prog 23 0 0 := ⟨fun w a => by simp [Instr.fieldAt, Instr.sureAddr, fieldPlace]⟩
instance : StT Tryz.prog 23 [(0, 1)] [(.slice none 0 0)] := ⟨_, Tryz.t23, _, Tryz.underlying23, by kernel_rfl, by kernel_rfl, rfl, rfl⟩
instance : Ag Tryz.prog 24 1 := ⟨fun w => Tryz.isAgg24 w, fun w => Tryz.sizeOf24 w⟩
instance : Zr Tryz.prog 24 [(.slice none 0 0)] := ⟨_, fun w => Tryz.zeroValue24 w, rfl⟩
instance : Fo Tryz.prog 24 0 0 := ⟨fun w a => by simp [Instr.fieldAt, Instr.sureAddr, fieldPlace]⟩
instance : StT Tryz.prog 24 [(0, 1)] [(.slice none 0 0)] := ⟨_, Tryz.t24, _, Tryz.underlying24, by kernel_rfl, by kernel_rfl, rfl, rfl⟩
instance : Sc Tryz.prog 25 := ⟨fun w => Tryz.isAgg25 w, fun w => Tryz.sizeOf25 w⟩
instance : Zr Tryz.prog 25 [(.slice none 0 0)] := ⟨_, fun w => Tryz.zeroValue25 w, rfl⟩
instance : Sl Tryz.prog 25 2 48 := ⟨127, Tryz.t127, _, Tryz.underlying25, by kernel_rfl, rfl, rfl, rfl, rfl, by decide⟩
instance : SlZ Tryz.prog 25 [(.slice none 0 0), (.slice none 0 0)] := ⟨fun {e i z} h1 h2 h3 => by
  rw [Tryz.underlying25] at h1; cases h1
  rw [show Tryz.prog.info? 127 = some Tryz.t127 by kernel_rfl] at h2; cases h2; cases h3; rfl⟩
instance : Ag Tryz.prog 26 2 := ⟨fun w => Tryz.isAgg26 w, fun w => Tryz.sizeOf26 w⟩
instance : Zr Tryz.prog 26 [(.slice none 0 0), (.slice none 0 0)] := ⟨_, fun w => Tryz.zeroValue26 w, rfl⟩
instance : Fo Tryz.prog 26 0 0 := ⟨fun w a => by simp [Instr.fieldAt, Instr.sureAddr, fieldPlace]⟩
instance : Fo Tryz.prog 26 1 1 := ⟨fun w a => by simp [Instr.fieldAt, Instr.sureAddr, fieldPlace]⟩
instance : StT Tryz.prog 26 [(0, 1), (1, 1)] [(.slice none 0 0), (.slice none 0 0)] := ⟨_, Tryz.t26, _, Tryz.underlying26, by kernel_rfl, by kernel_rfl, rfl, rfl⟩
instance : Ag Tryz.prog 27 2 := ⟨fun w => Tryz.isAgg27 w, fun w => Tryz.sizeOf27 w⟩
instance : Zr Tryz.prog 27 [(.slice none 0 0), (.slice none 0 0)] := ⟨_, fun w => Tryz.zeroValue27 w, rfl⟩
instance : Fo Tryz.prog 27 0 0 := ⟨fun w a => by simp [Instr.fieldAt, Instr.sureAddr, fieldPlace]⟩
instance : Fo Tryz.prog 27 1 1 := ⟨fun w a => by simp [Instr.fieldAt, Instr.sureAddr, fieldPlace]⟩
instance : StT Tryz.prog 27 [(0, 1), (1, 1)] [(.slice none 0 0), (.slice none 0 0)] := ⟨_, Tryz.t27, _, Tryz.underlying27, by kernel_rfl, by kernel_rfl, rfl, rfl⟩
instance : Sc Tryz.prog 28 := ⟨fun w => Tryz.isAgg28 w, fun w => Tryz.sizeOf28 w⟩
instance : Zr Tryz.prog 28 [.nilFunc] := ⟨_, fun w => Tryz.zeroValue28 w, rfl⟩
instance : Sc Tryz.prog 29 := ⟨fun w => Tryz.isAgg29 w, fun w => Tryz.sizeOf29 w⟩
instance : Zr Tryz.prog 29 [(.slice none 0 0)] := ⟨_, fun w => Tryz.zeroValue29 w, rfl⟩
instance : Sl Tryz.prog 29 4 80 := ⟨62, Tryz.t62, _, Tryz.underlying29, by kernel_rfl, rfl, rfl, rfl, rfl, by decide⟩
instance : SlZ Tryz.prog 29 [(.int .i64 (0)), (.slice none 0 0), (.slice none 0 0), (.slice none 0 0)] := ⟨fun {e i z} h1 h2 h3 => by
  rw [Tryz.underlying29] at h1; cases h1
  rw [show Tryz.prog.info? 62 = some Tryz.t62 by kernel_rfl] at h2; cases h2; cases h3; rfl⟩
instance : Ag Tryz.prog 30 1 := ⟨fun w => Tryz.isAgg30 w, fun w => Tryz.sizeOf30 w⟩
instance : Zr Tryz.prog 30 [(.slice none 0 0)] := ⟨_, fun w => Tryz.zeroValue30 w, rfl⟩
instance : Fo Tryz.prog 30 0 0 := ⟨fun w a => by simp [Instr.fieldAt, Instr.sureAddr, fieldPlace]⟩
instance : StT Tryz.prog 30 [(0, 1)] [(.slice none 0 0)] := ⟨_, Tryz.t30, _, Tryz.underlying30, by kernel_rfl, by kernel_rfl, rfl, rfl⟩
instance : Ag Tryz.prog 31 1 := ⟨fun w => Tryz.isAgg31 w, fun w => Tryz.sizeOf31 w⟩
instance : Zr Tryz.prog 31 [(.slice none 0 0)] := ⟨_, fun w => Tryz.zeroValue31 w, rfl⟩
instance : Fo Tryz.prog 31 0 0 := ⟨fun w a => by simp [Instr.fieldAt, Instr.sureAddr, fieldPlace]⟩
instance : StT Tryz.prog 31 [(0, 1)] [(.slice none 0 0)] := ⟨_, Tryz.t31, _, Tryz.underlying31, by kernel_rfl, by kernel_rfl, rfl, rfl⟩
instance : Sc Tryz.prog 33 := ⟨fun w => Tryz.isAgg33 w, fun w => Tryz.sizeOf33 w⟩
instance : Zr Tryz.prog 33 [.nilFunc] := ⟨_, fun w => Tryz.zeroValue33 w, rfl⟩
instance : Ag Tryz.prog 34 1 := ⟨fun w => Tryz.isAgg34 w, fun w => Tryz.sizeOf34 w⟩
instance : Zr Tryz.prog 34 [(.slice none 0 0)] := ⟨_, fun w => Tryz.zeroValue34 w, rfl⟩
instance : Fo Tryz.prog 34 0 0 := ⟨fun w a => by simp [Instr.fieldAt, Instr.sureAddr, fieldPlace]⟩
instance : StT Tryz.prog 34 [(0, 1)] [(.slice none 0 0)] := ⟨_, Tryz.t34, _, Tryz.underlying34, by kernel_rfl, by kernel_rfl, rfl, rfl⟩
instance : Sc Tryz.prog 35 := ⟨fun w => Tryz.isAgg35 w, fun w => Tryz.sizeOf35 w⟩
instance : Zr Tryz.prog 35 [(.slice none 0 0)] := ⟨_, fun w => Tryz.zeroValue35 w, rfl⟩
instance : Sl Tryz.prog 35 2 48 := ⟨143, Tryz.t143, _, Tryz.underlying35, by kernel_rfl, rfl, rfl, rfl, rfl, by decide⟩
instance : SlZ Tryz.prog 35 [(.slice none 0 0), (.slice none 0 0)] := ⟨fun {e i z} h1 h2 h3 => by
  rw [Tryz.underlying35] at h1; cases h1
  rw [show Tryz.prog.info? 143 = some Tryz.t143 by kernel_rfl] at h2; cases h2; cases h3; rfl⟩
instance : Ag Tryz.prog 36 2 := ⟨fun w => Tryz.isAgg36 w, fun w => Tryz.sizeOf36 w⟩
instance : Zr Tryz.prog 36 [(.slice none 0 0), (.slice none 0 0)] := ⟨_, fun w => Tryz.zeroValue36 w, rfl⟩
instance : Fo Tryz.prog 36 0 0 := ⟨fun w a => by simp [Instr.fieldAt, Instr.sureAddr, fieldPlace]⟩
instance : Fo Tryz.prog 36 1 1 := ⟨fun w a => by simp [Instr.fieldAt, Instr.sureAddr, fieldPlace]⟩
instance : StT Tryz.prog 36 [(0, 1), (1, 1)] [(.slice none 0 0), (.slice none 0 0)] := ⟨_, Tryz.t36, _, Tryz.underlying36, by kernel_rfl, by kernel_rfl, rfl, rfl⟩
instance : Ag Tryz.prog 37 2 := ⟨fun w => Tryz.isAgg37 w, fun w => Tryz.sizeOf37 w⟩
instance : Zr Tryz.prog 37 [(.slice none 0 0), (.slice none 0 0)] := ⟨_, fun w => Tryz.zeroValue37 w, rfl⟩
instance : Fo Tryz.prog 37 0 0 := ⟨fun w a => by simp [Instr.fieldAt, Instr.sureAddr, fieldPlace]⟩
instance : Fo Tryz.prog 37 1 1 := ⟨fun w a => by simp [Instr.fieldAt, Instr.sureAddr, fieldPlace]⟩
instance : StT Tryz.prog 37 [(0, 1), (1, 1)] [(.slice none 0 0), (.slice none 0 0)] := ⟨_, Tryz.t37, _, Tryz.underlying37, by kernel_rfl, by kernel_rfl, rfl, rfl⟩
instance : Sc Tryz.prog 38 := ⟨fun w => Tryz.isAgg38 w, fun w => Tryz.sizeOf38 w⟩
instance : Zr Tryz.prog 38 [.nilFunc] := ⟨_, fun w => Tryz.zeroValue38 w, rfl⟩
instance : Sc Tryz.prog 39 := ⟨fun w => Tryz.isAgg39 w, fun w => Tryz.sizeOf39 w⟩
instance : Zr Tryz.prog 39 [.nilFunc] := ⟨_, fun w => Tryz.zeroValue39 w, rfl⟩
instance : Sc Tryz.prog 40 := ⟨fun w => Tryz.isAgg40 w, fun w => Tryz.sizeOf40 w⟩
instance : Zr Tryz.prog 40 [.nilFunc] := ⟨_, fun w => Tryz.zeroValue40 w, rfl⟩
instance : Sc Tryz.prog 41 := ⟨fun w => Tryz.isAgg41 w, fun w => Tryz.sizeOf41 w⟩
instance : Zr Tryz.prog 41 [.nilFunc] := ⟨_, fun w => Tryz.zeroValue41 w, rfl⟩
instance : Sc Tryz.prog 42 := ⟨fun w => Tryz.isAgg42 w, fun w => Tryz.sizeOf42 w⟩
instance : Zr Tryz.prog 42 [.nilFunc] := ⟨_, fun w => Tryz.zeroValue42 w, rfl⟩
instance : Sc Tryz.prog 43 := ⟨fun w => Tryz.isAgg43 w, fun w => Tryz.sizeOf43 w⟩
instance : Zr Tryz.prog 43 [.nilFunc] := ⟨_, fun w => Tryz.zeroValue43 w, rfl⟩
instance : Sc Tryz.prog 44 := ⟨fun w => Tryz.isAgg44 w, fun w => Tryz.sizeOf44 w⟩
instance : Zr Tryz.prog 44 [(.slice none 0 0)] := ⟨_, fun w => Tryz.zeroValue44 w, rfl⟩
instance : Sl Tryz.prog 44 1 1 := ⟨5, Tryz.t5, _, Tryz.underlying44, by kernel_rfl, rfl, rfl, rfl, rfl, by decide⟩
instance : SlZ Tryz.prog 44 [(.int .u8 (0))] := ⟨fun {e i z} h1 h2 h3 => by
  rw [Tryz.underlying44] at h1; cases h1
  rw [show Tryz.prog.info? 5 = some Tryz.t5 by kernel_rfl] at h2; cases h2; cases h3; rfl⟩
instance : Sc Tryz.prog 45 := ⟨fun w => Tryz.isAgg45 w, fun w => Tryz.sizeOf45 w⟩
instance : Zr Tryz.prog 45 [.nilFunc] := ⟨_, fun w => Tryz.zeroValue45 w, rfl⟩
instance : Sc Tryz.prog 46 := ⟨fun w => Tryz.isAgg46 w, fun w => Tryz.sizeOf46 w⟩
instance : Zr Tryz.prog 46 [(.slice none 0 0)] := ⟨_, fun w => Tryz.zeroValue46 w, rfl⟩
instance : Sl Tryz.prog 46 3 40 := ⟨91, Tryz.t91, _, Tryz.underlying46, by kernel_rfl, rfl, rfl, rfl, rfl, by decide⟩
instance : SlZ Tryz.prog 46 [(.int .i64 (0)), (.slice none 0 0), (.int .i64 (0))] := ⟨fun {e i z} h1 h2 h3 => by
  rw [Tryz.underlying46] at h1; cases h1
  rw [show Tryz.prog.info? 91 = some Tryz.t91 by kernel_rfl] at h2; cases h2; cases h3; rfl⟩
instance : Ag Tryz.prog 47 3 := ⟨fun w => Tryz.isAgg47 w, fun w => Tryz.sizeOf47 w⟩
instance : Zr Tryz.prog 47 [(.int .i64 (0)), (.slice none 0 0), (.slice none 0 0)] := ⟨_, fun w => Tryz.zeroValue47 w, rfl⟩
instance : Fo Tryz.prog 47 0 0 := ⟨fun w a => by simp [Instr.fieldAt, Instr.sureAddr, fieldPlace]⟩
instance : Fo Tryz.prog 47 1 1 := ⟨fun w a => by simp [Instr.fieldAt, Instr.sureAddr, fieldPlace]⟩
instance : Fo Tryz.prog 47 2 2 := ⟨fun w a => by simp [Instr.fieldAt, Instr.sureAddr, fieldPlace]⟩
instance : StT Tryz.prog 47 [(0, 1), (1, 1), (2, 1)] [(.int .i64 (0)), (.slice none 0 0), (.slice none 0 0)] := ⟨_, Tryz.t47, _, Tryz.underlying47, by kernel_rfl, by kernel_rfl, rfl, rfl⟩
instance : Ag Tryz.prog 48 3 := ⟨fun w => Tryz.isAgg48 w, fun w => Tryz.sizeOf48 w⟩
instance : Zr Tryz.prog 48 [(.int .i64 (0)), (.slice none 0 0), (.slice none 0 0)] := ⟨_, fun w => Tryz.zeroValue48 w, rfl⟩
instance : Fo Tryz.prog 48 0 0 := ⟨fun w a => by simp [Instr.fieldAt, Instr.sureAddr, fieldPlace]⟩
instance : Fo Tryz.prog 48 1 1 := ⟨fun w a => by simp [Instr.fieldAt, Instr.sureAddr, fieldPlace]⟩
instance : Fo Tryz.prog 48 2 2 := ⟨fun w a => by simp [Instr.fieldAt, Instr.sureAddr, fieldPlace]⟩
instance : StT Tryz.prog 48 [(0, 1), (1, 1), (2, 1)] [(.int .i64 (0)), (.slice none 0 0), (.slice none 0 0)] := ⟨_, Tryz.t48, _, Tryz.underlying48, by kernel_rfl, by kernel_rfl, rfl, rfl⟩
instance : Sc Tryz.prog 50 := ⟨fun w => Tryz.isAgg50 w, fun w => Tryz.sizeOf50 w⟩
instance : Zr Tryz.prog 50 [.nilFunc] := ⟨_, fun w => Tryz.zeroValue50 w, rfl⟩
instance : Sc Tryz.prog 52 := ⟨fun w => Tryz.isAgg52 w, fun w => Tryz.sizeOf52 w⟩
instance : Zr Tryz.prog 52 [.nilFunc] := ⟨_, fun w => Tryz.zeroValue52 w, rfl⟩
instance : Sc Tryz.prog 53 := ⟨fun w => Tryz.isAgg53 w, fun w => Tryz.sizeOf53 w⟩
instance : Zr Tryz.prog 53 [.nilFunc] := ⟨_, fun w => Tryz.zeroValue53 w, rfl⟩
instance : Sc Tryz.prog 54 := ⟨fun w => Tryz.isAgg54 w, fun w => Tryz.sizeOf54 w⟩
instance : Zr Tryz.prog 54 [.nilFunc] := ⟨_, fun w => Tryz.zeroValue54 w, rfl⟩
instance : Sc Tryz.prog 55 := ⟨fun w => Tryz.isAgg55 w, fun w => Tryz.sizeOf55 w⟩
instance : Zr Tryz.prog 55 [(.slice none 0 0)] := ⟨_, fun w => Tryz.zeroValue55 w, rfl⟩
instance : Sl Tryz.prog 55 1 24 := ⟨22, Tryz.t22, _, Tryz.underlying55, by kernel_rfl, rfl, rfl, rfl, rfl, by decide⟩
instance : SlZ Tryz.prog 55 [(.slice none 0 0)] := ⟨fun {e i z} h1 h2 h3 => by
  rw [Tryz.underlying55] at h1; cases h1
  rw [show Tryz.prog.info? 22 = some Tryz.t22 by kernel_rfl] at h2; cases h2; cases h3; rfl⟩
instance : Sc Tryz.prog 57 := ⟨fun w => Tryz.isAgg57 w, fun w => Tryz.sizeOf57 w⟩
instance : Zr Tryz.prog 57 [.nilFunc] := ⟨_, fun w => Tryz.zeroValue57 w, rfl⟩
instance : Sc Tryz.prog 58 := ⟨fun w => Tryz.isAgg58 w, fun w => Tryz.sizeOf58 w⟩
instance : Zr Tryz.prog 58 [.nilFunc] := ⟨_, fun w => Tryz.zeroValue58 w, rfl⟩
instance : Sc Tryz.prog 59 := ⟨fun w => Tryz.isAgg59 w, fun w => Tryz.sizeOf59 w⟩
instance : Zr Tryz.prog 59 [.nilFunc] := ⟨_, fun w => Tryz.zeroValue59 w, rfl⟩
instance : Sc Tryz.prog 60 := ⟨fun w => Tryz.isAgg60 w, fun w => Tryz.sizeOf60 w⟩
instance : Zr Tryz.prog 60 [.nilFunc] := ⟨_, fun w => Tryz.zeroValue60 w, rfl⟩
instance : Ag Tryz.prog 61 4 := ⟨fun w => Tryz.isAgg61 w, fun w => Tryz.sizeOf61 w⟩
instance : Zr Tryz.prog 61 [(.int .i64 (0)), (.slice none 0 0), (.slice none 0 0), (.slice none 0 0)] := ⟨_, fun w => Tryz.zeroValue61 w, rfl⟩
instance : Fo Tryz.prog 61 0 0 := ⟨fun w a => by simp [Instr.fieldAt, Instr.sureAddr, fieldPlace]⟩
instance : Fo Tryz.prog 61 1 1 := ⟨fun w a => by simp [Instr.fieldAt, Instr.sureAddr, fieldPlace]⟩
instance : Fo Tryz.prog 61 2 2 := ⟨fun w a => by simp [Instr.fieldAt, Instr.sureAddr, fieldPlace]⟩
instance : Fo Tryz.prog 61 3 3 := ⟨fun w a => by simp [Instr.fieldAt, Instr.sureAddr, fieldPlace]⟩
instance : StT Tryz.prog 61 [(0, 1), (1, 1), (2, 1), (3, 1)] [(.int .i64 (0)), (.slice none 0 0), (.slice none 0 0), (.slice none 0 0)] := ⟨_, Tryz.t61, _, Tryz.underlying61, by kernel_rfl, by kernel_rfl, rfl, rfl⟩
instance : Ag Tryz.prog 62 4 := ⟨fun w => Tryz.isAgg62 w, fun w => Tryz.sizeOf62 w⟩
instance : Zr Tryz.prog 62 [(.int .i64 (0)), (.slice none 0 0), (.slice none 0 0), (.slice none 0 0)] := ⟨_, fun w => Tryz.zeroValue62 w, rfl⟩
instance : Fo Tryz.prog 62 0 0 := ⟨fun w a => by simp [Instr.fieldAt, Instr.sureAddr, fieldPlace]⟩
instance : Fo Tryz.prog 62 1 1 := ⟨fun w a => by simp [Instr.fieldAt, Instr.sureAddr, fieldPlace]⟩
instance : Fo Tryz.prog 62 2 2 := ⟨fun w a => by simp [Instr.fieldAt, Instr.sureAddr, fieldPlace]⟩
instance : Fo Tryz.prog 62 3 3 := ⟨fun w a => by simp [Instr.fieldAt, Instr.sureAddr, fieldPlace]⟩
instance : StT Tryz.prog 62 [(0, 1), (1, 1), (2, 1), (3, 1)] [(.int .i64 (0)), (.slice none 0 0), (.slice none 0 0), (.slice none 0 0)] := ⟨_, Tryz.t62, _, Tryz.underlying62, by kernel_rfl, by kernel_rfl, rfl, rfl⟩
instance : Sc Tryz.prog 64 := ⟨fun w => Tryz.isAgg64 w, fun w => Tryz.sizeOf64 w⟩
instance : Zr Tryz.prog 64 [.nilFunc] := ⟨_, fun w => Tryz.zeroValue64 w, rfl⟩
instance : Sc Tryz.prog 65 := ⟨fun w => Tryz.isAgg65 w, fun w => Tryz.sizeOf65 w⟩
instance : Zr Tryz.prog 65 [.nilFunc] := ⟨_, fun w => Tryz.zeroValue65 w, rfl⟩
instance : Sc Tryz.prog 66 := ⟨fun w => Tryz.isAgg66 w, fun w => Tryz.sizeOf66 w⟩
instance : Zr Tryz.prog 66 [.nilFunc] := ⟨_, fun w => Tryz.zeroValue66 w, rfl⟩
instance : Sc Tryz.prog 67 := ⟨fun w => Tryz.isAgg67 w, fun w => Tryz.sizeOf67 w⟩
instance : Zr Tryz.prog 67 [.nilFunc] := ⟨_, fun w => Tryz.zeroValue67 w, rfl⟩
instance : Sc Tryz.prog 68 := ⟨fun w => Tryz.isAgg68 w, fun w => Tryz.sizeOf68 w⟩
instance : Zr Tryz.prog 68 [.nilFunc] := ⟨_, fun w => Tryz.zeroValue68 w, rfl⟩
instance : Sc Tryz.prog 69 := ⟨fun w => Tryz.isAgg69 w, fun w => Tryz.sizeOf69 w⟩
instance : Zr Tryz.prog 69 [.nilFunc] := ⟨_, fun w => Tryz.zeroValue69 w, rfl⟩
instance : Sc Tryz.prog 70 := ⟨fun w => Tryz.isAgg70 w, fun w => Tryz.sizeOf70 w⟩
instance : Zr Tryz.prog 70 [.nilFunc] := ⟨_, fun w => Tryz.zeroValue70 w, rfl⟩
instance : Sc Tryz.prog 71 := ⟨fun w => Tryz.isAgg71 w, fun w => Tryz.sizeOf71 w⟩
instance : Zr Tryz.prog 71 [.nilFunc] := ⟨_, fun w => Tryz.zeroValue71 w, rfl⟩
instance : Sc Tryz.prog 72 := ⟨fun w => Tryz.isAgg72 w, fun w => Tryz.sizeOf72 w⟩
instance : Zr Tryz.prog 72 [.nilFunc] := ⟨_, fun w => Tryz.zeroValue72 w, rfl⟩
instance : Sc Tryz.prog 73 := ⟨fun w => Tryz.isAgg73 w, fun w => Tryz.sizeOf73 w⟩
instance : Zr Tryz.prog 73 [.nilFunc] := ⟨_, fun w => Tryz.zeroValue73 w, rfl⟩
instance : Sc Tryz.prog 74 := ⟨fun w => Tryz.isAgg74 w, fun w => Tryz.sizeOf74 w⟩
instance : Zr Tryz.prog 74 [.nilFunc] := ⟨_, fun w => Tryz.zeroValue74 w, rfl⟩
instance : Sc Tryz.prog 75 := ⟨fun w => Tryz.isAgg75 w, fun w => Tryz.sizeOf75 w⟩
instance : Zr Tryz.prog 75 [(.pointer none)] := ⟨_, fun w => Tryz.zeroValue75 w, rfl⟩
instance : Sc Tryz.prog 76 := ⟨fun w => Tryz.isAgg76 w, fun w => Tryz.sizeOf76 w⟩
instance : Zr Tryz.prog 76 [.nilFunc] := ⟨_, fun w => Tryz.zeroValue76 w, rfl⟩
instance : Sc Tryz.prog 78 := ⟨fun w => Tryz.isAgg78 w, fun w => Tryz.sizeOf78 w⟩
instance : Zr Tryz.prog 78 [.nilFunc] := ⟨_, fun w => Tryz.zeroValue78 w, rfl⟩
instance : Sc Tryz.prog 79 := ⟨fun w => Tryz.isAgg79 w, fun w => Tryz.sizeOf79 w⟩
instance : Zr Tryz.prog 79 [.nilFunc] := ⟨_, fun w => Tryz.zeroValue79 w, rfl⟩
instance : Sc Tryz.prog 80 := ⟨fun w => Tryz.isAgg80 w, fun w => Tryz.sizeOf80 w⟩
instance : Zr Tryz.prog 80 [.nilFunc] := ⟨_, fun w => Tryz.zeroValue80 w, rfl⟩
instance : Sc Tryz.prog 81 := ⟨fun w => Tryz.isAgg81 w, fun w => Tryz.sizeOf81 w⟩
instance : Zr Tryz.prog 81 [(.pointer none)] := ⟨_, fun w => Tryz.zeroValue81 w, rfl⟩
instance : Ag Tryz.prog 82 16 := ⟨fun w => Tryz.isAgg82 w, fun w => Tryz.sizeOf82 w⟩
instance : Zr Tryz.prog 82 [(.bool false), (.bool false), (.bool false), (.bool false), (.bool false), (.bool false), (.bool false), (.bool false), (.bool false), (.bool false), (.bool false), (.bool false), (.bool false), (.bool false), (.bool false), (.bool false)] := ⟨_, fun w => Tryz.zeroValue82 w, rfl⟩
instance : ArT Tryz.prog 82 16 := ⟨_, Tryz.t4, Tryz.underlying82, by kernel_rfl, rfl, by decide⟩
instance : Sc Tryz.prog 86 := ⟨fun w => Tryz.isAgg86 w, fun w => Tryz.sizeOf86 w⟩
instance : Zr Tryz.prog 86 [.nilFunc] := ⟨_, fun w => Tryz.zeroValue86 w, rfl⟩
instance : Ag Tryz.prog 87 16 := ⟨fun w => Tryz.isAgg87 w, fun w => Tryz.sizeOf87 w⟩
instance : Zr Tryz.prog 87 [(.int .i64 (0)), (.int .i64 (0)), (.int .i64 (0)), (.int .i64 (0)), (.int .i64 (0)), (.int .i64 (0)), (.int .i64 (0)), (.int .i64 (0)), (.int .i64 (0)), (.int .i64 (0)), (.int .i64 (0)), (.int .i64 (0)), (.int .i64 (0)), (.int .i64 (0)), (.int .i64 (0)), (.int .i64 (0))] := ⟨_, fun w => Tryz.zeroValue87 w, rfl⟩
instance : ArT Tryz.prog 87 16 := ⟨_, Tryz.t2, Tryz.underlying87, by kernel_rfl, rfl, by decide⟩
instance : Sc Tryz.prog 89 := ⟨fun w => Tryz.isAgg89 w, fun w => Tryz.sizeOf89 w⟩
instance : Zr Tryz.prog 89 [.nilFunc] := ⟨_, fun w => Tryz.zeroValue89 w, rfl⟩
instance : Ag Tryz.prog 90 3 := ⟨fun w => Tryz.isAgg90 w, fun w => Tryz.sizeOf90 w⟩
instance : Zr Tryz.prog 90 [(.int .i64 (0)), (.slice none 0 0), (.int .i64 (0))] := ⟨_, fun w => Tryz.zeroValue90 w, rfl⟩
instance : Fo Tryz.prog 90 0 0 := ⟨fun w a => by simp [Instr.fieldAt, Instr.sureAddr, fieldPlace]⟩
instance : Fo Tryz.prog 90 1 1 := ⟨fun w a => by simp [Instr.fieldAt, Instr.sureAddr, fieldPlace]⟩
instance : Fo Tryz.prog 90 2 2 := ⟨fun w a => by simp [Instr.fieldAt, Instr.sureAddr, fieldPlace]⟩
instance : StT Tryz.prog 90 [(0, 1), (1, 1), (2, 1)] [(.int .i64 (0)), (.slice none 0 0), (.int .i64 (0))] := ⟨_, Tryz.t90, _, Tryz.underlying90, by kernel_rfl, by kernel_rfl, rfl, rfl⟩
instance : Ag Tryz.prog 91 3 := ⟨fun w => Tryz.isAgg91 w, fun w => Tryz.sizeOf91 w⟩
instance : Zr Tryz.prog 91 [(.int .i64 (0)), (.slice none 0 0), (.int .i64 (0))] := ⟨_, fun w => Tryz.zeroValue91 w, rfl⟩
instance : Fo Tryz.prog 91 0 0 := ⟨fun w a => by simp [Instr.fieldAt, Instr.sureAddr, fieldPlace]⟩
instance : Fo Tryz.prog 91 1 1 := ⟨fun w a => by simp [Instr.fieldAt, Instr.sureAddr, fieldPlace]⟩
instance : Fo Tryz.prog 91 2 2 := ⟨fun w a => by simp [Instr.fieldAt, Instr.sureAddr, fieldPlace]⟩
instance : StT Tryz.prog 91 [(0, 1), (1, 1), (2, 1)] [(.int .i64 (0)), (.slice none 0 0), (.int .i64 (0))] := ⟨_, Tryz.t91, _, Tryz.underlying91, by kernel_rfl, by kernel_rfl, rfl, rfl⟩
instance : Sc Tryz.prog 92 := ⟨fun w => Tryz.isAgg92 w, fun w => Tryz.sizeOf92 w⟩
instance : Zr Tryz.prog 92 [.nilFunc] := ⟨_, fun w => Tryz.zeroValue92 w, rfl⟩
instance : Sc Tryz.prog 93 := ⟨fun w => Tryz.isAgg93 w, fun w => Tryz.sizeOf93 w⟩
instance : Zr Tryz.prog 93 [.nilFunc] := ⟨_, fun w => Tryz.zeroValue93 w, rfl⟩
instance : Sc Tryz.prog 94 := ⟨fun w => Tryz.isAgg94 w, fun w => Tryz.sizeOf94 w⟩
instance : Zr Tryz.prog 94 [.nilFunc] := ⟨_, fun w => Tryz.zeroValue94 w, rfl⟩
instance : Sc Tryz.prog 95 := ⟨fun w => Tryz.isAgg95 w, fun w => Tryz.sizeOf95 w⟩
instance : Zr Tryz.prog 95 [.nilFunc] := ⟨_, fun w => Tryz.zeroValue95 w, rfl⟩
instance : Sc Tryz.prog 96 := ⟨fun w => Tryz.isAgg96 w, fun w => Tryz.sizeOf96 w⟩
instance : Zr Tryz.prog 96 [(.int .u32 (0))] := ⟨_, fun w => Tryz.zeroValue96 w, rfl⟩
instance : Sc Tryz.prog 97 := ⟨fun w => Tryz.isAgg97 w, fun w => Tryz.sizeOf97 w⟩
instance : Zr Tryz.prog 97 [(.int .u32 (0))] := ⟨_, fun w => Tryz.zeroValue97 w, rfl⟩
instance : Sc Tryz.prog 98 := ⟨fun w => Tryz.isAgg98 w, fun w => Tryz.sizeOf98 w⟩
instance : Zr Tryz.prog 98 [.nilFunc] := ⟨_, fun w => Tryz.zeroValue98 w, rfl⟩
instance : Sc Tryz.prog 99 := ⟨fun w => Tryz.isAgg99 w, fun w => Tryz.sizeOf99 w⟩
instance : Zr Tryz.prog 99 [(.int .u64 (0))] := ⟨_, fun w => Tryz.zeroValue99 w, rfl⟩
instance : Sc Tryz.prog 100 := ⟨fun w => Tryz.isAgg100 w, fun w => Tryz.sizeOf100 w⟩
instance : Zr Tryz.prog 100 [.nilFunc] := ⟨_, fun w => Tryz.zeroValue100 w, rfl⟩
instance : Sc Tryz.prog 101 := ⟨fun w => Tryz.isAgg101 w, fun w => Tryz.sizeOf101 w⟩
instance : Zr Tryz.prog 101 [(.slice none 0 0)] := ⟨_, fun w => Tryz.zeroValue101 w, rfl⟩
instance : Sl Tryz.prog 101 2 16 := ⟨108, Tryz.t108, _, Tryz.underlying101, by kernel_rfl, rfl, rfl, rfl, rfl, by decide⟩
instance : SlZ Tryz.prog 101 [(.int .i64 (0)), (.int .i64 (0))] := ⟨fun {e i z} h1 h2 h3 => by
  rw [Tryz.underlying101] at h1; cases h1
  rw [show Tryz.prog.info? 108 = some Tryz.t108 by kernel_rfl] at h2; cases h2; cases h3; rfl⟩
instance : Sc Tryz.prog 102 := ⟨fun w => Tryz.isAgg102 w, fun w => Tryz.sizeOf102 w⟩
instance : Zr Tryz.prog 102 [.nilFunc] := ⟨_, fun w => Tryz.zeroValue102 w, rfl⟩
instance : Sc Tryz.prog 103 := ⟨fun w => Tryz.isAgg103 w, fun w => Tryz.sizeOf103 w⟩
instance : Zr Tryz.prog 103 [.nilFunc] := ⟨_, fun w => Tryz.zeroValue103 w, rfl⟩
instance : Sc Tryz.prog 104 := ⟨fun w => Tryz.isAgg104 w, fun w => Tryz.sizeOf104 w⟩
instance : Zr Tryz.prog 104 [.nilFunc] := ⟨_, fun w => Tryz.zeroValue104 w, rfl⟩
instance : Sc Tryz.prog 106 := ⟨fun w => Tryz.isAgg106 w, fun w => Tryz.sizeOf106 w⟩
instance : Zr Tryz.prog 106 [.nilFunc] := ⟨_, fun w => Tryz.zeroValue106 w, rfl⟩
instance : Ag Tryz.prog 107 2 := ⟨fun w => Tryz.isAgg107 w, fun w => Tryz.sizeOf107 w⟩
instance : Zr Tryz.prog 107 [(.int .i64 (0)), (.int .i64 (0))] := ⟨_, fun w => Tryz.zeroValue107 w, rfl⟩
instance : Fo Tryz.prog 107 0 0 := ⟨fun w a => by simp [Instr.fieldAt, Instr.sureAddr, fieldPlace]⟩
instance : Fo Tryz.prog 107 1 1 := ⟨fun w a => by simp [Instr.fieldAt, Instr.sureAddr, fieldPlace]⟩
instance : StT Tryz.prog 107 [(0, 1), (1, 1)] [(.int .i64 (0)), (.int .i64 (0))] := ⟨_, Tryz.t107, _, Tryz.underlying107, by kernel_rfl, by kernel_rfl, rfl, rfl⟩
instance : Ag Tryz.prog 108 2 := ⟨fun w => Tryz.isAgg108 w, fun w => Tryz.sizeOf108 w⟩
instance : Zr Tryz.prog 108 [(.int .i64 (0)), (.int .i64 (0))] := ⟨_, fun w => Tryz.zeroValue108 w, rfl⟩
instance : Fo Tryz.prog 108 0 0 := ⟨fun w a => by simp [Instr.fieldAt, Instr.sureAddr, fieldPlace]⟩
instance : Fo Tryz.prog 108 1 1 := ⟨fun w a => by simp [Instr.fieldAt, Instr.sureAddr, fieldPlace]⟩
instance : StT Tryz.prog 108 [(0, 1), (1, 1)] [(.int .i64 (0)), (.int .i64 (0))] := ⟨_, Tryz.t108, _, Tryz.underlying108, by kernel_rfl, by kernel_rfl, rfl, rfl⟩
instance : Sc Tryz.prog 109 := ⟨fun w => Tryz.isAgg109 w, fun w => Tryz.sizeOf109 w⟩
instance : Zr Tryz.prog 109 [.nilFunc] := ⟨_, fun w => Tryz.zeroValue109 w, rfl⟩
instance : Sc Tryz.prog 110 := ⟨fun w => Tryz.isAgg110 w, fun w => Tryz.sizeOf110 w⟩
instance : Zr Tryz.prog 110 [.nilFunc] := ⟨_, fun w => Tryz.zeroValue110 w, rfl⟩
instance : Sc Tryz.prog 111 := ⟨fun w => Tryz.isAgg111 w, fun w => Tryz.sizeOf111 w⟩
instance : Zr Tryz.prog 111 [.nilFunc] := ⟨_, fun w => Tryz.zeroValue111 w, rfl⟩
instance : Sc Tryz.prog 112 := ⟨fun w => Tryz.isAgg112 w, fun w => Tryz.sizeOf112 w⟩
instance : Zr Tryz.prog 112 [.nilFunc] := ⟨_, fun w => Tryz.zeroValue112 w, rfl⟩
instance : Sc Tryz.prog 113 := ⟨fun w => Tryz.isAgg113 w, fun w => Tryz.sizeOf113 w⟩
instance : Zr Tryz.prog 113 [.nilFunc] := ⟨_, fun w => Tryz.zeroValue113 w, rfl⟩
instance : Sc Tryz.prog 114 := ⟨fun w => Tryz.isAgg114 w, fun w => Tryz.sizeOf114 w⟩
instance : Zr Tryz.prog 114 [.nilFunc] := ⟨_, fun w => Tryz.zeroValue114 w, rfl⟩
instance : Sc Tryz.prog 115 := ⟨fun w => Tryz.isAgg115 w, fun w => Tryz.sizeOf115 w⟩
instance : Zr Tryz.prog 115 [.nilFunc] := ⟨_, fun w => Tryz.zeroValue115 w, rfl⟩
instance : Sc Tryz.prog 116 := ⟨fun w => Tryz.isAgg116 w, fun w => Tryz.sizeOf116 w⟩
instance : Zr Tryz.prog 116 [.nilFunc] := ⟨_, fun w => Tryz.zeroValue116 w, rfl⟩
instance : Sc Tryz.prog 117 := ⟨fun w => Tryz.isAgg117 w, fun w => Tryz.sizeOf117 w⟩
instance : Zr Tryz.prog 117 [.nilFunc] := ⟨_, fun w => Tryz.zeroValue117 w, rfl⟩
instance : Sc Tryz.prog 118 := ⟨fun w => Tryz.isAgg118 w, fun w => Tryz.sizeOf118 w⟩
instance : Zr Tryz.prog 118 [.nilFunc] := ⟨_, fun w => Tryz.zeroValue118 w, rfl⟩
instance : Sc Tryz.prog 119 := ⟨fun w => Tryz.isAgg119 w, fun w => Tryz.sizeOf119 w⟩
instance : Zr Tryz.prog 119 [.nilFunc] := ⟨_, fun w => Tryz.zeroValue119 w, rfl⟩
instance : Sc Tryz.prog 120 := ⟨fun w => Tryz.isAgg120 w, fun w => Tryz.sizeOf120 w⟩
instance : Zr Tryz.prog 120 [(.slice none 0 0)] := ⟨_, fun w => Tryz.zeroValue120 w, rfl⟩
instance : Sl Tryz.prog 120 1 24 := ⟨55, Tryz.t55, _, Tryz.underlying120, by kernel_rfl, rfl, rfl, rfl, rfl, by decide⟩
instance : SlZ Tryz.prog 120 [(.slice none 0 0)] := ⟨fun {e i z} h1 h2 h3 => by
  rw [Tryz.underlying120] at h1; cases h1
  rw [show Tryz.prog.info? 55 = some Tryz.t55 by kernel_rfl] at h2; cases h2; cases h3; rfl⟩
instance : Sc Tryz.prog 121 := ⟨fun w => Tryz.isAgg121 w, fun w => Tryz.sizeOf121 w⟩
instance : Zr Tryz.prog 121 [.nilFunc] := ⟨_, fun w => Tryz.zeroValue121 w, rfl⟩
instance : Sc Tryz.prog 122 := ⟨fun w => Tryz.isAgg122 w, fun w => Tryz.sizeOf122 w⟩
instance : Zr Tryz.prog 122 [.nilFunc] := ⟨_, fun w => Tryz.zeroValue122 w, rfl⟩
instance : Sc Tryz.prog 123 := ⟨fun w => Tryz.isAgg123 w, fun w => Tryz.sizeOf123 w⟩
instance : Zr Tryz.prog 123 [.nilFunc] := ⟨_, fun w => Tryz.zeroValue123 w, rfl⟩
instance : Sc Tryz.prog 124 := ⟨fun w => Tryz.isAgg124 w, fun w => Tryz.sizeOf124 w⟩
instance : Zr Tryz.prog 124 [.nilFunc] := ⟨_, fun w => Tryz.zeroValue124 w, rfl⟩
instance : Sc Tryz.prog 125 := ⟨fun w => Tryz.isAgg125 w, fun w => Tryz.sizeOf125 w⟩
instance : Zr Tryz.prog 125 [.nilFunc] := ⟨_, fun w => Tryz.zeroValue125 w, rfl⟩
instance : Ag Tryz.prog 126 2 := ⟨fun w => Tryz.isAgg126 w, fun w => Tryz.sizeOf126 w⟩
instance : Zr Tryz.prog 126 [(.slice none 0 0), (.slice none 0 0)] := ⟨_, fun w => Tryz.zeroValue126 w, rfl⟩
instance : Fo Tryz.prog 126 0 0 := ⟨fun w a => by simp [Instr.fieldAt, Instr.sureAddr, fieldPlace]⟩
instance : Fo Tryz.prog 126 1 1 := ⟨fun w a => by simp [Instr.fieldAt, Instr.sureAddr, fieldPlace]⟩
instance : StT Tryz.prog 126 [(0, 1), (1, 1)] [(.slice none 0 0), (.slice none 0 0)] := ⟨_, Tryz.t126, _, Tryz.underlying126, by kernel_rfl, by kernel_rfl, rfl, rfl⟩
instance : Ag Tryz.prog 127 2 := ⟨fun w => Tryz.isAgg127 w, fun w => Tryz.sizeOf127 w⟩
instance : Zr Tryz.prog 127 [(.slice none 0 0), (.slice none 0 0)] := ⟨_, fun w => Tryz.zeroValue127 w, rfl⟩
instance : Fo Tryz.prog 127 0 0 := ⟨fun w a => by simp [Instr.fieldAt, Instr.sureAddr, fieldPlace]⟩
instance : Fo Tryz.prog 127 1 1 := ⟨fun w a => by simp [Instr.fieldAt, Instr.sureAddr, fieldPlace]⟩
instance : StT Tryz.prog 127 [(0, 1), (1, 1)] [(.slice none 0 0), (.slice none 0 0)] := ⟨_, Tryz.t127, _, Tryz.underlying127, by kernel_rfl, by kernel_rfl, rfl, rfl⟩
instance : Sc Tryz.prog 128 := ⟨fun w => Tryz.isAgg128 w, fun w => Tryz.sizeOf128 w⟩
instance : Zr Tryz.prog 128 [.nilFunc] := ⟨_, fun w => Tryz.zeroValue128 w, rfl⟩
instance : Ag Tryz.prog 129 3 := ⟨fun w => Tryz.isAgg129 w, fun w => Tryz.sizeOf129 w⟩
instance : Zr Tryz.prog 129 [(.int .i64 (0)), (.slice none 0 0), (.slice none 0 0)] := ⟨_, fun w => Tryz.zeroValue129 w, rfl⟩
instance : Fo Tryz.prog 129 0 0 := ⟨fun w a => by simp [Instr.fieldAt, Instr.sureAddr, fieldPlace]⟩
instance : Fo Tryz.prog 129 1 1 := ⟨fun w a => by simp [Instr.fieldAt, Instr.sureAddr, fieldPlace]⟩
instance : Fo Tryz.prog 129 2 2 := ⟨fun w a => by simp [Instr.fieldAt, Instr.sureAddr, fieldPlace]⟩
instance : StT Tryz.prog 129 [(0, 1), (1, 1), (2, 1)] [(.int .i64 (0)), (.slice none 0 0), (.slice none 0 0)] := ⟨_, Tryz.t129, _, Tryz.underlying129, by kernel_rfl, by kernel_rfl, rfl, rfl⟩
instance : Ag Tryz.prog 130 3 := ⟨fun w => Tryz.isAgg130 w, fun w => Tryz.sizeOf130 w⟩
instance : Zr Tryz.prog 130 [(.int .i64 (0)), (.slice none 0 0), (.slice none 0 0)] := ⟨_, fun w => Tryz.zeroValue130 w, rfl⟩
instance : Fo Tryz.prog 130 0 0 := ⟨fun w a => by simp [Instr.fieldAt, Instr.sureAddr, fieldPlace]⟩
instance : Fo Tryz.prog 130 1 1 := ⟨fun w a => by simp [Instr.fieldAt, Instr.sureAddr, fieldPlace]⟩
instance : Fo Tryz.prog 130 2 2 := ⟨fun w a => by simp [Instr.fieldAt, Instr.sureAddr, fieldPlace]⟩
instance : StT Tryz.prog 130 [(0, 1), (1, 1), (2, 1)] [(.int .i64 (0)), (.slice none 0 0), (.slice none 0 0)] := ⟨_, Tryz.t130, _, Tryz.underlying130, by kernel_rfl, by kernel_rfl, rfl, rfl⟩
instance : Sc Tryz.prog 132 := ⟨fun w => Tryz.isAgg132 w, fun w => Tryz.sizeOf132 w⟩
instance : Zr Tryz.prog 132 [.nilFunc] := ⟨_, fun w => Tryz.zeroValue132 w, rfl⟩
instance : Sc Tryz.prog 133 := ⟨fun w => Tryz.isAgg133 w, fun w => Tryz.sizeOf133 w⟩
instance : Zr Tryz.prog 133 [(.slice none 0 0)] := ⟨_, fun w => Tryz.zeroValue133 w, rfl⟩
instance : Sl Tryz.prog 133 2 32 := ⟨141, Tryz.t141, _, Tryz.underlying133, by kernel_rfl, rfl, rfl, rfl, rfl, by decide⟩
instance : SlZ Tryz.prog 133 [(.int .i64 (0)), (.slice none 0 0)] := ⟨fun {e i z} h1 h2 h3 => by
  rw [Tryz.underlying133] at h1; cases h1
  rw [show Tryz.prog.info? 141 = some Tryz.t141 by kernel_rfl] at h2; cases h2; cases h3; rfl⟩
instance : Sc Tryz.prog 135 := ⟨fun w => Tryz.isAgg135 w, fun w => Tryz.sizeOf135 w⟩
instance : Zr Tryz.prog 135 [.nilFunc] := ⟨_, fun w => Tryz.zeroValue135 w, rfl⟩
instance : Sc Tryz.prog 136 := ⟨fun w => Tryz.isAgg136 w, fun w => Tryz.sizeOf136 w⟩
instance : Zr Tryz.prog 136 [(.slice none 0 0)] := ⟨_, fun w => Tryz.zeroValue136 w, rfl⟩
instance : Sl Tryz.prog 136 4 96 := ⟨186, Tryz.t186, _, Tryz.underlying136, by kernel_rfl, rfl, rfl, rfl, rfl, by decide⟩
instance : SlZ Tryz.prog 136 [(.slice none 0 0), (.slice none 0 0), (.slice none 0 0), (.slice none 0 0)] := ⟨fun {e i z} h1 h2 h3 => by
  rw [Tryz.underlying136] at h1; cases h1
  rw [show Tryz.prog.info? 186 = some Tryz.t186 by kernel_rfl] at h2; cases h2; cases h3; rfl⟩
instance : Sc Tryz.prog 138 := ⟨fun w => Tryz.isAgg138 w, fun w => Tryz.sizeOf138 w⟩
instance : Zr Tryz.prog 138 [.nilFunc] := ⟨_, fun w => Tryz.zeroValue138 w, rfl⟩
instance : Sc Tryz.prog 139 := ⟨fun w => Tryz.isAgg139 w, fun w => Tryz.sizeOf139 w⟩
instance : Zr Tryz.prog 139 [.nilFunc] := ⟨_, fun w => Tryz.zeroValue139 w, rfl⟩
instance : Ag Tryz.prog 140 2 := ⟨fun w => Tryz.isAgg140 w, fun w => Tryz.sizeOf140 w⟩
instance : Zr Tryz.prog 140 [(.int .i64 (0)), (.slice none 0 0)] := ⟨_, fun w => Tryz.zeroValue140 w, rfl⟩
instance : Fo Tryz.prog 140 0 0 := ⟨fun w a => by simp [Instr.fieldAt, Instr.sureAddr, fieldPlace]⟩
instance : Fo Tryz.prog 140 1 1 := ⟨fun w a => by simp [Instr.fieldAt, Instr.sureAddr, fieldPlace]⟩
instance : StT Tryz.prog 140 [(0, 1), (1, 1)] [(.int .i64 (0)), (.slice none 0 0)] := ⟨_, Tryz.t140, _, Tryz.underlying140, by kernel_rfl, by kernel_rfl, rfl, rfl⟩
instance : Ag Tryz.prog 141 2 := ⟨fun w => Tryz.isAgg141 w, fun w => Tryz.sizeOf141 w⟩
instance : Zr Tryz.prog 141 [(.int .i64 (0)), (.slice none 0 0)] := ⟨_, fun w => Tryz.zeroValue141 w, rfl⟩
instance : Fo Tryz.prog 141 0 0 := ⟨fun w a => by simp [Instr.fieldAt, Instr.sureAddr, fieldPlace]⟩
instance : Fo Tryz.prog 141 1 1 := ⟨fun w a => by simp [Instr.fieldAt, Instr.sureAddr, fieldPlace]⟩
instance : StT Tryz.prog 141 [(0, 1), (1, 1)] [(.int .i64 (0)), (.slice none 0 0)] := ⟨_, Tryz.t141, _, Tryz.underlying141, by kernel_rfl, by kernel_rfl, rfl, rfl⟩
instance : Sc Tryz.prog 142 := ⟨fun w => Tryz.isAgg142 w, fun w => Tryz.sizeOf142 w⟩
instance : Zr Tryz.prog 142 [.nilFunc] := ⟨_, fun w => Tryz.zeroValue142 w, rfl⟩
instance : Ag Tryz.prog 143 2 := ⟨fun w => Tryz.isAgg143 w, fun w => Tryz.sizeOf143 w⟩
instance : Zr Tryz.prog 143 [(.slice none 0 0), (.slice none 0 0)] := ⟨_, fun w => Tryz.zeroValue143 w, rfl⟩
instance : Fo Tryz.prog 143 0 0 := ⟨fun w a => by simp [Instr.fieldAt, Instr.sureAddr, fieldPlace]⟩
instance : Fo Tryz.prog 143 1 1 := ⟨fun w a => by simp [Instr.fieldAt, Instr.sureAddr, fieldPlace]⟩
instance : StT Tryz.prog 143 [(0, 1), (1, 1)] [(.slice none 0 0), (.slice none 0 0)] := ⟨_, Tryz.t143, _, Tryz.underlying143, by kernel_rfl, by kernel_rfl, rfl, rfl⟩
instance : Sc Tryz.prog 144 := ⟨fun w => Tryz.isAgg144 w, fun w => Tryz.sizeOf144 w⟩
instance : Zr Tryz.prog 144 [.nilFunc] := ⟨_, fun w => Tryz.zeroValue144 w, rfl⟩
instance : Sc Tryz.prog 145 := ⟨fun w => Tryz.isAgg145 w, fun w => Tryz.sizeOf145 w⟩
instance : Zr Tryz.prog 145 [.nilFunc] := ⟨_, fun w => Tryz.zeroValue145 w, rfl⟩
instance : Sc Tryz.prog 146 := ⟨fun w => Tryz.isAgg146 w, fun w => Tryz.sizeOf146 w⟩
instance : Zr Tryz.prog 146 [.nilFunc] := ⟨_, fun w => Tryz.zeroValue146 w, rfl⟩
instance : Sc Tryz.prog 147 := ⟨fun w => Tryz.isAgg147 w, fun w => Tryz.sizeOf147 w⟩
instance : Zr Tryz.prog 147 [.nilFunc] := ⟨_, fun w => Tryz.zeroValue147 w, rfl⟩
instance : Sc Tryz.prog 148 := ⟨fun w => Tryz.isAgg148 w, fun w => Tryz.sizeOf148 w⟩
instance : Zr Tryz.prog 148 [.nilFunc] := ⟨_, fun w => Tryz.zeroValue148 w, rfl⟩
instance : Sc Tryz.prog 149 := ⟨fun w => Tryz.isAgg149 w, fun w => Tryz.sizeOf149 w⟩
instance : Zr Tryz.prog 149 [.nilFunc] := ⟨_, fun w => Tryz.zeroValue149 w, rfl⟩
instance : Ag Tryz.prog 150 3 := ⟨fun w => Tryz.isAgg150 w, fun w => Tryz.sizeOf150 w⟩
instance : Zr Tryz.prog 150 [(.slice none 0 0), (.int .i64 (0)), (.int .i64 (0))] := ⟨_, fun w => Tryz.zeroValue150 w, rfl⟩
instance : Fo Tryz.prog 150 0 0 := ⟨fun w a => by simp [Instr.fieldAt, Instr.sureAddr, fieldPlace]⟩
instance : Fo Tryz.prog 150 1 1 := ⟨fun w a => by simp [Instr.fieldAt, Instr.sureAddr, fieldPlace]⟩
instance : Fo Tryz.prog 150 2 2 := ⟨fun w a => by simp [Instr.fieldAt, Instr.sureAddr, fieldPlace]⟩
instance : StT Tryz.prog 150 [(0, 1), (1, 1), (2, 1)] [(.slice none 0 0), (.int .i64 (0)), (.int .i64 (0))] := ⟨_, Tryz.t150, _, Tryz.underlying150, by kernel_rfl, by kernel_rfl, rfl, rfl⟩
instance : Ag Tryz.prog 151 3 := ⟨fun w => Tryz.isAgg151 w, fun w => Tryz.sizeOf151 w⟩
instance : Zr Tryz.prog 151 [(.slice none 0 0), (.int .i64 (0)), (.int .i64 (0))] := ⟨_, fun w => Tryz.zeroValue151 w, rfl⟩
instance : Fo Tryz.prog 151 0 0 := ⟨fun w a => by simp [Instr.fieldAt, Instr.sureAddr, fieldPlace]⟩
instance : Fo Tryz.prog 151 1 1 := ⟨fun w a => by simp [Instr.fieldAt, Instr.sureAddr, fieldPlace]⟩
instance : Fo Tryz.prog 151 2 2 := ⟨fun w a => by simp [Instr.fieldAt, Instr.sureAddr, fieldPlace]⟩
instance : StT Tryz.prog 151 [(0, 1), (1, 1), (2, 1)] [(.slice none 0 0), (.int .i64 (0)), (.int .i64 (0))] := ⟨_, Tryz.t151, _, Tryz.underlying151, by kernel_rfl, by kernel_rfl, rfl, rfl⟩
instance : Sc Tryz.prog 152 := ⟨fun w => Tryz.isAgg152 w, fun w => Tryz.sizeOf152 w⟩
instance : Zr Tryz.prog 152 [.nilFunc] := ⟨_, fun w => Tryz.zeroValue152 w, rfl⟩
instance : Sc Tryz.prog 153 := ⟨fun w => Tryz.isAgg153 w, fun w => Tryz.sizeOf153 w⟩
instance : Zr Tryz.prog 153 [.nilFunc] := ⟨_, fun w => Tryz.zeroValue153 w, rfl⟩
instance : Sc Tryz.prog 154 := ⟨fun w => Tryz.isAgg154 w, fun w => Tryz.sizeOf154 w⟩
instance : Zr Tryz.prog 154 [.nilFunc] := ⟨_, fun w => Tryz.zeroValue154 w, rfl⟩
instance : Sc Tryz.prog 155 := ⟨fun w => Tryz.isAgg155 w, fun w => Tryz.sizeOf155 w⟩
instance : Zr Tryz.prog 155 [.nilFunc] := ⟨_, fun w => Tryz.zeroValue155 w, rfl⟩
instance : Sc Tryz.prog 156 := ⟨fun w => Tryz.isAgg156 w, fun w => Tryz.sizeOf156 w⟩
instance : Zr Tryz.prog 156 [.nilFunc] := ⟨_, fun w => Tryz.zeroValue156 w, rfl⟩
instance : Sc Tryz.prog 157 := ⟨fun w => Tryz.isAgg157 w, fun w => Tryz.sizeOf157 w⟩
instance : Zr Tryz.prog 157 [.nilFunc] := ⟨_, fun w => Tryz.zeroValue157 w, rfl⟩
instance : Sc Tryz.prog 158 := ⟨fun w => Tryz.isAgg158 w, fun w => Tryz.sizeOf158 w⟩
instance : Zr Tryz.prog 158 [.nilFunc] := ⟨_, fun w => Tryz.zeroValue158 w, rfl⟩
instance : Sc Tryz.prog 159 := ⟨fun w => Tryz.isAgg159 w, fun w => Tryz.sizeOf159 w⟩
instance : Zr Tryz.prog 159 [.nilFunc] := ⟨_, fun w => Tryz.zeroValue159 w, rfl⟩
instance : Sc Tryz.prog 160 := ⟨fun w => Tryz.isAgg160 w, fun w => Tryz.sizeOf160 w⟩
instance : Zr Tryz.prog 160 [.nilFunc] := ⟨_, fun w => Tryz.zeroValue160 w, rfl⟩
instance : Sc Tryz.prog 161 := ⟨fun w => Tryz.isAgg161 w, fun w => Tryz.sizeOf161 w⟩
instance : Zr Tryz.prog 161 [(.slice none 0 0)] := ⟨_, fun w => Tryz.zeroValue161 w, rfl⟩
instance : Sl Tryz.prog 161 1 4 := ⟨97, Tryz.t97, _, Tryz.underlying161, by kernel_rfl, rfl, rfl, rfl, rfl, by decide⟩
instance : SlZ Tryz.prog 161 [(.int .u32 (0))] := ⟨fun {e i z} h1 h2 h3 => by
  rw [Tryz.underlying161] at h1; cases h1
  rw [show Tryz.prog.info? 97 = some Tryz.t97 by kernel_rfl] at h2; cases h2; cases h3; rfl⟩
instance : Sc Tryz.prog 163 := ⟨fun w => Tryz.isAgg163 w, fun w => Tryz.sizeOf163 w⟩
instance : Zr Tryz.prog 163 [.nilFunc] := ⟨_, fun w => Tryz.zeroValue163 w, rfl⟩
instance : Sc Tryz.prog 164 := ⟨fun w => Tryz.isAgg164 w, fun w => Tryz.sizeOf164 w⟩
instance : Zr Tryz.prog 164 [.nilFunc] := ⟨_, fun w => Tryz.zeroValue164 w, rfl⟩
instance : Sc Tryz.prog 165 := ⟨fun w => Tryz.isAgg165 w, fun w => Tryz.sizeOf165 w⟩
instance : Zr Tryz.prog 165 [.nilFunc] := ⟨_, fun w => Tryz.zeroValue165 w, rfl⟩
instance : Sc Tryz.prog 166 := ⟨fun w => Tryz.isAgg166 w, fun w => Tryz.sizeOf166 w⟩
instance : Zr Tryz.prog 166 [.nilFunc] := ⟨_, fun w => Tryz.zeroValue166 w, rfl⟩
instance : Sc Tryz.prog 167 := ⟨fun w => Tryz.isAgg167 w, fun w => Tryz.sizeOf167 w⟩
instance : Zr Tryz.prog 167 [.nilFunc] := ⟨_, fun w => Tryz.zeroValue167 w, rfl⟩
instance : Sc Tryz.prog 168 := ⟨fun w => Tryz.isAgg168 w, fun w => Tryz.sizeOf168 w⟩
instance : Zr Tryz.prog 168 [.nilFunc] := ⟨_, fun w => Tryz.zeroValue168 w, rfl⟩
instance : Sc Tryz.prog 169 := ⟨fun w => Tryz.isAgg169 w, fun w => Tryz.sizeOf169 w⟩
instance : Zr Tryz.prog 169 [.nilFunc] := ⟨_, fun w => Tryz.zeroValue169 w, rfl⟩
instance : Sc Tryz.prog 170 := ⟨fun w => Tryz.isAgg170 w, fun w => Tryz.sizeOf170 w⟩
instance : Zr Tryz.prog 170 [.nilFunc] := ⟨_, fun w => Tryz.zeroValue170 w, rfl⟩
instance : Sc Tryz.prog 171 := ⟨fun w => Tryz.isAgg171 w, fun w => Tryz.sizeOf171 w⟩
instance : Zr Tryz.prog 171 [.nilFunc] := ⟨_, fun w => Tryz.zeroValue171 w, rfl⟩
instance : Sc Tryz.prog 172 := ⟨fun w => Tryz.isAgg172 w, fun w => Tryz.sizeOf172 w⟩
instance : Zr Tryz.prog 172 [.nilFunc] := ⟨_, fun w => Tryz.zeroValue172 w, rfl⟩
instance : Sc Tryz.prog 174 := ⟨fun w => Tryz.isAgg174 w, fun w => Tryz.sizeOf174 w⟩
instance : Zr Tryz.prog 174 [.nilFunc] := ⟨_, fun w => Tryz.zeroValue174 w, rfl⟩
instance : Sc Tryz.prog 175 := ⟨fun w => Tryz.isAgg175 w, fun w => Tryz.sizeOf175 w⟩
instance : Zr Tryz.prog 175 [.nilFunc] := ⟨_, fun w => Tryz.zeroValue175 w, rfl⟩
instance : Sc Tryz.prog 176 := ⟨fun w => Tryz.isAgg176 w, fun w => Tryz.sizeOf176 w⟩
instance : Zr Tryz.prog 176 [.nilFunc] := ⟨_, fun w => Tryz.zeroValue176 w, rfl⟩
instance : Sc Tryz.prog 177 := ⟨fun w => Tryz.isAgg177 w, fun w => Tryz.sizeOf177 w⟩
instance : Zr Tryz.prog 177 [.nilFunc] := ⟨_, fun w => Tryz.zeroValue177 w, rfl⟩
instance : Sc Tryz.prog 178 := ⟨fun w => Tryz.isAgg178 w, fun w => Tryz.sizeOf178 w⟩
instance : Zr Tryz.prog 178 [.nilFunc] := ⟨_, fun w => Tryz.zeroValue178 w, rfl⟩
instance : Sc Tryz.prog 179 := ⟨fun w => Tryz.isAgg179 w, fun w => Tryz.sizeOf179 w⟩
instance : Zr Tryz.prog 179 [.nilFunc] := ⟨_, fun w => Tryz.zeroValue179 w, rfl⟩
instance : Sc Tryz.prog 180 := ⟨fun w => Tryz.isAgg180 w, fun w => Tryz.sizeOf180 w⟩
instance : Zr Tryz.prog 180 [(.slice none 0 0)] := ⟨_, fun w => Tryz.zeroValue180 w, rfl⟩
instance : Sl Tryz.prog 180 4 64 := ⟨236, Tryz.t236, _, Tryz.underlying180, by kernel_rfl, rfl, rfl, rfl, rfl, by decide⟩
instance : SlZ Tryz.prog 180 [(.slice none 0 0), (.slice none 0 0), (.int .i64 (0)), (.int .i64 (0))] := ⟨fun {e i z} h1 h2 h3 => by
  rw [Tryz.underlying180] at h1; cases h1
  rw [show Tryz.prog.info? 236 = some Tryz.t236 by kernel_rfl] at h2; cases h2; cases h3; rfl⟩
instance : Sc Tryz.prog 182 := ⟨fun w => Tryz.isAgg182 w, fun w => Tryz.sizeOf182 w⟩
instance : Zr Tryz.prog 182 [.nilFunc] := ⟨_, fun w => Tryz.zeroValue182 w, rfl⟩
instance : Sc Tryz.prog 183 := ⟨fun w => Tryz.isAgg183 w, fun w => Tryz.sizeOf183 w⟩
instance : Zr Tryz.prog 183 [.nilFunc] := ⟨_, fun w => Tryz.zeroValue183 w, rfl⟩
instance : Sc Tryz.prog 184 := ⟨fun w => Tryz.isAgg184 w, fun w => Tryz.sizeOf184 w⟩
instance : Zr Tryz.prog 184 [.nilFunc] := ⟨_, fun w => Tryz.zeroValue184 w, rfl⟩
instance : Ag Tryz.prog 185 4 := ⟨fun w => Tryz.isAgg185 w, fun w => Tryz.sizeOf185 w⟩
instance : Zr Tryz.prog 185 [(.slice none 0 0), (.slice none 0 0), (.slice none 0 0), (.slice none 0 0)] := ⟨_, fun w => Tryz.zeroValue185 w, rfl⟩
instance : Fo Tryz.prog 185 0 0 := ⟨fun w a => by simp [Instr.fieldAt, Instr.sureAddr, fieldPlace]⟩
instance : Fo Tryz.prog 185 1 1 := ⟨fun w a => by simp [Instr.fieldAt, Instr.sureAddr, fieldPlace]⟩
instance : Fo Tryz.prog 185 2 2 := ⟨fun w a => by simp [Instr.fieldAt, Instr.sureAddr, fieldPlace]⟩
instance : Fo Tryz.prog 185 3 3 := ⟨fun w a => by simp [Instr.fieldAt, Instr.sureAddr, fieldPlace]⟩
instance : StT Tryz.prog 185 [(0, 1), (1, 1), (2, 1), (3, 1)] [(.slice none 0 0), (.slice none 0 0), (.slice none 0 0), (.slice none 0 0)] := ⟨_, Tryz.t185, _, Tryz.underlying185, by kernel_rfl, by kernel_rfl, rfl, rfl⟩
instance : Ag Tryz.prog 186 4 := ⟨fun w => Tryz.isAgg186 w, fun w => Tryz.sizeOf186 w⟩
instance : Zr Tryz.prog 186 [(.slice none 0 0), (.slice none 0 0), (.slice none 0 0), (.slice none 0 0)] := ⟨_, fun w => Tryz.zeroValue186 w, rfl⟩
instance : Fo Tryz.prog 186 0 0 := ⟨fun w a => by simp [Instr.fieldAt, Instr.sureAddr, fieldPlace]⟩
instance : Fo Tryz.prog 186 1 1 := ⟨fun w a => by simp [Instr.fieldAt, Instr.sureAddr, fieldPlace]⟩
instance : Fo Tryz.prog 186 2 2 := ⟨fun w a => by simp [Instr.fieldAt, Instr.sureAddr, fieldPlace]⟩
instance : Fo Tryz.prog 186 3 3 := ⟨fun w a => by simp [Instr.fieldAt, Instr.sureAddr, fieldPlace]⟩
instance : StT Tryz.prog 186 [(0, 1), (1, 1), (2, 1), (3, 1)] [(.slice none 0 0), (.slice none 0 0), (.slice none 0 0), (.slice none 0 0)] := ⟨_, Tryz.t186, _, Tryz.underlying186, by kernel_rfl, by kernel_rfl, rfl, rfl⟩
instance : Sc Tryz.prog 188 := ⟨fun w => Tryz.isAgg188 w, fun w => Tryz.sizeOf188 w⟩
instance : Zr Tryz.prog 188 [.nilFunc] := ⟨_, fun w => Tryz.zeroValue188 w, rfl⟩
instance : Sc Tryz.prog 189 := ⟨fun w => Tryz.isAgg189 w, fun w => Tryz.sizeOf189 w⟩
instance : Zr Tryz.prog 189 [.nilFunc] := ⟨_, fun w => Tryz.zeroValue189 w, rfl⟩
instance : Sc Tryz.prog 190 := ⟨fun w => Tryz.isAgg190 w, fun w => Tryz.sizeOf190 w⟩
instance : Zr Tryz.prog 190 [.nilFunc] := ⟨_, fun w => Tryz.zeroValue190 w, rfl⟩
instance : Sc Tryz.prog 191 := ⟨fun w => Tryz.isAgg191 w, fun w => Tryz.sizeOf191 w⟩
instance : Zr Tryz.prog 191 [.nilFunc] := ⟨_, fun w => Tryz.zeroValue191 w, rfl⟩
instance : Sc Tryz.prog 192 := ⟨fun w => Tryz.isAgg192 w, fun w => Tryz.sizeOf192 w⟩
instance : Zr Tryz.prog 192 [.nilFunc] := ⟨_, fun w => Tryz.zeroValue192 w, rfl⟩
instance : Sc Tryz.prog 193 := ⟨fun w => Tryz.isAgg193 w, fun w => Tryz.sizeOf193 w⟩
instance : Zr Tryz.prog 193 [.nilFunc] := ⟨_, fun w => Tryz.zeroValue193 w, rfl⟩
instance : Sc Tryz.prog 194 := ⟨fun w => Tryz.isAgg194 w, fun w => Tryz.sizeOf194 w⟩
instance : Zr Tryz.prog 194 [.nilFunc] := ⟨_, fun w => Tryz.zeroValue194 w, rfl⟩
instance : Sc Tryz.prog 197 := ⟨fun w => Tryz.isAgg197 w, fun w => Tryz.sizeOf197 w⟩
instance : Zr Tryz.prog 197 [.nilFunc] := ⟨_, fun w => Tryz.zeroValue197 w, rfl⟩
instance : Sc Tryz.prog 198 := ⟨fun w => Tryz.isAgg198 w, fun w => Tryz.sizeOf198 w⟩
instance : Zr Tryz.prog 198 [.nilFunc] := ⟨_, fun w => Tryz.zeroValue198 w, rfl⟩
instance : Sc Tryz.prog 199 := ⟨fun w => Tryz.isAgg199 w, fun w => Tryz.sizeOf199 w⟩
instance : Zr Tryz.prog 199 [.nilFunc] := ⟨_, fun w => Tryz.zeroValue199 w, rfl⟩
instance : Sc Tryz.prog 200 := ⟨fun w => Tryz.isAgg200 w, fun w => Tryz.sizeOf200 w⟩
instance : Zr Tryz.prog 200 [.nilFunc] := ⟨_, fun w => Tryz.zeroValue200 w, rfl⟩
instance : Sc Tryz.prog 201 := ⟨fun w => Tryz.isAgg201 w, fun w => Tryz.sizeOf201 w⟩
instance : Zr Tryz.prog 201 [.nilFunc] := ⟨_, fun w => Tryz.zeroValue201 w, rfl⟩
instance : Sc Tryz.prog 203 := ⟨fun w => Tryz.isAgg203 w, fun w => Tryz.sizeOf203 w⟩
instance : Zr Tryz.prog 203 [.nilFunc] := ⟨_, fun w => Tryz.zeroValue203 w, rfl⟩
instance : Sc Tryz.prog 204 := ⟨fun w => Tryz.isAgg204 w, fun w => Tryz.sizeOf204 w⟩
instance : Zr Tryz.prog 204 [.nilFunc] := ⟨_, fun w => Tryz.zeroValue204 w, rfl⟩
instance : Sc Tryz.prog 205 := ⟨fun w => Tryz.isAgg205 w, fun w => Tryz.sizeOf205 w⟩
instance : Zr Tryz.prog 205 [.nilFunc] := ⟨_, fun w => Tryz.zeroValue205 w, rfl⟩
instance : Sc Tryz.prog 206 := ⟨fun w => Tryz.isAgg206 w, fun w => Tryz.sizeOf206 w⟩
instance : Zr Tryz.prog 206 [.nilFunc] := ⟨_, fun w => Tryz.zeroValue206 w, rfl⟩
instance : Sc Tryz.prog 207 := ⟨fun w => Tryz.isAgg207 w, fun w => Tryz.sizeOf207 w⟩
instance : Zr Tryz.prog 207 [.nilFunc] := ⟨_, fun w => Tryz.zeroValue207 w, rfl⟩
instance : Sc Tryz.prog 208 := ⟨fun w => Tryz.isAgg208 w, fun w => Tryz.sizeOf208 w⟩
instance : Zr Tryz.prog 208 [.nilFunc] := ⟨_, fun w => Tryz.zeroValue208 w, rfl⟩
instance : Sc Tryz.prog 209 := ⟨fun w => Tryz.isAgg209 w, fun w => Tryz.sizeOf209 w⟩
instance : Zr Tryz.prog 209 [.nilFunc] := ⟨_, fun w => Tryz.zeroValue209 w, rfl⟩
instance : Sc Tryz.prog 210 := ⟨fun w => Tryz.isAgg210 w, fun w => Tryz.sizeOf210 w⟩
instance : Zr Tryz.prog 210 [.nilFunc] := ⟨_, fun w => Tryz.zeroValue210 w, rfl⟩
instance : Sc Tryz.prog 211 := ⟨fun w => Tryz.isAgg211 w, fun w => Tryz.sizeOf211 w⟩
instance : Zr Tryz.prog 211 [.nilFunc] := ⟨_, fun w => Tryz.zeroValue211 w, rfl⟩
instance : Sc Tryz.prog 212 := ⟨fun w => Tryz.isAgg212 w, fun w => Tryz.sizeOf212 w⟩
instance : Zr Tryz.prog 212 [.nilFunc] := ⟨_, fun w => Tryz.zeroValue212 w, rfl⟩
instance : Sc Tryz.prog 213 := ⟨fun w => Tryz.isAgg213 w, fun w => Tryz.sizeOf213 w⟩
instance : Zr Tryz.prog 213 [.nilFunc] := ⟨_, fun w => Tryz.zeroValue213 w, rfl⟩
instance : Sc Tryz.prog 214 := ⟨fun w => Tryz.isAgg214 w, fun w => Tryz.sizeOf214 w⟩
instance : Zr Tryz.prog 214 [.nilFunc] := ⟨_, fun w => Tryz.zeroValue214 w, rfl⟩
instance : Sc Tryz.prog 215 := ⟨fun w => Tryz.isAgg215 w, fun w => Tryz.sizeOf215 w⟩
instance : Zr Tryz.prog 215 [(.int .i64 (0))] := ⟨_, fun w => Tryz.zeroValue215 w, rfl⟩
instance : I64T Tryz.prog 215 := ⟨Tryz.underlying215⟩
instance : Sc Tryz.prog 217 := ⟨fun w => Tryz.isAgg217 w, fun w => Tryz.sizeOf217 w⟩
instance : Zr Tryz.prog 217 [.nilFunc] := ⟨_, fun w => Tryz.zeroValue217 w, rfl⟩
instance : Sc Tryz.prog 218 := ⟨fun w => Tryz.isAgg218 w, fun w => Tryz.sizeOf218 w⟩
instance : Zr Tryz.prog 218 [.nilFunc] := ⟨_, fun w => Tryz.zeroValue218 w, rfl⟩
instance : Sc Tryz.prog 219 := ⟨fun w => Tryz.isAgg219 w, fun w => Tryz.sizeOf219 w⟩
instance : Zr Tryz.prog 219 [.nilFunc] := ⟨_, fun w => Tryz.zeroValue219 w, rfl⟩
instance : Sc Tryz.prog 221 := ⟨fun w => Tryz.isAgg221 w, fun w => Tryz.sizeOf221 w⟩
instance : Zr Tryz.prog 221 [.nilFunc] := ⟨_, fun w => Tryz.zeroValue221 w, rfl⟩
instance : Sc Tryz.prog 222 := ⟨fun w => Tryz.isAgg222 w, fun w => Tryz.sizeOf222 w⟩
instance : Zr Tryz.prog 222 [.nilFunc] := ⟨_, fun w => Tryz.zeroValue222 w, rfl⟩
instance : Sc Tryz.prog 223 := ⟨fun w => Tryz.isAgg223 w, fun w => Tryz.sizeOf223 w⟩
instance : Zr Tryz.prog 223 [.nilFunc] := ⟨_, fun w => Tryz.zeroValue223 w, rfl⟩
instance : Sc Tryz.prog 224 := ⟨fun w => Tryz.isAgg224 w, fun w => Tryz.sizeOf224 w⟩
instance : Zr Tryz.prog 224 [(.int .u64 (0))] := ⟨_, fun w => Tryz.zeroValue224 w, rfl⟩
instance : Sc Tryz.prog 225 := ⟨fun w => Tryz.isAgg225 w, fun w => Tryz.sizeOf225 w⟩
instance : Zr Tryz.prog 225 [(.map none)] := ⟨_, fun w => Tryz.zeroValue225 w, rfl⟩
instance : Sc Tryz.prog 226 := ⟨fun w => Tryz.isAgg226 w, fun w => Tryz.sizeOf226 w⟩
instance : Zr Tryz.prog 226 [.nilFunc] := ⟨_, fun w => Tryz.zeroValue226 w, rfl⟩
instance : Sc Tryz.prog 227 := ⟨fun w => Tryz.isAgg227 w, fun w => Tryz.sizeOf227 w⟩
instance : Zr Tryz.prog 227 [.nilFunc] := ⟨_, fun w => Tryz.zeroValue227 w, rfl⟩
instance : Sc Tryz.prog 228 := ⟨fun w => Tryz.isAgg228 w, fun w => Tryz.sizeOf228 w⟩
instance : Zr Tryz.prog 228 [.nilFunc] := ⟨_, fun w => Tryz.zeroValue228 w, rfl⟩
instance : Sc Tryz.prog 229 := ⟨fun w => Tryz.isAgg229 w, fun w => Tryz.sizeOf229 w⟩
instance : Zr Tryz.prog 229 [.nilFunc] := ⟨_, fun w => Tryz.zeroValue229 w, rfl⟩
instance : Sc Tryz.prog 230 := ⟨fun w => Tryz.isAgg230 w, fun w => Tryz.sizeOf230 w⟩
instance : Zr Tryz.prog 230 [(.slice none 0 0)] := ⟨_, fun w => Tryz.zeroValue230 w, rfl⟩
instance : Sl Tryz.prog 230 1 8 := ⟨3, Tryz.t3, _, Tryz.underlying230, by kernel_rfl, rfl, rfl, rfl, rfl, by decide⟩
instance : SlZ Tryz.prog 230 [(.int .i64 (0))] := ⟨fun {e i z} h1 h2 h3 => by
  rw [Tryz.underlying230] at h1; cases h1
  rw [show Tryz.prog.info? 3 = some Tryz.t3 by kernel_rfl] at h2; cases h2; cases h3; rfl⟩
instance : Sc Tryz.prog 231 := ⟨fun w => Tryz.isAgg231 w, fun w => Tryz.sizeOf231 w⟩
instance : Zr Tryz.prog 231 [.nilFunc] := ⟨_, fun w => Tryz.zeroValue231 w, rfl⟩
instance : Sc Tryz.prog 232 := ⟨fun w => Tryz.isAgg232 w, fun w => Tryz.sizeOf232 w⟩
instance : Zr Tryz.prog 232 [.nilFunc] := ⟨_, fun w => Tryz.zeroValue232 w, rfl⟩
instance : Sc Tryz.prog 233 := ⟨fun w => Tryz.isAgg233 w, fun w => Tryz.sizeOf233 w⟩
instance : Zr Tryz.prog 233 [.nilFunc] := ⟨_, fun w => Tryz.zeroValue233 w, rfl⟩
instance : Sc Tryz.prog 234 := ⟨fun w => Tryz.isAgg234 w, fun w => Tryz.sizeOf234 w⟩
instance : Zr Tryz.prog 234 [.nilFunc] := ⟨_, fun w => Tryz.zeroValue234 w, rfl⟩
instance : Ag Tryz.prog 235 4 := ⟨fun w => Tryz.isAgg235 w, fun w => Tryz.sizeOf235 w⟩
instance : Zr Tryz.prog 235 [(.slice none 0 0), (.slice none 0 0), (.int .i64 (0)), (.int .i64 (0))] := ⟨_, fun w => Tryz.zeroValue235 w, rfl⟩
instance : Fo Tryz.prog 235 0 0 := ⟨fun w a => by simp [Instr.fieldAt, Instr.sureAddr, fieldPlace]⟩
instance : Fo Tryz.prog 235 1 1 := ⟨fun w a => by simp [Instr.fieldAt, Instr.sureAddr, fieldPlace]⟩
instance : Fo Tryz.prog 235 2 2 := ⟨fun w a => by simp [Instr.fieldAt, Instr.sureAddr, fieldPlace]⟩
instance : Fo Tryz.prog 235 3 3 := ⟨fun w a => by simp [Instr.fieldAt, Instr.sureAddr, fieldPlace]⟩
instance : StT Tryz.prog 235 [(0, 1), (1, 1), (2, 1), (3, 1)] [(.slice none 0 0), (.slice none 0 0), (.int .i64 (0)), (.int .i64 (0))] := ⟨_, Tryz.t235, _, Tryz.underlying235, by kernel_rfl, by kernel_rfl, rfl, rfl⟩
instance : Ag Tryz.prog 236 4 := ⟨fun w => Tryz.isAgg236 w, fun w => Tryz.sizeOf236 w⟩
instance : Zr Tryz.prog 236 [(.slice none 0 0), (.slice none 0 0), (.int .i64 (0)), (.int .i64 (0))] := ⟨_, fun w => Tryz.zeroValue236 w, rfl⟩
instance : Fo Tryz.prog 236 0 0 := ⟨fun w a => by simp [Instr.fieldAt, Instr.sureAddr, fieldPlace]⟩
instance : Fo Tryz.prog 236 1 1 := ⟨fun w a => by simp [Instr.fieldAt, Instr.sureAddr, fieldPlace]⟩
instance : Fo Tryz.prog 236 2 2 := ⟨fun w a => by simp [Instr.fieldAt, Instr.sureAddr, fieldPlace]⟩
instance : Fo Tryz.prog 236 3 3 := ⟨fun w a => by simp [Instr.fieldAt, Instr.sureAddr, fieldPlace]⟩
instance : StT Tryz.prog 236 [(0, 1), (1, 1), (2, 1), (3, 1)] [(.slice none 0 0), (.slice none 0 0), (.int .i64 (0)), (.int .i64 (0))] := ⟨_, Tryz.t236, _, Tryz.underlying236, by kernel_rfl, by kernel_rfl, rfl, rfl⟩
instance : Sc Tryz.prog 238 := ⟨fun w => Tryz.isAgg238 w, fun w => Tryz.sizeOf238 w⟩
instance : Zr Tryz.prog 238 [.nilFunc] := ⟨_, fun w => Tryz.zeroValue238 w, rfl⟩
instance : Sc Tryz.prog 239 := ⟨fun w => Tryz.isAgg239 w, fun w => Tryz.sizeOf239 w⟩
instance : Zr Tryz.prog 239 [.nilFunc] := ⟨_, fun w => Tryz.zeroValue239 w, rfl⟩
instance : Sc Tryz.prog 240 := ⟨fun w => Tryz.isAgg240 w, fun w => Tryz.sizeOf240 w⟩
instance : Zr Tryz.prog 240 [.nilFunc] := ⟨_, fun w => Tryz.zeroValue240 w, rfl⟩
instance : Sc Tryz.prog 241 := ⟨fun w => Tryz.isAgg241 w, fun w => Tryz.sizeOf241 w⟩
instance : Zr Tryz.prog 241 [.nilFunc] := ⟨_, fun w => Tryz.zeroValue241 w, rfl⟩
instance : Sc Tryz.prog 242 := ⟨fun w => Tryz.isAgg242 w, fun w => Tryz.sizeOf242 w⟩
instance : Zr Tryz.prog 242 [.nilFunc] := ⟨_, fun w => Tryz.zeroValue242 w, rfl⟩
instance : Sc Tryz.prog 243 := ⟨fun w => Tryz.isAgg243 w, fun w => Tryz.sizeOf243 w⟩
instance : Zr Tryz.prog 243 [.nilFunc] := ⟨_, fun w => Tryz.zeroValue243 w, rfl⟩
instance : Sc Tryz.prog 244 := ⟨fun w => Tryz.isAgg244 w, fun w => Tryz.sizeOf244 w⟩
instance : Zr Tryz.prog 244 [.nilFunc] := ⟨_, fun w => Tryz.zeroValue244 w, rfl⟩
instance : Sc Tryz.prog 245 := ⟨fun w => Tryz.isAgg245 w, fun w => Tryz.sizeOf245 w⟩
instance : Zr Tryz.prog 245 [.nilFunc] := ⟨_, fun w => Tryz.zeroValue245 w, rfl⟩
instance : Sc Tryz.prog 246 := ⟨fun w => Tryz.isAgg246 w, fun w => Tryz.sizeOf246 w⟩
instance : Zr Tryz.prog 246 [.nilFunc] := ⟨_, fun w => Tryz.zeroValue246 w, rfl⟩
instance : Sc Tryz.prog 247 := ⟨fun w => Tryz.isAgg247 w, fun w => Tryz.sizeOf247 w⟩
instance : Zr Tryz.prog 247 [.nilIface] := ⟨_, fun w => Tryz.zeroValue247 w, rfl⟩
instance : Sc Tryz.prog 248 := ⟨fun w => Tryz.isAgg248 w, fun w => Tryz.sizeOf248 w⟩
instance : Zr Tryz.prog 248 [.nilIface] := ⟨_, fun w => Tryz.zeroValue248 w, rfl⟩
instance : Sc Tryz.prog 250 := ⟨fun w => Tryz.isAgg250 w, fun w => Tryz.sizeOf250 w⟩
instance : Zr Tryz.prog 250 [.nilFunc] := ⟨_, fun w => Tryz.zeroValue250 w, rfl⟩
instance : Sc Tryz.prog 251 := ⟨fun w => Tryz.isAgg251 w, fun w => Tryz.sizeOf251 w⟩
instance : Zr Tryz.prog 251 [.nilFunc] := ⟨_, fun w => Tryz.zeroValue251 w, rfl⟩
instance : Sc Tryz.prog 252 := ⟨fun w => Tryz.isAgg252 w, fun w => Tryz.sizeOf252 w⟩
instance : Zr Tryz.prog 252 [.nilFunc] := ⟨_, fun w => Tryz.zeroValue252 w, rfl⟩
instance : Sc Tryz.prog 253 := ⟨fun w => Tryz.isAgg253 w, fun w => Tryz.sizeOf253 w⟩
instance : Zr Tryz.prog 253 [.nilFunc] := ⟨_, fun w => Tryz.zeroValue253 w, rfl⟩
instance : Sc Tryz.prog 255 := ⟨fun w => Tryz.isAgg255 w, fun w => Tryz.sizeOf255 w⟩
instance : Zr Tryz.prog 255 [.nilFunc] := ⟨_, fun w => Tryz.zeroValue255 w, rfl⟩
instance : Sc Tryz.prog 256 := ⟨fun w => Tryz.isAgg256 w, fun w => Tryz.sizeOf256 w⟩
instance : Zr Tryz.prog 256 [(.slice none 0 0)] := ⟨_, fun w => Tryz.zeroValue256 w, rfl⟩
instance : Sl Tryz.prog 256 1 24 := ⟨257, Tryz.t257, _, Tryz.underlying256, by kernel_rfl, rfl, rfl, rfl, rfl, by decide⟩
instance : SlZ Tryz.prog 256 [(.slice none 0 0)] := ⟨fun {e i z} h1 h2 h3 => by
  rw [Tryz.underlying256] at h1; cases h1
  rw [show Tryz.prog.info? 257 = some Tryz.t257 by kernel_rfl] at h2; cases h2; cases h3; rfl⟩
instance : Sc Tryz.prog 257 := ⟨fun w => Tryz.isAgg257 w, fun w => Tryz.sizeOf257 w⟩
instance : Zr Tryz.prog 257 [(.slice none 0 0)] := ⟨_, fun w => Tryz.zeroValue257 w, rfl⟩
instance : Sl Tryz.prog 257 1 1 := ⟨4, Tryz.t4, _, Tryz.underlying257, by kernel_rfl, rfl, rfl, rfl, rfl, by decide⟩
instance : SlZ Tryz.prog 257 [(.bool false)] := ⟨fun {e i z} h1 h2 h3 => by
  rw [Tryz.underlying257] at h1; cases h1
  rw [show Tryz.prog.info? 4 = some Tryz.t4 by kernel_rfl] at h2; cases h2; cases h3; rfl⟩
instance : Sc Tryz.prog 258 := ⟨fun w => Tryz.isAgg258 w, fun w => Tryz.sizeOf258 w⟩
instance : Zr Tryz.prog 258 [.nilFunc] := ⟨_, fun w => Tryz.zeroValue258 w, rfl⟩
instance : Sc Tryz.prog 259 := ⟨fun w => Tryz.isAgg259 w, fun w => Tryz.sizeOf259 w⟩
instance : Zr Tryz.prog 259 [.nilFunc] := ⟨_, fun w => Tryz.zeroValue259 w, rfl⟩
instance : Sc Tryz.prog 260 := ⟨fun w => Tryz.isAgg260 w, fun w => Tryz.sizeOf260 w⟩
instance : Zr Tryz.prog 260 [.nilFunc] := ⟨_, fun w => Tryz.zeroValue260 w, rfl⟩
instance : Sc Tryz.prog 261 := ⟨fun w => Tryz.isAgg261 w, fun w => Tryz.sizeOf261 w⟩
instance : Zr Tryz.prog 261 [.nilFunc] := ⟨_, fun w => Tryz.zeroValue261 w, rfl⟩
instance : Sc Tryz.prog 262 := ⟨fun w => Tryz.isAgg262 w, fun w => Tryz.sizeOf262 w⟩
instance : Zr Tryz.prog 262 [.nilFunc] := ⟨_, fun w => Tryz.zeroValue262 w, rfl⟩
instance : Sc Tryz.prog 263 := ⟨fun w => Tryz.isAgg263 w, fun w => Tryz.sizeOf263 w⟩
instance : Zr Tryz.prog 263 [(.int .u64 (0))] := ⟨_, fun w => Tryz.zeroValue263 w, rfl⟩
instance : Sc Tryz.prog 264 := ⟨fun w => Tryz.isAgg264 w, fun w => Tryz.sizeOf264 w⟩
instance : Zr Tryz.prog 264 [.nilFunc] := ⟨_, fun w => Tryz.zeroValue264 w, rfl⟩
instance : Sc Tryz.prog 265 := ⟨fun w => Tryz.isAgg265 w, fun w => Tryz.sizeOf265 w⟩
instance : Zr Tryz.prog 265 [.nilFunc] := ⟨_, fun w => Tryz.zeroValue265 w, rfl⟩
instance : Sc Tryz.prog 266 := ⟨fun w => Tryz.isAgg266 w, fun w => Tryz.sizeOf266 w⟩
instance : Zr Tryz.prog 266 [.nilFunc] := ⟨_, fun w => Tryz.zeroValue266 w, rfl⟩
instance : Sc Tryz.prog 267 := ⟨fun w => Tryz.isAgg267 w, fun w => Tryz.sizeOf267 w⟩
instance : Zr Tryz.prog 267 [(.pointer none)] := ⟨_, fun w => Tryz.zeroValue267 w, rfl⟩
instance : Sc Tryz.prog 268 := ⟨fun w => Tryz.isAgg268 w, fun w => Tryz.sizeOf268 w⟩
instance : Zr Tryz.prog 268 [.nilFunc] := ⟨_, fun w => Tryz.zeroValue268 w, rfl⟩
instance : Sc Tryz.prog 269 := ⟨fun w => Tryz.isAgg269 w, fun w => Tryz.sizeOf269 w⟩
instance : Zr Tryz.prog 269 [.nilFunc] := ⟨_, fun w => Tryz.zeroValue269 w, rfl⟩
instance : Ag Tryz.prog 270 3 := ⟨fun w => Tryz.isAgg270 w, fun w => Tryz.sizeOf270 w⟩
instance : Zr Tryz.prog 270 [(.slice none 0 0), (.slice none 0 0), (.int .i64 (0))] := ⟨_, fun w => Tryz.zeroValue270 w, rfl⟩
instance : Fo Tryz.prog 270 0 0 := ⟨fun w a => by simp [Instr.fieldAt, Instr.sureAddr, fieldPlace]⟩
instance : Fo Tryz.prog 270 1 1 := ⟨fun w a => by simp [Instr.fieldAt, Instr.sureAddr, fieldPlace]⟩
instance : Fo Tryz.prog 270 2 2 := ⟨fun w a => by simp [Instr.fieldAt, Instr.sureAddr, fieldPlace]⟩
instance : StT Tryz.prog 270 [(0, 1), (1, 1), (2, 1)] [(.slice none 0 0), (.slice none 0 0), (.int .i64 (0))] := ⟨_, Tryz.t270, _, Tryz.underlying270, by kernel_rfl, by kernel_rfl, rfl, rfl⟩
instance : Ag Tryz.prog 271 3 := ⟨fun w => Tryz.isAgg271 w, fun w => Tryz.sizeOf271 w⟩
instance : Zr Tryz.prog 271 [(.slice none 0 0), (.slice none 0 0), (.int .i64 (0))] := ⟨_, fun w => Tryz.zeroValue271 w, rfl⟩
instance : Fo Tryz.prog 271 0 0 := ⟨fun w a => by simp [Instr.fieldAt, Instr.sureAddr, fieldPlace]⟩
instance : Fo Tryz.prog 271 1 1 := ⟨fun w a => by simp [Instr.fieldAt, Instr.sureAddr, fieldPlace]⟩
instance : Fo Tryz.prog 271 2 2 := ⟨fun w a => by simp [Instr.fieldAt, Instr.sureAddr, fieldPlace]⟩
instance : StT Tryz.prog 271 [(0, 1), (1, 1), (2, 1)] [(.slice none 0 0), (.slice none 0 0), (.int .i64 (0))] := ⟨_, Tryz.t271, _, Tryz.underlying271, by kernel_rfl, by kernel_rfl, rfl, rfl⟩
instance : Sc Tryz.prog 272 := ⟨fun w => Tryz.isAgg272 w, fun w => Tryz.sizeOf272 w⟩
instance : Zr Tryz.prog 272 [.nilFunc] := ⟨_, fun w => Tryz.zeroValue272 w, rfl⟩
instance : Sc Tryz.prog 273 := ⟨fun w => Tryz.isAgg273 w, fun w => Tryz.sizeOf273 w⟩
instance : Zr Tryz.prog 273 [(.pointer none)] := ⟨_, fun w => Tryz.zeroValue273 w, rfl⟩
instance : Sc Tryz.prog 274 := ⟨fun w => Tryz.isAgg274 w, fun w => Tryz.sizeOf274 w⟩
instance : Zr Tryz.prog 274 [.nilFunc] := ⟨_, fun w => Tryz.zeroValue274 w, rfl⟩
instance : Sc Tryz.prog 275 := ⟨fun w => Tryz.isAgg275 w, fun w => Tryz.sizeOf275 w⟩
instance : Zr Tryz.prog 275 [.nilFunc] := ⟨_, fun w => Tryz.zeroValue275 w, rfl⟩
instance : Sc Tryz.prog 276 := ⟨fun w => Tryz.isAgg276 w, fun w => Tryz.sizeOf276 w⟩
instance : Zr Tryz.prog 276 [(.slice none 0 0)] := ⟨_, fun w => Tryz.zeroValue276 w, rfl⟩
instance : Sl Tryz.prog 276 1 24 := ⟨230, Tryz.t230, _, Tryz.underlying276, by kernel_rfl, rfl, rfl, rfl, rfl, by decide⟩
instance : SlZ Tryz.prog 276 [(.slice none 0 0)] := ⟨fun {e i z} h1 h2 h3 => by
  rw [Tryz.underlying276] at h1; cases h1
  rw [show Tryz.prog.info? 230 = some Tryz.t230 by kernel_rfl] at h2; cases h2; cases h3; rfl⟩
instance : Ag Tryz.prog 277 7 := ⟨fun w => Tryz.isAgg277 w, fun w => Tryz.sizeOf277 w⟩
instance : Zr Tryz.prog 277 [(.slice none 0 0), (.slice none 0 0), (.slice none 0 0), (.slice none 0 0), (.slice none 0 0), (.slice none 0 0), (.slice none 0 0)] := ⟨_, fun w => Tryz.zeroValue277 w, rfl⟩
instance : Fo Tryz.prog 277 0 0 := ⟨fun w a => by simp [Instr.fieldAt, Instr.sureAddr, fieldPlace]⟩
instance : Fo Tryz.prog 277 1 1 := ⟨fun w a => by simp [Instr.fieldAt, Instr.sureAddr, fieldPlace]⟩
instance : Fo Tryz.prog 277 2 2 := ⟨fun w a => by simp [Instr.fieldAt, Instr.sureAddr, fieldPlace]⟩
instance : Fo Tryz.prog 277 3 3 := ⟨fun w a => by simp [Instr.fieldAt, Instr.sureAddr, fieldPlace]⟩
instance : Fo Tryz.prog 277 4 4 := ⟨fun w a => by simp [Instr.fieldAt, Instr.sureAddr, fieldPlace]⟩
instance : Fo Tryz.prog 277 5 5 := ⟨fun w a => by simp [Instr.fieldAt, Instr.sureAddr, fieldPlace]⟩
instance : Fo Tryz.prog 277 6 6 := ⟨fun w a => by simp [Instr.fieldAt, Instr.sureAddr, fieldPlace]⟩
instance : StT Tryz.prog 277 [(0, 1), (1, 1), (2, 1), (3, 1), (4, 1), (5, 1), (6, 1)] [(.slice none 0 0), (.slice none 0 0), (.slice none 0 0), (.slice none 0 0), (.slice none 0 0), (.slice none 0 0), (.slice none 0 0)] := ⟨_, Tryz.t277, _, Tryz.underlying277, by kernel_rfl, by kernel_rfl, rfl, rfl⟩
instance : Ag Tryz.prog 278 7 := ⟨fun w => Tryz.isAgg278 w, fun w => Tryz.sizeOf278 w⟩
instance : Zr Tryz.prog 278 [(.slice none 0 0), (.slice none 0 0), (.slice none 0 0), (.slice none 0 0), (.slice none 0 0), (.slice none 0 0), (.slice none 0 0)] := ⟨_, fun w => Tryz.zeroValue278 w, rfl⟩
instance : Fo Tryz.prog 278 0 0 := ⟨fun w a => by simp [Instr.fieldAt, Instr.sureAddr, fieldPlace]⟩
instance : Fo Tryz.prog 278 1 1 := ⟨fun w a => by simp [Instr.fieldAt, Instr.sureAddr, fieldPlace]⟩
instance : Fo Tryz.prog 278 2 2 := ⟨fun w a => by simp [Instr.fieldAt, Instr.sureAddr, fieldPlace]⟩
instance : Fo Tryz.prog 278 3 3 := ⟨fun w a => by simp [Instr.fieldAt, Instr.sureAddr, fieldPlace]⟩
instance : Fo Tryz.prog 278 4 4 := ⟨fun w a => by simp [Instr.fieldAt, Instr.sureAddr, fieldPlace]⟩
instance : Fo Tryz.prog 278 5 5 := ⟨fun w a => by simp [Instr.fieldAt, Instr.sureAddr, fieldPlace]⟩
instance : Fo Tryz.prog 278 6 6 := ⟨fun w a => by simp [Instr.fieldAt, Instr.sureAddr, fieldPlace]⟩
instance : StT Tryz.prog 278 [(0, 1), (1, 1), (2, 1), (3, 1), (4, 1), (5, 1), (6, 1)] [(.slice none 0 0), (.slice none 0 0), (.slice none 0 0), (.slice none 0 0), (.slice none 0 0), (.slice none 0 0), (.slice none 0 0)] := ⟨_, Tryz.t278, _, Tryz.underlying278, by kernel_rfl, by kernel_rfl, rfl, rfl⟩
instance : Sc Tryz.prog 280 := ⟨fun w => Tryz.isAgg280 w, fun w => Tryz.sizeOf280 w⟩
instance : Zr Tryz.prog 280 [.nilFunc] := ⟨_, fun w => Tryz.zeroValue280 w, rfl⟩
instance : Sc Tryz.prog 281 := ⟨fun w => Tryz.isAgg281 w, fun w => Tryz.sizeOf281 w⟩
instance : Zr Tryz.prog 281 [.nilFunc] := ⟨_, fun w => Tryz.zeroValue281 w, rfl⟩
instance : Sc Tryz.prog 282 := ⟨fun w => Tryz.isAgg282 w, fun w => Tryz.sizeOf282 w⟩
instance : Zr Tryz.prog 282 [.nilFunc] := ⟨_, fun w => Tryz.zeroValue282 w, rfl⟩
instance : Sc Tryz.prog 283 := ⟨fun w => Tryz.isAgg283 w, fun w => Tryz.sizeOf283 w⟩
instance : Zr Tryz.prog 283 [.nilFunc] := ⟨_, fun w => Tryz.zeroValue283 w, rfl⟩
instance : Sc Tryz.prog 284 := ⟨fun w => Tryz.isAgg284 w, fun w => Tryz.sizeOf284 w⟩
instance : Zr Tryz.prog 284 [(.pointer none)] := ⟨_, fun w => Tryz.zeroValue284 w, rfl⟩
instance : Ag Tryz.prog 285 1 := ⟨fun w => Tryz.isAgg285 w, fun w => Tryz.sizeOf285 w⟩
instance : Zr Tryz.prog 285 [(.slice none 0 0)] := ⟨_, fun w => Tryz.zeroValue285 w, rfl⟩
instance : Fo Tryz.prog 285 0 0 := ⟨fun w a => by simp [Instr.fieldAt, Instr.sureAddr, fieldPlace]⟩
instance : StT Tryz.prog 285 [(0, 1)] [(.slice none 0 0)] := ⟨_, Tryz.t285, _, Tryz.underlying285, by kernel_rfl, by kernel_rfl, rfl, rfl⟩
instance : Ag Tryz.prog 286 1 := ⟨fun w => Tryz.isAgg286 w, fun w => Tryz.sizeOf286 w⟩
instance : Zr Tryz.prog 286 [(.slice none 0 0)] := ⟨_, fun w => Tryz.zeroValue286 w, rfl⟩
instance : Fo Tryz.prog 286 0 0 := ⟨fun w a => by simp [Instr.fieldAt, Instr.sureAddr, fieldPlace]⟩
instance : StT Tryz.prog 286 [(0, 1)] [(.slice none 0 0)] := ⟨_, Tryz.t286, _, Tryz.underlying286, by kernel_rfl, by kernel_rfl, rfl, rfl⟩
instance : Sc Tryz.prog 287 := ⟨fun w => Tryz.isAgg287 w, fun w => Tryz.sizeOf287 w⟩
instance : Zr Tryz.prog 287 [.nilFunc] := ⟨_, fun w => Tryz.zeroValue287 w, rfl⟩
instance : Sc Tryz.prog 288 := ⟨fun w => Tryz.isAgg288 w, fun w => Tryz.sizeOf288 w⟩
instance : Zr Tryz.prog 288 [.nilFunc] := ⟨_, fun w => Tryz.zeroValue288 w, rfl⟩
instance : Sc Tryz.prog 289 := ⟨fun w => Tryz.isAgg289 w, fun w => Tryz.sizeOf289 w⟩
instance : Zr Tryz.prog 289 [.nilFunc] := ⟨_, fun w => Tryz.zeroValue289 w, rfl⟩
instance : Sc Tryz.prog 290 := ⟨fun w => Tryz.isAgg290 w, fun w => Tryz.sizeOf290 w⟩
instance : Zr Tryz.prog 290 [.nilFunc] := ⟨_, fun w => Tryz.zeroValue290 w, rfl⟩
instance : Sc Tryz.prog 291 := ⟨fun w => Tryz.isAgg291 w, fun w => Tryz.sizeOf291 w⟩
instance : Zr Tryz.prog 291 [.nilFunc] := ⟨_, fun w => Tryz.zeroValue291 w, rfl⟩
instance : Sc Tryz.prog 292 := ⟨fun w => Tryz.isAgg292 w, fun w => Tryz.sizeOf292 w⟩
instance : Zr Tryz.prog 292 [.nilFunc] := ⟨_, fun w => Tryz.zeroValue292 w, rfl⟩
instance : Sc Tryz.prog 294 := ⟨fun w => Tryz.isAgg294 w, fun w => Tryz.sizeOf294 w⟩
instance : Zr Tryz.prog 294 [.nilFunc] := ⟨_, fun w => Tryz.zeroValue294 w, rfl⟩
instance : Sc Tryz.prog 296 := ⟨fun w => Tryz.isAgg296 w, fun w => Tryz.sizeOf296 w⟩
instance : Zr Tryz.prog 296 [.nilFunc] := ⟨_, fun w => Tryz.zeroValue296 w, rfl⟩
instance : Ag Tryz.prog 297 1 := ⟨fun w => Tryz.isAgg297 w, fun w => Tryz.sizeOf297 w⟩
instance : Zr Tryz.prog 297 [(.int .i64 (0))] := ⟨_, fun w => Tryz.zeroValue297 w, rfl⟩
instance : Fo Tryz.prog 297 0 0 := ⟨fun w a => by simp [Instr.fieldAt, Instr.sureAddr, fieldPlace]⟩
instance : StT Tryz.prog 297 [(0, 1)] [(.int .i64 (0))] := ⟨_, Tryz.t297, _, Tryz.underlying297, by kernel_rfl, by kernel_rfl, rfl, rfl⟩
instance : Ag Tryz.prog 298 1 := ⟨fun w => Tryz.isAgg298 w, fun w => Tryz.sizeOf298 w⟩
instance : Zr Tryz.prog 298 [(.int .i64 (0))] := ⟨_, fun w => Tryz.zeroValue298 w, rfl⟩
instance : Fo Tryz.prog 298 0 0 := ⟨fun w a => by simp [Instr.fieldAt, Instr.sureAddr, fieldPlace]⟩
instance : StT Tryz.prog 298 [(0, 1)] [(.int .i64 (0))] := ⟨_, Tryz.t298, _, Tryz.underlying298, by kernel_rfl, by kernel_rfl, rfl, rfl⟩
instance : Sc Tryz.prog 299 := ⟨fun w => Tryz.isAgg299 w, fun w => Tryz.sizeOf299 w⟩
instance : Zr Tryz.prog 299 [.nilFunc] := ⟨_, fun w => Tryz.zeroValue299 w, rfl⟩
instance : Sc Tryz.prog 300 := ⟨fun w => Tryz.isAgg300 w, fun w => Tryz.sizeOf300 w⟩
instance : Zr Tryz.prog 300 [.nilFunc] := ⟨_, fun w => Tryz.zeroValue300 w, rfl⟩
instance : Sc Tryz.prog 301 := ⟨fun w => Tryz.isAgg301 w, fun w => Tryz.sizeOf301 w⟩
instance : Zr Tryz.prog 301 [.nilFunc] := ⟨_, fun w => Tryz.zeroValue301 w, rfl⟩
instance : Sc Tryz.prog 302 := ⟨fun w => Tryz.isAgg302 w, fun w => Tryz.sizeOf302 w⟩
instance : Zr Tryz.prog 302 [.nilFunc] := ⟨_, fun w => Tryz.zeroValue302 w, rfl⟩
instance : Sc Tryz.prog 303 := ⟨fun w => Tryz.isAgg303 w, fun w => Tryz.sizeOf303 w⟩
instance : Zr Tryz.prog 303 [(.pointer none)] := ⟨_, fun w => Tryz.zeroValue303 w, rfl⟩
instance : Ag Tryz.prog 304 48 := ⟨fun w => Tryz.isAgg304 w, fun w => Tryz.sizeOf304 w⟩
instance : Zr Tryz.prog 304 [(.slice none 0 0), (.slice none 0 0), (.slice none 0 0), (.slice none 0 0), (.slice none 0 0), (.slice none 0 0), (.slice none 0 0), (.slice none 0 0), (.slice none 0 0), (.slice none 0 0), (.slice none 0 0), (.slice none 0 0), (.slice none 0 0), (.slice none 0 0), (.slice none 0 0), (.slice none 0 0), (.slice none 0 0), (.slice none 0 0), (.slice none 0 0), (.slice none 0 0), (.slice none 0 0), (.slice none 0 0), (.slice none 0 0), (.slice none 0 0), (.slice none 0 0), (.slice none 0 0), (.slice none 0 0), (.slice none 0 0), (.slice none 0 0), (.slice none 0 0), (.slice none 0 0), (.slice none 0 0), (.slice none 0 0), (.slice none 0 0), (.slice none 0 0), (.slice none 0 0), (.slice none 0 0), (.slice none 0 0), (.slice none 0 0), (.slice none 0 0), (.slice none 0 0), (.slice none 0 0), (.slice none 0 0), (.slice none 0 0), (.slice none 0 0), (.slice none 0 0), (.slice none 0 0), (.slice none 0 0)] := ⟨_, fun w => Tryz.zeroValue304 w, rfl⟩
instance : ArT Tryz.prog 304 48 := ⟨_, Tryz.t22, Tryz.underlying304, by kernel_rfl, rfl, by decide⟩
instance : Ag Tryz.prog 305 49 := ⟨fun w => Tryz.isAgg305 w, fun w => Tryz.sizeOf305 w⟩
instance : Zr Tryz.prog 305 [(.slice none 0 0), (.slice none 0 0), (.slice none 0 0), (.slice none 0 0), (.slice none 0 0), (.slice none 0 0), (.slice none 0 0), (.slice none 0 0), (.slice none 0 0), (.slice none 0 0), (.slice none 0 0), (.slice none 0 0), (.slice none 0 0), (.slice none 0 0), (.slice none 0 0), (.slice none 0 0), (.slice none 0 0), (.slice none 0 0), (.slice none 0 0), (.slice none 0 0), (.slice none 0 0), (.slice none 0 0), (.slice none 0 0), (.slice none 0 0), (.slice none 0 0), (.slice none 0 0), (.slice none 0 0), (.slice none 0 0), (.slice none 0 0), (.slice none 0 0), (.slice none 0 0), (.slice none 0 0), (.slice none 0 0), (.slice none 0 0), (.slice none 0 0), (.slice none 0 0), (.slice none 0 0), (.slice none 0 0), (.slice none 0 0), (.slice none 0 0), (.slice none 0 0), (.slice none 0 0), (.slice none 0 0), (.slice none 0 0), (.slice none 0 0), (.slice none 0 0), (.slice none 0 0), (.slice none 0 0), (.slice none 0 0)] := ⟨_, fun w => Tryz.zeroValue305 w, rfl⟩
instance : Fo Tryz.prog 305 0 0 := ⟨fun w a => by simp [Instr.fieldAt, Instr.sureAddr, fieldPlace]⟩
instance : Fo Tryz.prog 305 1 1 := ⟨fun w a => by simp [Instr.fieldAt, Instr.sureAddr, fieldPlace]⟩
instance : StT Tryz.prog 305 [(0, 1), (1, 48)] [(.slice none 0 0), (.slice none 0 0), (.slice none 0 0), (.slice none 0 0), (.slice none 0 0), (.slice none 0 0), (.slice none 0 0), (.slice none 0 0), (.slice none 0 0), (.slice none 0 0), (.slice none 0 0), (.slice none 0 0), (.slice none 0 0), (.slice none 0 0), (.slice none 0 0), (.slice none 0 0), (.slice none 0 0), (.slice none 0 0), (.slice none 0 0), (.slice none 0 0), (.slice none 0 0), (.slice none 0 0), (.slice none 0 0), (.slice none 0 0), (.slice none 0 0), (.slice none 0 0), (.slice none 0 0), (.slice none 0 0), (.slice none 0 0), (.slice none 0 0), (.slice none 0 0), (.slice none 0 0), (.slice none 0 0), (.slice none 0 0), (.slice none 0 0), (.slice none 0 0), (.slice none 0 0), (.slice none 0 0), (.slice none 0 0), (.slice none 0 0), (.slice none 0 0), (.slice none 0 0), (.slice none 0 0), (.slice none 0 0), (.slice none 0 0), (.slice none 0 0), (.slice none 0 0), (.slice none 0 0), (.slice none 0 0)] := ⟨_, Tryz.t305, _, Tryz.underlying305, by kernel_rfl, by kernel_rfl, rfl, rfl⟩
instance : Ag Tryz.prog 306 49 := ⟨fun w => Tryz.isAgg306 w, fun w => Tryz.sizeOf306 w⟩
instance : Zr Tryz.prog 306 [(.slice none 0 0), (.slice none 0 0), (.slice none 0 0), (.slice none 0 0), (.slice none 0 0), (.slice none 0 0), (.slice none 0 0), (.slice none 0 0), (.slice none 0 0), (.slice none 0 0), (.slice none 0 0), (.slice none 0 0), (.slice none 0 0), (.slice none 0 0), (.slice none 0 0), (.slice none 0 0), (.slice none 0 0), (.slice none 0 0), (.slice none 0 0), (.slice none 0 0), (.slice none 0 0), (.slice none 0 0), (.slice none 0 0), (.slice none 0 0), (.slice none 0 0), (.slice none 0 0), (.slice none 0 0), (.slice none 0 0), (.slice none 0 0), (.slice none 0 0), (.slice none 0 0), (.slice none 0 0), (.slice none 0 0), (.slice none 0 0), (.slice none 0 0), (.slice none 0 0), (.slice none 0 0), (.slice none 0 0), (.slice none 0 0), (.slice none 0 0), (.slice none 0 0), (.slice none 0 0), (.slice none 0 0), (.slice none 0 0), (.slice none 0 0), (.slice none 0 0), (.slice none 0 0), (.slice none 0 0), (.slice none 0 0)] := ⟨_, fun w => Tryz.zeroValue306 w, rfl⟩
instance : Fo Tryz.prog 306 0 0 := ⟨fun w a => by simp [Instr.fieldAt, Instr.sureAddr, fieldPlace]⟩
instance : Fo Tryz.prog 306 1 1 := ⟨fun w a => by simp [Instr.fieldAt, Instr.sureAddr, fieldPlace]⟩
instance : StT Tryz.prog 306 [(0, 1), (1, 48)] [(.slice none 0 0), (.slice none 0 0), (.slice none 0 0), (.slice none 0 0), (.slice none 0 0), (.slice none 0 0), (.slice none 0 0), (.slice none 0 0), (.slice none 0 0), (.slice none 0 0), (.slice none 0 0), (.slice none 0 0), (.slice none 0 0), (.slice none 0 0), (.slice none 0 0), (.slice none 0 0), (.slice none 0 0), (.slice none 0 0), (.slice none 0 0), (.slice none 0 0), (.slice none 0 0), (.slice none 0 0), (.slice none 0 0), (.slice none 0 0), (.slice none 0 0), (.slice none 0 0), (.slice none 0 0), (.slice none 0 0), (.slice none 0 0), (.slice none 0 0), (.slice none 0 0), (.slice none 0 0), (.slice none 0 0), (.slice none 0 0), (.slice none 0 0), (.slice none 0 0), (.slice none 0 0), (.slice none 0 0), (.slice none 0 0), (.slice none 0 0), (.slice none 0 0), (.slice none 0 0), (.slice none 0 0), (.slice none 0 0), (.slice none 0 0), (.slice none 0 0), (.slice none 0 0), (.slice none 0 0), (.slice none 0 0)] := ⟨_, Tryz.t306, _, Tryz.underlying306, by kernel_rfl, by kernel_rfl, rfl, rfl⟩
instance : Sc Tryz.prog 307 := ⟨fun w => Tryz.isAgg307 w, fun w => Tryz.sizeOf307 w⟩
instance : Zr Tryz.prog 307 [.nilFunc] := ⟨_, fun w => Tryz.zeroValue307 w, rfl⟩
instance : Sc Tryz.prog 308 := ⟨fun w => Tryz.isAgg308 w, fun w => Tryz.sizeOf308 w⟩
instance : Zr Tryz.prog 308 [(.pointer none)] := ⟨_, fun w => Tryz.zeroValue308 w, rfl⟩
instance : Sc Tryz.prog 310 := ⟨fun w => Tryz.isAgg310 w, fun w => Tryz.sizeOf310 w⟩
instance : Zr Tryz.prog 310 [.nilFunc] := ⟨_, fun w => Tryz.zeroValue310 w, rfl⟩
instance : Sc Tryz.prog 311 := ⟨fun w => Tryz.isAgg311 w, fun w => Tryz.sizeOf311 w⟩
instance : Zr Tryz.prog 311 [(.pointer none)] := ⟨_, fun w => Tryz.zeroValue311 w, rfl⟩
instance : Sc Tryz.prog 312 := ⟨fun w => Tryz.isAgg312 w, fun w => Tryz.sizeOf312 w⟩
instance : Zr Tryz.prog 312 [.nilFunc] := ⟨_, fun w => Tryz.zeroValue312 w, rfl⟩
instance : Sc Tryz.prog 313 := ⟨fun w => Tryz.isAgg313 w, fun w => Tryz.sizeOf313 w⟩
instance : Zr Tryz.prog 313 [.nilFunc] := ⟨_, fun w => Tryz.zeroValue313 w, rfl⟩
instance : Sc Tryz.prog 314 := ⟨fun w => Tryz.isAgg314 w, fun w => Tryz.sizeOf314 w⟩
instance : Zr Tryz.prog 314 [.nilFunc] := ⟨_, fun w => Tryz.zeroValue314 w, rfl⟩
instance : Sc Tryz.prog 315 := ⟨fun w => Tryz.isAgg315 w, fun w => Tryz.sizeOf315 w⟩
instance : Zr Tryz.prog 315 [.nilFunc] := ⟨_, fun w => Tryz.zeroValue315 w, rfl⟩
instance : Sc Tryz.prog 316 := ⟨fun w => Tryz.isAgg316 w, fun w => Tryz.sizeOf316 w⟩
instance : Zr Tryz.prog 316 [.nilFunc] := ⟨_, fun w => Tryz.zeroValue316 w, rfl⟩
instance : Sc Tryz.prog 317 := ⟨fun w => Tryz.isAgg317 w, fun w => Tryz.sizeOf317 w⟩
instance : Zr Tryz.prog 317 [.nilFunc] := ⟨_, fun w => Tryz.zeroValue317 w, rfl⟩
instance : Sc Tryz.prog 318 := ⟨fun w => Tryz.isAgg318 w, fun w => Tryz.sizeOf318 w⟩
instance : Zr Tryz.prog 318 [.nilFunc] := ⟨_, fun w => Tryz.zeroValue318 w, rfl⟩
instance : Sc Tryz.prog 319 := ⟨fun w => Tryz.isAgg319 w, fun w => Tryz.sizeOf319 w⟩
instance : Zr Tryz.prog 319 [.nilFunc] := ⟨_, fun w => Tryz.zeroValue319 w, rfl⟩
instance : Sc Tryz.prog 320 := ⟨fun w => Tryz.isAgg320 w, fun w => Tryz.sizeOf320 w⟩
instance : Zr Tryz.prog 320 [.nilFunc] := ⟨_, fun w => Tryz.zeroValue320 w, rfl⟩
instance : Sc Tryz.prog 321 := ⟨fun w => Tryz.isAgg321 w, fun w => Tryz.sizeOf321 w⟩
instance : Zr Tryz.prog 321 [(.pointer none)] := ⟨_, fun w => Tryz.zeroValue321 w, rfl⟩
instance : Sc Tryz.prog 322 := ⟨fun w => Tryz.isAgg322 w, fun w => Tryz.sizeOf322 w⟩
instance : Zr Tryz.prog 322 [(.int .i8 (0))] := ⟨_, fun w => Tryz.zeroValue322 w, rfl⟩
instance : Ag Tryz.prog 323 60 := ⟨fun w => Tryz.isAgg323 w, fun w => Tryz.sizeOf323 w⟩
instance : Zr Tryz.prog 323 [(.int .i8 (0)), (.int .i8 (0)), (.int .i8 (0)), (.int .i8 (0)), (.int .i8 (0)), (.int .i8 (0)), (.int .i8 (0)), (.int .i8 (0)), (.int .i8 (0)), (.int .i8 (0)), (.int .i8 (0)), (.int .i8 (0)), (.int .i8 (0)), (.int .i8 (0)), (.int .i8 (0)), (.int .i8 (0)), (.int .i8 (0)), (.int .i8 (0)), (.int .i8 (0)), (.int .i8 (0)), (.int .i8 (0)), (.int .i8 (0)), (.int .i8 (0)), (.int .i8 (0)), (.int .i8 (0)), (.int .i8 (0)), (.int .i8 (0)), (.int .i8 (0)), (.int .i8 (0)), (.int .i8 (0)), (.int .i8 (0)), (.int .i8 (0)), (.int .i8 (0)), (.int .i8 (0)), (.int .i8 (0)), (.int .i8 (0)), (.int .i8 (0)), (.int .i8 (0)), (.int .i8 (0)), (.int .i8 (0)), (.int .i8 (0)), (.int .i8 (0)), (.int .i8 (0)), (.int .i8 (0)), (.int .i8 (0)), (.int .i8 (0)), (.int .i8 (0)), (.int .i8 (0)), (.int .i8 (0)), (.int .i8 (0)), (.int .i8 (0)), (.int .i8 (0)), (.int .i8 (0)), (.int .i8 (0)), (.int .i8 (0)), (.int .i8 (0)), (.int .i8 (0)), (.int .i8 (0)), (.int .i8 (0)), (.int .i8 (0))] := ⟨_, fun w => Tryz.zeroValue323 w, rfl⟩
instance : ArT Tryz.prog 323 60 := ⟨_, Tryz.t322, Tryz.underlying323, by kernel_rfl, rfl, by decide⟩
instance : Sc Tryz.prog 327 := ⟨fun w => Tryz.isAgg327 w, fun w => Tryz.sizeOf327 w⟩
instance : Zr Tryz.prog 327 [.nilFunc] := ⟨_, fun w => Tryz.zeroValue327 w, rfl⟩
instance : Sc Tryz.prog 329 := ⟨fun w => Tryz.isAgg329 w, fun w => Tryz.sizeOf329 w⟩
instance : Zr Tryz.prog 329 [.nilFunc] := ⟨_, fun w => Tryz.zeroValue329 w, rfl⟩
instance : Sc Tryz.prog 331 := ⟨fun w => Tryz.isAgg331 w, fun w => Tryz.sizeOf331 w⟩
instance : Zr Tryz.prog 331 [.nilFunc] := ⟨_, fun w => Tryz.zeroValue331 w, rfl⟩
instance : Sc Tryz.prog 332 := ⟨fun w => Tryz.isAgg332 w, fun w => Tryz.sizeOf332 w⟩
instance : Zr Tryz.prog 332 [.nilFunc] := ⟨_, fun w => Tryz.zeroValue332 w, rfl⟩
instance : Sc Tryz.prog 333 := ⟨fun w => Tryz.isAgg333 w, fun w => Tryz.sizeOf333 w⟩
instance : Zr Tryz.prog 333 [.nilFunc] := ⟨_, fun w => Tryz.zeroValue333 w, rfl⟩
instance : Sc Tryz.prog 334 := ⟨fun w => Tryz.isAgg334 w, fun w => Tryz.sizeOf334 w⟩
instance : Zr Tryz.prog 334 [.nilFunc] := ⟨_, fun w => Tryz.zeroValue334 w, rfl⟩
instance : Sc Tryz.prog 335 := ⟨fun w => Tryz.isAgg335 w, fun w => Tryz.sizeOf335 w⟩
instance : Zr Tryz.prog 335 [.nilFunc] := ⟨_, fun w => Tryz.zeroValue335 w, rfl⟩
instance : Sc Tryz.prog 336 := ⟨fun w => Tryz.isAgg336 w, fun w => Tryz.sizeOf336 w⟩
instance : Zr Tryz.prog 336 [.nilFunc] := ⟨_, fun w => Tryz.zeroValue336 w, rfl⟩
instance : Sc Tryz.prog 339 := ⟨fun w => Tryz.isAgg339 w, fun w => Tryz.sizeOf339 w⟩
instance : Zr Tryz.prog 339 [.nilFunc] := ⟨_, fun w => Tryz.zeroValue339 w, rfl⟩
instance : Sc Tryz.prog 340 := ⟨fun w => Tryz.isAgg340 w, fun w => Tryz.sizeOf340 w⟩
instance : Zr Tryz.prog 340 [.nilFunc] := ⟨_, fun w => Tryz.zeroValue340 w, rfl⟩
instance : Sc Tryz.prog 341 := ⟨fun w => Tryz.isAgg341 w, fun w => Tryz.sizeOf341 w⟩
instance : Zr Tryz.prog 341 [.nilFunc] := ⟨_, fun w => Tryz.zeroValue341 w, rfl⟩
instance : Sc Tryz.prog 342 := ⟨fun w => Tryz.isAgg342 w, fun w => Tryz.sizeOf342 w⟩
instance : Zr Tryz.prog 342 [.nilFunc] := ⟨_, fun w => Tryz.zeroValue342 w, rfl⟩
instance : Sc Tryz.prog 343 := ⟨fun w => Tryz.isAgg343 w, fun w => Tryz.sizeOf343 w⟩
instance : Zr Tryz.prog 343 [.nilFunc] := ⟨_, fun w => Tryz.zeroValue343 w, rfl⟩
instance : Sc Tryz.prog 344 := ⟨fun w => Tryz.isAgg344 w, fun w => Tryz.sizeOf344 w⟩
instance : Zr Tryz.prog 344 [.nilFunc] := ⟨_, fun w => Tryz.zeroValue344 w, rfl⟩
instance : Ag Tryz.prog 345 2 := ⟨fun w => Tryz.isAgg345 w, fun w => Tryz.sizeOf345 w⟩
instance : Zr Tryz.prog 345 [(.int .i64 (0)), (.slice none 0 0)] := ⟨_, fun w => Tryz.zeroValue345 w, rfl⟩
instance : Fo Tryz.prog 345 0 0 := ⟨fun w a => by simp [Instr.fieldAt, Instr.sureAddr, fieldPlace]⟩
instance : Fo Tryz.prog 345 1 1 := ⟨fun w a => by simp [Instr.fieldAt, Instr.sureAddr, fieldPlace]⟩
instance : StT Tryz.prog 345 [(0, 1), (1, 1)] [(.int .i64 (0)), (.slice none 0 0)] := ⟨_, Tryz.t345, _, Tryz.underlying345, by kernel_rfl, by kernel_rfl, rfl, rfl⟩
instance : Sc Tryz.prog 346 := ⟨fun w => Tryz.isAgg346 w, fun w => Tryz.sizeOf346 w⟩
instance : Zr Tryz.prog 346 [.nilFunc] := ⟨_, fun w => Tryz.zeroValue346 w, rfl⟩
instance : Sc Tryz.prog 347 := ⟨fun w => Tryz.isAgg347 w, fun w => Tryz.sizeOf347 w⟩
instance : Zr Tryz.prog 347 [.nilFunc] := ⟨_, fun w => Tryz.zeroValue347 w, rfl⟩
instance : Sc Tryz.prog 348 := ⟨fun w => Tryz.isAgg348 w, fun w => Tryz.sizeOf348 w⟩
instance : Zr Tryz.prog 348 [.nilFunc] := ⟨_, fun w => Tryz.zeroValue348 w, rfl⟩
instance : Sc Tryz.prog 349 := ⟨fun w => Tryz.isAgg349 w, fun w => Tryz.sizeOf349 w⟩
instance : Zr Tryz.prog 349 [(.pointer none)] := ⟨_, fun w => Tryz.zeroValue349 w, rfl⟩
instance : Ag Tryz.prog 350 48 := ⟨fun w => Tryz.isAgg350 w, fun w => Tryz.sizeOf350 w⟩
instance : Zr Tryz.prog 350 [(.bool false), (.bool false), (.bool false), (.bool false), (.bool false), (.bool false), (.bool false), (.bool false), (.bool false), (.bool false), (.bool false), (.bool false), (.bool false), (.bool false), (.bool false), (.bool false), (.bool false), (.bool false), (.bool false), (.bool false), (.bool false), (.bool false), (.bool false), (.bool false), (.bool false), (.bool false), (.bool false), (.bool false), (.bool false), (.bool false), (.bool false), (.bool false), (.bool false), (.bool false), (.bool false), (.bool false), (.bool false), (.bool false), (.bool false), (.bool false), (.bool false), (.bool false), (.bool false), (.bool false), (.bool false), (.bool false), (.bool false), (.bool false)] := ⟨_, fun w => Tryz.zeroValue350 w, rfl⟩
instance : ArT Tryz.prog 350 48 := ⟨_, Tryz.t4, Tryz.underlying350, by kernel_rfl, rfl, by decide⟩
instance : Sc Tryz.prog 351 := ⟨fun w => Tryz.isAgg351 w, fun w => Tryz.sizeOf351 w⟩
instance : Zr Tryz.prog 351 [.nilFunc] := ⟨_, fun w => Tryz.zeroValue351 w, rfl⟩
instance : Sc Tryz.prog 352 := ⟨fun w => Tryz.isAgg352 w, fun w => Tryz.sizeOf352 w⟩
instance : Zr Tryz.prog 352 [.nilFunc] := ⟨_, fun w => Tryz.zeroValue352 w, rfl⟩
instance : Sc Tryz.prog 353 := ⟨fun w => Tryz.isAgg353 w, fun w => Tryz.sizeOf353 w⟩
instance : Zr Tryz.prog 353 [.nilFunc] := ⟨_, fun w => Tryz.zeroValue353 w, rfl⟩
instance : Sc Tryz.prog 354 := ⟨fun w => Tryz.isAgg354 w, fun w => Tryz.sizeOf354 w⟩
instance : Zr Tryz.prog 354 [.nilFunc] := ⟨_, fun w => Tryz.zeroValue354 w, rfl⟩
instance : Sc Tryz.prog 355 := ⟨fun w => Tryz.isAgg355 w, fun w => Tryz.sizeOf355 w⟩
instance : Zr Tryz.prog 355 [.nilFunc] := ⟨_, fun w => Tryz.zeroValue355 w, rfl⟩
instance : Sc Tryz.prog 363 := ⟨fun w => Tryz.isAgg363 w, fun w => Tryz.sizeOf363 w⟩
instance : Zr Tryz.prog 363 [.nilFunc] := ⟨_, fun w => Tryz.zeroValue363 w, rfl⟩
instance : Sc Tryz.prog 364 := ⟨fun w => Tryz.isAgg364 w, fun w => Tryz.sizeOf364 w⟩
instance : Zr Tryz.prog 364 [(.pointer none)] := ⟨_, fun w => Tryz.zeroValue364 w, rfl⟩
instance : Op_ Tryz.prog 2 (Int) repInt := op_int Tryz.underlying2 (by kernel_rfl)
instance : Op_ Tryz.prog 3 (Int) repInt := op_int Tryz.underlying3 (by kernel_rfl)
instance : Op_ Tryz.prog 4 (Bool) repBool := op_bool Tryz.underlying4 (by kernel_rfl)
instance : Op_ Tryz.prog 9 (ByteArray) repStr := op_str Tryz.underlying9 (by kernel_rfl)
instance : Op_ Tryz.prog 22 (List Int) repList := op_slice Tryz.underlying22 (by kernel_rfl) inferInstance
instance : Op_ Tryz.prog 23 (List Int) repList := op_struct Tryz.underlying23 (by kernel_rfl) (opF_one rfl inferInstance)
instance : Op_ Tryz.prog 24 (List Int) repList := op_struct Tryz.underlying24 (by kernel_rfl) (opF_one rfl inferInstance)
instance : Op_ Tryz.prog 127 (List Int × List Int) repProd := op_struct Tryz.underlying127 (by kernel_rfl) (opF_cons rfl inferInstance rfl (opF_one rfl inferInstance))
instance : Op_ Tryz.prog 25 (List (List Int × List Int)) repList := op_slice Tryz.underlying25 (by kernel_rfl) inferInstance
instance : Op_ Tryz.prog 26 (List Int × List (List Int × List Int)) repProd := op_struct Tryz.underlying26 (by kernel_rfl) (opF_cons rfl inferInstance rfl (opF_one rfl inferInstance))
instance : Op_ Tryz.prog 27 (List Int × List (List Int × List Int)) repProd := op_struct Tryz.underlying27 (by kernel_rfl) (opF_cons rfl inferInstance rfl (opF_one rfl inferInstance))
instance : Op_ Tryz.prog 55 (List (List Int)) repList := op_slice Tryz.underlying55 (by kernel_rfl) inferInstance
instance : Op_ Tryz.prog 62 (Int × List Int × List (List Int) × List Int) repProd := op_struct Tryz.underlying62 (by kernel_rfl) (opF_cons rfl inferInstance rfl (opF_cons rfl inferInstance rfl (opF_cons rfl inferInstance rfl (opF_one rfl inferInstance))))
instance : Op_ Tryz.prog 29 (List (Int × List Int × List (List Int) × List Int)) repList := op_slice Tryz.underlying29 (by kernel_rfl) inferInstance
instance : Op_ Tryz.prog 30 (List (Int × List Int × List (List Int) × List Int)) repList := op_struct Tryz.underlying30 (by kernel_rfl) (opF_one rfl inferInstance)
instance : Op_ Tryz.prog 31 (List (Int × List Int × List (List Int) × List Int)) repList := op_struct Tryz.underlying31 (by kernel_rfl) (opF_one rfl inferInstance)
instance : Op_ Tryz.prog 34 (List Int) repList := op_struct Tryz.underlying34 (by kernel_rfl) (opF_one rfl inferInstance)
instance : Op_ Tryz.prog 143 (List Int × List Int) repProd := op_struct Tryz.underlying143 (by kernel_rfl) (opF_cons rfl inferInstance rfl (opF_one rfl inferInstance))
instance : Op_ Tryz.prog 35 (List (List Int × List Int)) repList := op_slice Tryz.underlying35 (by kernel_rfl) inferInstance
instance : Op_ Tryz.prog 36 (List Int × List (List Int × List Int)) repProd := op_struct Tryz.underlying36 (by kernel_rfl) (opF_cons rfl inferInstance rfl (opF_one rfl inferInstance))
instance : Op_ Tryz.prog 37 (List Int × List (List Int × List Int)) repProd := op_struct Tryz.underlying37 (by kernel_rfl) (opF_cons rfl inferInstance rfl (opF_one rfl inferInstance))
instance : Op_ Tryz.prog 91 (Int × List Int × Int) repProd := op_struct Tryz.underlying91 (by kernel_rfl) (opF_cons rfl inferInstance rfl (opF_cons rfl inferInstance rfl (opF_one rfl inferInstance)))
instance : Op_ Tryz.prog 46 (List (Int × List Int × Int)) repList := op_slice Tryz.underlying46 (by kernel_rfl) inferInstance
instance : Op_ Tryz.prog 47 (Int × List (Int × List Int × Int) × List Int) repProd := op_struct Tryz.underlying47 (by kernel_rfl) (opF_cons rfl inferInstance rfl (opF_cons rfl inferInstance rfl (opF_one rfl inferInstance)))
instance : Op_ Tryz.prog 48 (Int × List (Int × List Int × Int) × List Int) repProd := op_struct Tryz.underlying48 (by kernel_rfl) (opF_cons rfl inferInstance rfl (opF_cons rfl inferInstance rfl (opF_one rfl inferInstance)))
instance : Op_ Tryz.prog 61 (Int × List Int × List (List Int) × List Int) repProd := op_struct Tryz.underlying61 (by kernel_rfl) (opF_cons rfl inferInstance rfl (opF_cons rfl inferInstance rfl (opF_cons rfl inferInstance rfl (opF_one rfl inferInstance))))
instance : Op_ Tryz.prog 90 (Int × List Int × Int) repProd := op_struct Tryz.underlying90 (by kernel_rfl) (opF_cons rfl inferInstance rfl (opF_cons rfl inferInstance rfl (opF_one rfl inferInstance)))
instance : Op_ Tryz.prog 108 (Int × Int) repProd := op_struct Tryz.underlying108 (by kernel_rfl) (opF_cons rfl inferInstance rfl (opF_one rfl inferInstance))
instance : Op_ Tryz.prog 101 (List (Int × Int)) repList := op_slice Tryz.underlying101 (by kernel_rfl) inferInstance
instance : Op_ Tryz.prog 107 (Int × Int) repProd := op_struct Tryz.underlying107 (by kernel_rfl) (opF_cons rfl inferInstance rfl (opF_one rfl inferInstance))
instance : Op_ Tryz.prog 120 (List (List (List Int))) repList := op_slice Tryz.underlying120 (by kernel_rfl) inferInstance
instance : Op_ Tryz.prog 126 (List Int × List Int) repProd := op_struct Tryz.underlying126 (by kernel_rfl) (opF_cons rfl inferInstance rfl (opF_one rfl inferInstance))
instance : Op_ Tryz.prog 129 (Int × List Int × List Int) repProd := op_struct Tryz.underlying129 (by kernel_rfl) (opF_cons rfl inferInstance rfl (opF_cons rfl inferInstance rfl (opF_one rfl inferInstance)))
instance : Op_ Tryz.prog 130 (Int × List Int × List Int) repProd := op_struct Tryz.underlying130 (by kernel_rfl) (opF_cons rfl inferInstance rfl (opF_cons rfl inferInstance rfl (opF_one rfl inferInstance)))
instance : Op_ Tryz.prog 141 (Int × List Int) repProd := op_struct Tryz.underlying141 (by kernel_rfl) (opF_cons rfl inferInstance rfl (opF_one rfl inferInstance))
instance : Op_ Tryz.prog 133 (List (Int × List Int)) repList := op_slice Tryz.underlying133 (by kernel_rfl) inferInstance
instance : Op_ Tryz.prog 186 (List Int × List Int × List (Int × List Int) × List Int) repProd := op_struct Tryz.underlying186 (by kernel_rfl) (opF_cons rfl inferInstance rfl (opF_cons rfl inferInstance rfl (opF_cons rfl inferInstance rfl (opF_one rfl inferInstance))))
instance : Op_ Tryz.prog 136 (List (List Int × List Int × List (Int × List Int) × List Int)) repList := op_slice Tryz.underlying136 (by kernel_rfl) inferInstance
instance : Op_ Tryz.prog 140 (Int × List Int) repProd := op_struct Tryz.underlying140 (by kernel_rfl) (opF_cons rfl inferInstance rfl (opF_one rfl inferInstance))
instance : Op_ Tryz.prog 236 (List Int × List Int × Int × Int) repProd := op_struct Tryz.underlying236 (by kernel_rfl) (opF_cons rfl inferInstance rfl (opF_cons rfl inferInstance rfl (opF_cons rfl inferInstance rfl (opF_one rfl inferInstance))))
instance : Op_ Tryz.prog 180 (List (List Int × List Int × Int × Int)) repList := op_slice Tryz.underlying180 (by kernel_rfl) inferInstance
instance : Op_ Tryz.prog 185 (List Int × List Int × List (Int × List Int) × List Int) repProd := op_struct Tryz.underlying185 (by kernel_rfl) (opF_cons rfl inferInstance rfl (opF_cons rfl inferInstance rfl (opF_cons rfl inferInstance rfl (opF_one rfl inferInstance))))
instance : Op_ Tryz.prog 215 (Int) repInt := op_int Tryz.underlying215 (by kernel_rfl)
instance : Op_ Tryz.prog 230 (List Int) repList := op_slice Tryz.underlying230 (by kernel_rfl) inferInstance
instance : Op_ Tryz.prog 235 (List Int × List Int × Int × Int) repProd := op_struct Tryz.underlying235 (by kernel_rfl) (opF_cons rfl inferInstance rfl (opF_cons rfl inferInstance rfl (opF_cons rfl inferInstance rfl (opF_one rfl inferInstance))))
instance : Op_ Tryz.prog 257 (List Bool) repList := op_slice Tryz.underlying257 (by kernel_rfl) inferInstance
instance : Op_ Tryz.prog 256 (List (List Bool)) repList := op_slice Tryz.underlying256 (by kernel_rfl) inferInstance
instance : Op_ Tryz.prog 270 (List Int × List Int × Int) repProd := op_struct Tryz.underlying270 (by kernel_rfl) (opF_cons rfl inferInstance rfl (opF_cons rfl inferInstance rfl (opF_one rfl inferInstance)))
instance : Op_ Tryz.prog 271 (List Int × List Int × Int) repProd := op_struct Tryz.underlying271 (by kernel_rfl) (opF_cons rfl inferInstance rfl (opF_cons rfl inferInstance rfl (opF_one rfl inferInstance)))
instance : Op_ Tryz.prog 276 (List (List Int)) repList := op_slice Tryz.underlying276 (by kernel_rfl) inferInstance
instance : Op_ Tryz.prog 277 (List Int × List Int × List Int × List Int × List (List Int) × List (List Int) × List (List Int)) repProd := op_struct Tryz.underlying277 (by kernel_rfl) (opF_cons rfl inferInstance rfl (opF_cons rfl inferInstance rfl (opF_cons rfl inferInstance rfl (opF_cons rfl inferInstance rfl (opF_cons rfl inferInstance rfl (opF_cons rfl inferInstance rfl (opF_one rfl inferInstance)))))))
instance : Op_ Tryz.prog 278 (List Int × List Int × List Int × List Int × List (List Int) × List (List Int) × List (List Int)) repProd := op_struct Tryz.underlying278 (by kernel_rfl) (opF_cons rfl inferInstance rfl (opF_cons rfl inferInstance rfl (opF_cons rfl inferInstance rfl (opF_cons rfl inferInstance rfl (opF_cons rfl inferInstance rfl (opF_cons rfl inferInstance rfl (opF_one rfl inferInstance)))))))
instance : Op_ Tryz.prog 285 (List (List Int)) repList := op_struct Tryz.underlying285 (by kernel_rfl) (opF_one rfl inferInstance)
instance : Op_ Tryz.prog 286 (List (List Int)) repList := op_struct Tryz.underlying286 (by kernel_rfl) (opF_one rfl inferInstance)
instance : Op_ Tryz.prog 297 (Int) repInt := op_struct Tryz.underlying297 (by kernel_rfl) (opF_one rfl inferInstance)
instance : Op_ Tryz.prog 298 (Int) repInt := op_struct Tryz.underlying298 (by kernel_rfl) (opF_one rfl inferInstance)
instance : Op_ Tryz.prog 345 (Int × List Int) repProd := op_struct Tryz.underlying345 (by kernel_rfl) (opF_cons rfl inferInstance rfl (opF_one rfl inferInstance))
instance : ArN Tryz.prog 304 48 Int repInt := ⟨fun w => run_build w 304 #[] _ (by kernel_rfl)⟩
instance : ArB Tryz.prog 350 48 := ⟨fun w => run_build w 350 #[] _ (by kernel_rfl)⟩
instance : IsFn Tryz.prog 2 := isFn_of Tryz.func2 (by kernel_rfl) rfl
instance : IsFn Tryz.prog 3 := isFn_of Tryz.func3 (by kernel_rfl) rfl
instance : IsFn Tryz.prog 4 := isFn_of Tryz.func4 (by kernel_rfl) rfl
instance : IsFn Tryz.prog 5 := isFn_of Tryz.func5 (by kernel_rfl) rfl
instance : IsFn Tryz.prog 6 := isFn_of Tryz.func6 (by kernel_rfl) rfl
instance : IsFn Tryz.prog 7 := isFn_of Tryz.func7 (by kernel_rfl) rfl
instance : IsFn Tryz.prog 8 := isFn_of Tryz.func8 (by kernel_rfl) rfl
instance : IsFn Tryz.prog 9 := isFn_of Tryz.func9 (by kernel_rfl) rfl
instance : IsFn Tryz.prog 10 := isFn_of Tryz.func10 (by kernel_rfl) rfl
instance : IsFn Tryz.prog 11 := isFn_of Tryz.func11 (by kernel_rfl) rfl
instance : IsFn Tryz.prog 12 := isFn_of Tryz.func12 (by kernel_rfl) rfl
instance : IsFn Tryz.prog 13 := isFn_of Tryz.func13 (by kernel_rfl) rfl
instance : IsFn Tryz.prog 14 := isFn_of Tryz.func14 (by kernel_rfl) rfl
instance : IsFn Tryz.prog 15 := isFn_of Tryz.func15 (by kernel_rfl) rfl
instance : IsFn Tryz.prog 16 := isFn_of Tryz.func16 (by kernel_rfl) rfl
instance : IsFn Tryz.prog 17 := isFn_of Tryz.func17 (by kernel_rfl) rfl
instance : IsFn Tryz.prog 18 := isFn_of Tryz.func18 (by kernel_rfl) rfl
instance : IsFn Tryz.prog 19 := isFn_of Tryz.func19 (by kernel_rfl) rfl
instance : IsFn Tryz.prog 20 := isFn_of Tryz.func20 (by kernel_rfl) rfl
instance : IsFn Tryz.prog 21 := isFn_of Tryz.func21 (by kernel_rfl) rfl
instance : IsFn Tryz.prog 22 := isFn_of Tryz.func22 (by kernel_rfl) rfl
instance : IsFn Tryz.prog 23 := isFn_of Tryz.func23 (by kernel_rfl) rfl
instance : IsFn Tryz.prog 24 := isFn_of Tryz.func24 (by kernel_rfl) rfl
instance : IsFn Tryz.prog 25 := isFn_of Tryz.func25 (by kernel_rfl) rfl
instance : IsFn Tryz.prog 26 := isFn_of Tryz.func26 (by kernel_rfl) rfl
instance : IsFn Tryz.prog 27 := isFn_of Tryz.func27 (by kernel_rfl) rfl
instance : IsFn Tryz.prog 28 := isFn_of Tryz.func28 (by kernel_rfl) rfl
instance : IsFn Tryz.prog 29 := isFn_of Tryz.func29 (by kernel_rfl) rfl
instance : IsFn Tryz.prog 30 := isFn_of Tryz.func30 (by kernel_rfl) rfl
instance : IsFn Tryz.prog 31 := isFn_of Tryz.func31 (by kernel_rfl) rfl
instance : IsFn Tryz.prog 32 := isFn_of Tryz.func32 (by kernel_rfl) rfl
instance : IsFn Tryz.prog 33 := isFn_of Tryz.func33 (by kernel_rfl) rfl
instance : IsFn Tryz.prog 34 := isFn_of Tryz.func34 (by kernel_rfl) rfl
instance : IsFn Tryz.prog 35 := isFn_of Tryz.func35 (by kernel_rfl) rfl
instance : IsFn Tryz.prog 36 := isFn_of Tryz.func36 (by kernel_rfl) rfl
instance : IsFn Tryz.prog 37 := isFn_of Tryz.func37 (by kernel_rfl) rfl
instance : IsFn Tryz.prog 38 := isFn_of Tryz.func38 (by kernel_rfl) rfl
instance : IsFn Tryz.prog 39 := isFn_of Tryz.func39 (by kernel_rfl) rfl
instance : IsFn Tryz.prog 40 := isFn_of Tryz.func40 (by kernel_rfl) rfl
instance : IsFn Tryz.prog 41 := isFn_of Tryz.func41 (by kernel_rfl) rfl
instance : IsFn Tryz.prog 42 := isFn_of Tryz.func42 (by kernel_rfl) rfl
instance : IsFn Tryz.prog 43 := isFn_of Tryz.func43 (by kernel_rfl) rfl
instance : IsFn Tryz.prog 44 := isFn_of Tryz.func44 (by kernel_rfl) rfl
instance : IsFn Tryz.prog 45 := isFn_of Tryz.func45 (by kernel_rfl) rfl
instance : IsFn Tryz.prog 46 := isFn_of Tryz.func46 (by kernel_rfl) rfl
instance : IsFn Tryz.prog 47 := isFn_of Tryz.func47 (by kernel_rfl) rfl
instance : IsFn Tryz.prog 48 := isFn_of Tryz.func48 (by kernel_rfl) rfl
instance : IsFn Tryz.prog 49 := isFn_of Tryz.func49 (by kernel_rfl) rfl
instance : IsFn Tryz.prog 50 := isFn_of Tryz.func50 (by kernel_rfl) rfl
instance : IsFn Tryz.prog 51 := isFn_of Tryz.func51 (by kernel_rfl) rfl
instance : IsFn Tryz.prog 52 := isFn_of Tryz.func52 (by kernel_rfl) rfl
instance : IsFn Tryz.prog 53 := isFn_of Tryz.func53 (by kernel_rfl) rfl
instance : IsFn Tryz.prog 54 := isFn_of Tryz.func54 (by kernel_rfl) rfl
instance : IsFn Tryz.prog 55 := isFn_of Tryz.func55 (by kernel_rfl) rfl
instance : IsFn Tryz.prog 56 := isFn_of Tryz.func56 (by kernel_rfl) rfl
instance : IsFn Tryz.prog 57 := isFn_of Tryz.func57 (by kernel_rfl) rfl
instance : IsFn Tryz.prog 58 := isFn_of Tryz.func58 (by kernel_rfl) rfl
instance : IsFn Tryz.prog 59 := isFn_of Tryz.func59 (by kernel_rfl) rfl
instance : IsFn Tryz.prog 60 := isFn_of Tryz.func60 (by kernel_rfl) rfl
instance : IsFn Tryz.prog 61 := isFn_of Tryz.func61 (by kernel_rfl) rfl
instance : IsFn Tryz.prog 62 := isFn_of Tryz.func62 (by kernel_rfl) rfl
instance : IsFn Tryz.prog 63 := isFn_of Tryz.func63 (by kernel_rfl) rfl
instance : IsFn Tryz.prog 64 := isFn_of Tryz.func64 (by kernel_rfl) rfl
instance : IsFn Tryz.prog 65 := isFn_of Tryz.func65 (by kernel_rfl) rfl
instance : IsFn Tryz.prog 66 := isFn_of Tryz.func66 (by kernel_rfl) rfl
instance : IsFn Tryz.prog 67 := isFn_of Tryz.func67 (by kernel_rfl) rfl
instance : IsFn Tryz.prog 68 := isFn_of Tryz.func68 (by kernel_rfl) rfl
instance : IsFn Tryz.prog 69 := isFn_of Tryz.func69 (by kernel_rfl) rfl
instance : IsFn Tryz.prog 70 := isFn_of Tryz.func70 (by kernel_rfl) rfl
instance : IsFn Tryz.prog 71 := isFn_of Tryz.func71 (by kernel_rfl) rfl
instance : IsFn Tryz.prog 72 := isFn_of Tryz.func72 (by kernel_rfl) rfl
instance : IsFn Tryz.prog 73 := isFn_of Tryz.func73 (by kernel_rfl) rfl
instance : IsFn Tryz.prog 74 := isFn_of Tryz.func74 (by kernel_rfl) rfl
instance : IsFn Tryz.prog 75 := isFn_of Tryz.func75 (by kernel_rfl) rfl
instance : IsFn Tryz.prog 76 := isFn_of Tryz.func76 (by kernel_rfl) rfl
instance : IsFn Tryz.prog 77 := isFn_of Tryz.func77 (by kernel_rfl) rfl
instance : IsFn Tryz.prog 78 := isFn_of Tryz.func78 (by kernel_rfl) rfl
instance : IsFn Tryz.prog 79 := isFn_of Tryz.func79 (by kernel_rfl) rfl
instance : IsFn Tryz.prog 80 := isFn_of Tryz.func80 (by kernel_rfl) rfl
instance : IsFn Tryz.prog 81 := isFn_of Tryz.func81 (by kernel_rfl) rfl
instance : IsFn Tryz.prog 82 := isFn_of Tryz.func82 (by kernel_rfl) rfl
instance : IsFn Tryz.prog 83 := isFn_of Tryz.func83 (by kernel_rfl) rfl
instance : IsFn Tryz.prog 84 := isFn_of Tryz.func84 (by kernel_rfl) rfl
instance : IsFn Tryz.prog 85 := isFn_of Tryz.func85 (by kernel_rfl) rfl
instance : IsFn Tryz.prog 86 := isFn_of Tryz.func86 (by kernel_rfl) rfl
instance : IsFn Tryz.prog 87 := isFn_of Tryz.func87 (by kernel_rfl) rfl
instance : IsFn Tryz.prog 88 := isFn_of Tryz.func88 (by kernel_rfl) rfl
instance : IsFn Tryz.prog 89 := isFn_of Tryz.func89 (by kernel_rfl) rfl
instance : IsFn Tryz.prog 90 := isFn_of Tryz.func90 (by kernel_rfl) rfl
instance : IsFn Tryz.prog 91 := isFn_of Tryz.func91 (by kernel_rfl) rfl
instance : IsFn Tryz.prog 92 := isFn_of Tryz.func92 (by kernel_rfl) rfl
instance : IsFn Tryz.prog 93 := isFn_of Tryz.func93 (by kernel_rfl) rfl
instance : IsFn Tryz.prog 94 := isFn_of Tryz.func94 (by kernel_rfl) rfl
instance : IsFn Tryz.prog 95 := isFn_of Tryz.func95 (by kernel_rfl) rfl
instance : IsFn Tryz.prog 96 := isFn_of Tryz.func96 (by kernel_rfl) rfl
instance : IsFn Tryz.prog 97 := isFn_of Tryz.func97 (by kernel_rfl) rfl
instance : IsFn Tryz.prog 98 := isFn_of Tryz.func98 (by kernel_rfl) rfl
instance : IsFn Tryz.prog 99 := isFn_of Tryz.func99 (by kernel_rfl) rfl
instance : IsFn Tryz.prog 100 := isFn_of Tryz.func100 (by kernel_rfl) rfl
instance : IsFn Tryz.prog 101 := isFn_of Tryz.func101 (by kernel_rfl) rfl
instance : IsFn Tryz.prog 102 := isFn_of Tryz.func102 (by kernel_rfl) rfl
instance : IsFn Tryz.prog 103 := isFn_of Tryz.func103 (by kernel_rfl) rfl
instance : IsFn Tryz.prog 104 := isFn_of Tryz.func104 (by kernel_rfl) rfl
instance : IsFn Tryz.prog 105 := isFn_of Tryz.func105 (by kernel_rfl) rfl
instance : IsFn Tryz.prog 106 := isFn_of Tryz.func106 (by kernel_rfl) rfl
instance : IsFn Tryz.prog 107 := isFn_of Tryz.func107 (by kernel_rfl) rfl
instance : IsFn Tryz.prog 108 := isFn_of Tryz.func108 (by kernel_rfl) rfl
instance : IsFn Tryz.prog 109 := isFn_of Tryz.func109 (by kernel_rfl) rfl
instance : IsFn Tryz.prog 110 := isFn_of Tryz.func110 (by kernel_rfl) rfl
instance : IsFn Tryz.prog 111 := isFn_of Tryz.func111 (by kernel_rfl) rfl
instance : IsFn Tryz.prog 112 := isFn_of Tryz.func112 (by kernel_rfl) rfl
instance : IsFn Tryz.prog 113 := isFn_of Tryz.func113 (by kernel_rfl) rfl
instance : IsFn Tryz.prog 114 := isFn_of Tryz.func114 (by kernel_rfl) rfl
instance : IsFn Tryz.prog 115 := isFn_of Tryz.func115 (by kernel_rfl) rfl
instance : IsFn Tryz.prog 116 := isFn_of Tryz.func116 (by kernel_rfl) rfl
instance : IsFn Tryz.prog 117 := isFn_of Tryz.func117 (by kernel_rfl) rfl
instance : IsFn Tryz.prog 118 := isFn_of Tryz.func118 (by kernel_rfl) rfl
instance : IsFn Tryz.prog 119 := isFn_of Tryz.func119 (by kernel_rfl) rfl
instance : IsFn Tryz.prog 120 := isFn_of Tryz.func120 (by kernel_rfl) rfl
instance : IsFn Tryz.prog 121 := isFn_of Tryz.func121 (by kernel_rfl) rfl
instance : IsFn Tryz.prog 122 := isFn_of Tryz.func122 (by kernel_rfl) rfl
instance : IsFn Tryz.prog 123 := isFn_of Tryz.func123 (by kernel_rfl) rfl
instance : IsFn Tryz.prog 124 := isFn_of Tryz.func124 (by kernel_rfl) rfl
instance : IsFn Tryz.prog 125 := isFn_of Tryz.func125 (by kernel_rfl) rfl
instance : IsFn Tryz.prog 126 := isFn_of Tryz.func126 (by kernel_rfl) rfl
instance : IsFn Tryz.prog 127 := isFn_of Tryz.func127 (by kernel_rfl) rfl
instance : IsFn Tryz.prog 128 := isFn_of Tryz.func128 (by kernel_rfl) rfl
instance : IsFn Tryz.prog 129 := isFn_of Tryz.func129 (by kernel_rfl) rfl
instance : IsFn Tryz.prog 130 := isFn_of Tryz.func130 (by kernel_rfl) rfl
instance : IsFn Tryz.prog 131 := isFn_of Tryz.func131 (by kernel_rfl) rfl
instance : IsFn Tryz.prog 132 := isFn_of Tryz.func132 (by kernel_rfl) rfl
instance : IsFn Tryz.prog 133 := isFn_of Tryz.func133 (by kernel_rfl) rfl
instance : IsFn Tryz.prog 134 := isFn_of Tryz.func134 (by kernel_rfl) rfl
instance : IsFn Tryz.prog 135 := isFn_of Tryz.func135 (by kernel_rfl) rfl
instance : IsFn Tryz.prog 136 := isFn_of Tryz.func136 (by kernel_rfl) rfl
instance : IsFn Tryz.prog 137 := isFn_of Tryz.func137 (by kernel_rfl) rfl
instance : IsFn Tryz.prog 138 := isFn_of Tryz.func138 (by kernel_rfl) rfl
instance : IsFn Tryz.prog 139 := isFn_of Tryz.func139 (by kernel_rfl) rfl
instance : IsFn Tryz.prog 140 := isFn_of Tryz.func140 (by kernel_rfl) rfl
instance : IsFn Tryz.prog 141 := isFn_of Tryz.func141 (by kernel_rfl) rfl
instance : IsFn Tryz.prog 142 := isFn_of Tryz.func142 (by kernel_rfl) rfl
instance : IsFn Tryz.prog 143 := isFn_of Tryz.func143 (by kernel_rfl) rfl
instance : IsFn Tryz.prog 144 := isFn_of Tryz.func144 (by kernel_rfl) rfl
instance : IsFn Tryz.prog 145 := isFn_of Tryz.func145 (by kernel_rfl) rfl
instance : IsFn Tryz.prog 146 := isFn_of Tryz.func146 (by kernel_rfl) rfl
instance : IsFn Tryz.prog 147 := isFn_of Tryz.func147 (by kernel_rfl) rfl
instance : IsFn Tryz.prog 148 := isFn_of Tryz.func148 (by kernel_rfl) rfl
instance : IsFn Tryz.prog 149 := isFn_of Tryz.func149 (by kernel_rfl) rfl
instance : IsFn Tryz.prog 150 := isFn_of Tryz.func150 (by kernel_rfl) rfl
instance : IsFn Tryz.prog 151 := isFn_of Tryz.func151 (by kernel_rfl) rfl
instance : IsFn Tryz.prog 152 := isFn_of Tryz.func152 (by kernel_rfl) rfl
instance : IsFn Tryz.prog 153 := isFn_of Tryz.func153 (by kernel_rfl) rfl
instance : IsFn Tryz.prog 154 := isFn_of Tryz.func154 (by kernel_rfl) rfl
instance : IsFn Tryz.prog 155 := isFn_of Tryz.func155 (by kernel_rfl) rfl
instance : IsFn Tryz.prog 156 := isFn_of Tryz.func156 (by kernel_rfl) rfl
instance : IsFn Tryz.prog 157 := isFn_of Tryz.func157 (by kernel_rfl) rfl
instance : IsFn Tryz.prog 158 := isFn_of Tryz.func158 (by kernel_rfl) rfl
instance : IsFn Tryz.prog 159 := isFn_of Tryz.func159 (by kernel_rfl) rfl
instance : IsFn Tryz.prog 160 := isFn_of Tryz.func160 (by kernel_rfl) rfl
instance : IsFn Tryz.prog 161 := isFn_of Tryz.func161 (by kernel_rfl) rfl
instance : IsFn Tryz.prog 162 := isFn_of Tryz.func162 (by kernel_rfl) rfl
instance : IsFn Tryz.prog 163 := isFn_of Tryz.func163 (by kernel_rfl) rfl
instance : IsFn Tryz.prog 164 := isFn_of Tryz.func164 (by kernel_rfl) rfl
instance : IsFn Tryz.prog 165 := isFn_of Tryz.func165 (by kernel_rfl) rfl
instance : IsFn Tryz.prog 166 := isFn_of Tryz.func166 (by kernel_rfl) rfl
instance : IsFn Tryz.prog 167 := isFn_of Tryz.func167 (by kernel_rfl) rfl
instance : IsFn Tryz.prog 168 := isFn_of Tryz.func168 (by kernel_rfl) rfl
instance : IsFn Tryz.prog 169 := isFn_of Tryz.func169 (by kernel_rfl) rfl
instance : IsFn Tryz.prog 170 := isFn_of Tryz.func170 (by kernel_rfl) rfl
instance : IsFn Tryz.prog 171 := isFn_of Tryz.func171 (by kernel_rfl) rfl
instance : IsFn Tryz.prog 172 := isFn_of Tryz.func172 (by kernel_rfl) rfl
instance : IsFn Tryz.prog 173 := isFn_of Tryz.func173 (by kernel_rfl) rfl
instance : IsFn Tryz.prog 174 := isFn_of Tryz.func174 (by kernel_rfl) rfl
instance : IsFn Tryz.prog 175 := isFn_of Tryz.func175 (by kernel_rfl) rfl
instance : IsFn Tryz.prog 176 := isFn_of Tryz.func176 (by kernel_rfl) rfl
instance : IsFn Tryz.prog 177 := isFn_of Tryz.func177 (by kernel_rfl) rfl
instance : IsFn Tryz.prog 178 := isFn_of Tryz.func178 (by kernel_rfl) rfl
instance : IsFn Tryz.prog 179 := isFn_of Tryz.func179 (by kernel_rfl) rfl
instance : IsFn Tryz.prog 180 := isFn_of Tryz.func180 (by kernel_rfl) rfl
instance : IsFn Tryz.prog 181 := isFn_of Tryz.func181 (by kernel_rfl) rfl
instance : IsFn Tryz.prog 182 := isFn_of Tryz.func182 (by kernel_rfl) rfl
instance : IsFn Tryz.prog 183 := isFn_of Tryz.func183 (by kernel_rfl) rfl
instance : IsFn Tryz.prog 184 := isFn_of Tryz.func184 (by kernel_rfl) rfl
instance : IsFn Tryz.prog 185 := isFn_of Tryz.func185 (by kernel_rfl) rfl
instance : IsFn Tryz.prog 186 := isFn_of Tryz.func186 (by kernel_rfl) rfl
instance : IsFn Tryz.prog 187 := isFn_of Tryz.func187 (by kernel_rfl) rfl
instance : IsFn Tryz.prog 188 := isFn_of Tryz.func188 (by kernel_rfl) rfl
instance : IsFn Tryz.prog 189 := isFn_of Tryz.func189 (by kernel_rfl) rfl
instance : IsFn Tryz.prog 190 := isFn_of Tryz.func190 (by kernel_rfl) rfl
instance : IsFn Tryz.prog 191 := isFn_of Tryz.func191 (by kernel_rfl) rfl
instance : IsFn Tryz.prog 192 := isFn_of Tryz.func192 (by kernel_rfl) rfl
instance : IsFn Tryz.prog 193 := isFn_of Tryz.func193 (by kernel_rfl) rfl
instance : IsFn Tryz.prog 194 := isFn_of Tryz.func194 (by kernel_rfl) rfl
instance : IsFn Tryz.prog 195 := isFn_of Tryz.func195 (by kernel_rfl) rfl
instance : IsFn Tryz.prog 196 := isFn_of Tryz.func196 (by kernel_rfl) rfl
instance : IsFn Tryz.prog 197 := isFn_of Tryz.func197 (by kernel_rfl) rfl
instance : IsFn Tryz.prog 198 := isFn_of Tryz.func198 (by kernel_rfl) rfl
instance : IsFn Tryz.prog 199 := isFn_of Tryz.func199 (by kernel_rfl) rfl
instance : IsFn Tryz.prog 200 := isFn_of Tryz.func200 (by kernel_rfl) rfl
instance : IsFn Tryz.prog 201 := isFn_of Tryz.func201 (by kernel_rfl) rfl
instance : IsFn Tryz.prog 202 := isFn_of Tryz.func202 (by kernel_rfl) rfl
instance : IsFn Tryz.prog 203 := isFn_of Tryz.func203 (by kernel_rfl) rfl
instance : IsFn Tryz.prog 204 := isFn_of Tryz.func204 (by kernel_rfl) rfl
instance : IsFn Tryz.prog 205 := isFn_of Tryz.func205 (by kernel_rfl) rfl
instance : IsFn Tryz.prog 206 := isFn_of Tryz.func206 (by kernel_rfl) rfl
instance : IsFn Tryz.prog 207 := isFn_of Tryz.func207 (by kernel_rfl) rfl
instance : IsFn Tryz.prog 208 := isFn_of Tryz.func208 (by kernel_rfl) rfl
instance : IsFn Tryz.prog 209 := isFn_of Tryz.func209 (by kernel_rfl) rfl
instance : IsFn Tryz.prog 210 := isFn_of Tryz.func210 (by kernel_rfl) rfl
instance : IsFn Tryz.prog 211 := isFn_of Tryz.func211 (by kernel_rfl) rfl
instance : IsFn Tryz.prog 212 := isFn_of Tryz.func212 (by kernel_rfl) rfl
instance : IsFn Tryz.prog 213 := isFn_of Tryz.func213 (by kernel_rfl) rfl
instance : IsFn Tryz.prog 214 := isFn_of Tryz.func214 (by kernel_rfl) rfl
instance : IsFn Tryz.prog 215 := isFn_of Tryz.func215 (by kernel_rfl) rfl
instance : IsFn Tryz.prog 216 := isFn_of Tryz.func216 (by kernel_rfl) rfl
instance : IsFn Tryz.prog 217 := isFn_of Tryz.func217 (by kernel_rfl) rfl
instance : IsFn Tryz.prog 218 := isFn_of Tryz.func218 (by kernel_rfl) rfl
instance : IsFn Tryz.prog 219 := isFn_of Tryz.func219 (by kernel_rfl) rfl
instance : IsFn Tryz.prog 220 := isFn_of Tryz.func220 (by kernel_rfl) rfl
instance : IsFn Tryz.prog 221 := isFn_of Tryz.func221 (by kernel_rfl) rfl
instance : IsFn Tryz.prog 222 := isFn_of Tryz.func222 (by kernel_rfl) rfl
instance : IsFn Tryz.prog 223 := isFn_of Tryz.func223 (by kernel_rfl) rfl
instance : IsFn Tryz.prog 224 := isFn_of Tryz.func224 (by kernel_rfl) rfl
instance : IsFn Tryz.prog 225 := isFn_of Tryz.func225 (by kernel_rfl) rfl
instance : IsFn Tryz.prog 226 := isFn_of Tryz.func226 (by kernel_rfl) rfl
instance : IsFn Tryz.prog 227 := isFn_of Tryz.func227 (by kernel_rfl) rfl
instance : IsFn Tryz.prog 228 := isFn_of Tryz.func228 (by kernel_rfl) rfl
instance : IsFn Tryz.prog 229 := isFn_of Tryz.func229 (by kernel_rfl) rfl
instance : IsFn Tryz.prog 230 := isFn_of Tryz.func230 (by kernel_rfl) rfl
instance : IsFn Tryz.prog 231 := isFn_of Tryz.func231 (by kernel_rfl) rfl
instance : IsFn Tryz.prog 232 := isFn_of Tryz.func232 (by kernel_rfl) rfl
instance : IsFn Tryz.prog 233 := isFn_of Tryz.func233 (by kernel_rfl) rfl
instance : IsFn Tryz.prog 234 := isFn_of Tryz.func234 (by kernel_rfl) rfl
instance : IsFn Tryz.prog 235 := isFn_of Tryz.func235 (by kernel_rfl) rfl
instance : IsFn Tryz.prog 236 := isFn_of Tryz.func236 (by kernel_rfl) rfl
instance : IsFn Tryz.prog 237 := isFn_of Tryz.func237 (by kernel_rfl) rfl
instance : IsFn Tryz.prog 238 := isFn_of Tryz.func238 (by kernel_rfl) rfl
instance : IsFn Tryz.prog 239 := isFn_of Tryz.func239 (by kernel_rfl) rfl
instance : IsFn Tryz.prog 240 := isFn_of Tryz.func240 (by kernel_rfl) rfl
instance : IsFn Tryz.prog 241 := isFn_of Tryz.func241 (by kernel_rfl) rfl
instance : IsFn Tryz.prog 242 := isFn_of Tryz.func242 (by kernel_rfl) rfl
instance : IsFn Tryz.prog 243 := isFn_of Tryz.func243 (by kernel_rfl) rfl
instance : IsFn Tryz.prog 244 := isFn_of Tryz.func244 (by kernel_rfl) rfl
instance : IsFn Tryz.prog 245 := isFn_of Tryz.func245 (by kernel_rfl) rfl
instance : IsFn Tryz.prog 246 := isFn_of Tryz.func246 (by kernel_rfl) rfl
instance : IsFn Tryz.prog 247 := isFn_of Tryz.func247 (by kernel_rfl) rfl
instance : IsFn Tryz.prog 248 := isFn_of Tryz.func248 (by kernel_rfl) rfl
instance : IsFn Tryz.prog 249 := isFn_of Tryz.func249 (by kernel_rfl) rfl
instance : IsFn Tryz.prog 250 := isFn_of Tryz.func250 (by kernel_rfl) rfl
instance : IsFn Tryz.prog 251 := isFn_of Tryz.func251 (by kernel_rfl) rfl
instance : IsFn Tryz.prog 252 := isFn_of Tryz.func252 (by kernel_rfl) rfl
instance : IsFn Tryz.prog 253 := isFn_of Tryz.func253 (by kernel_rfl) rfl
instance : IsFn Tryz.prog 254 := isFn_of Tryz.func254 (by kernel_rfl) rfl
instance : IsFn Tryz.prog 255 := isFn_of Tryz.func255 (by kernel_rfl) rfl
instance : IsFn Tryz.prog 256 := isFn_of Tryz.func256 (by kernel_rfl) rfl
instance : IsFn Tryz.prog 257 := isFn_of Tryz.func257 (by kernel_rfl) rfl
instance : IsFn Tryz.prog 258 := isFn_of Tryz.func258 (by kernel_rfl) rfl
instance : IsFn Tryz.prog 259 := isFn_of Tryz.func259 (by kernel_rfl) rfl
instance : IsFn Tryz.prog 260 := isFn_of Tryz.func260 (by kernel_rfl) rfl
instance : IsFn Tryz.prog 261 := isFn_of Tryz.func261 (by kernel_rfl) rfl
instance : IsFn Tryz.prog 262 := isFn_of Tryz.func262 (by kernel_rfl) rfl
instance : IsFn Tryz.prog 263 := isFn_of Tryz.func263 (by kernel_rfl) rfl
instance : IsFn Tryz.prog 264 := isFn_of Tryz.func264 (by kernel_rfl) rfl
instance : IsFn Tryz.prog 265 := isFn_of Tryz.func265 (by kernel_rfl) rfl
instance : IsFn Tryz.prog 266 := isFn_of Tryz.func266 (by kernel_rfl) rfl
instance : IsFn Tryz.prog 267 := isFn_of Tryz.func267 (by kernel_rfl) rfl
instance : IsFn Tryz.prog 268 := isFn_of Tryz.func268 (by kernel_rfl) rfl
instance : IsFn Tryz.prog 269 := isFn_of Tryz.func269 (by kernel_rfl) rfl
instance : IsFn Tryz.prog 270 := isFn_of Tryz.func270 (by kernel_rfl) rfl
instance : IsFn Tryz.prog 271 := isFn_of Tryz.func271 (by kernel_rfl) rfl
instance : IsFn Tryz.prog 272 := isFn_of Tryz.func272 (by kernel_rfl) rfl
instance : IsFn Tryz.prog 273 := isFn_of Tryz.func273 (by kernel_rfl) rfl
instance : IsFn Tryz.prog 274 := isFn_of Tryz.func274 (by kernel_rfl) rfl
instance : IsFn Tryz.prog 275 := isFn_of Tryz.func275 (by kernel_rfl) rfl
instance : IsFn Tryz.prog 276 := isFn_of Tryz.func276 (by kernel_rfl) rfl
instance : IsFn Tryz.prog 277 := isFn_of Tryz.func277 (by kernel_rfl) rfl
instance : IsFn Tryz.prog 278 := isFn_of Tryz.func278 (by kernel_rfl) rfl
instance : IsFn Tryz.prog 279 := isFn_of Tryz.func279 (by kernel_rfl) rfl
instance : IsFn Tryz.prog 280 := isFn_of Tryz.func280 (by kernel_rfl) rfl
instance : IsFn Tryz.prog 281 := isFn_of Tryz.func281 (by kernel_rfl) rfl
instance : IsFn Tryz.prog 282 := isFn_of Tryz.func282 (by kernel_rfl) rfl
instance : IsFn Tryz.prog 283 := isFn_of Tryz.func283 (by kernel_rfl) rfl
instance : IsFn Tryz.prog 284 := isFn_of Tryz.func284 (by kernel_rfl) rfl
instance : IsFn Tryz.prog 285 := isFn_of Tryz.func285 (by kernel_rfl) rfl
instance : IsFn Tryz.prog 286 := isFn_of Tryz.func286 (by kernel_rfl) rfl
instance : IsFn Tryz.prog 287 := isFn_of Tryz.func287 (by kernel_rfl) rfl
instance : IsFn Tryz.prog 288 := isFn_of Tryz.func288 (by kernel_rfl) rfl
instance : IsFn Tryz.prog 289 := isFn_of Tryz.func289 (by kernel_rfl) rfl
instance : IsFn Tryz.prog 290 := isFn_of Tryz.func290 (by kernel_rfl) rfl
instance : IsFn Tryz.prog 291 := isFn_of Tryz.func291 (by kernel_rfl) rfl
instance : IsFn Tryz.prog 292 := isFn_of Tryz.func292 (by kernel_rfl) rfl
instance : IsFn Tryz.prog 293 := isFn_of Tryz.func293 (by kernel_rfl) rfl
instance : IsFn Tryz.prog 294 := isFn_of Tryz.func294 (by kernel_rfl) rfl
instance : IsFn Tryz.prog 295 := isFn_of Tryz.func295 (by kernel_rfl) rfl
instance : IsFn Tryz.prog 296 := isFn_of Tryz.func296 (by kernel_rfl) rfl
instance : IsFn Tryz.prog 297 := isFn_of Tryz.func297 (by kernel_rfl) rfl
instance : IsFn Tryz.prog 298 := isFn_of Tryz.func298 (by kernel_rfl) rfl
instance : IsFn Tryz.prog 299 := isFn_of Tryz.func299 (by kernel_rfl) rfl
instance : IsFn Tryz.prog 300 := isFn_of Tryz.func300 (by kernel_rfl) rfl
instance : IsFn Tryz.prog 301 := isFn_of Tryz.func301 (by kernel_rfl) rfl
instance : IsFn Tryz.prog 302 := isFn_of Tryz.func302 (by kernel_rfl) rfl
instance : IsFn Tryz.prog 303 := isFn_of Tryz.func303 (by kernel_rfl) rfl
instance : IsFn Tryz.prog 304 := isFn_of Tryz.func304 (by kernel_rfl) rfl
instance : IsFn Tryz.prog 305 := isFn_of Tryz.func305 (by kernel_rfl) rfl
instance : IsFn Tryz.prog 306 := isFn_of Tryz.func306 (by kernel_rfl) rfl
instance : IsFn Tryz.prog 307 := isFn_of Tryz.func307 (by kernel_rfl) rfl
instance : IsFn Tryz.prog 308 := isFn_of Tryz.func308 (by kernel_rfl) rfl
instance : IsFn Tryz.prog 309 := isFn_of Tryz.func309 (by kernel_rfl) rfl
instance : IsFn Tryz.prog 310 := isFn_of Tryz.func310 (by kernel_rfl) rfl
instance : IsFn Tryz.prog 311 := isFn_of Tryz.func311 (by kernel_rfl) rfl
instance : IsFn Tryz.prog 312 := isFn_of Tryz.func312 (by kernel_rfl) rfl
instance : IsFn Tryz.prog 313 := isFn_of Tryz.func313 (by kernel_rfl) rfl
instance : IsFn Tryz.prog 314 := isFn_of Tryz.func314 (by kernel_rfl) rfl
instance : IsFn Tryz.prog 315 := isFn_of Tryz.func315 (by kernel_rfl) rfl
instance : IsFn Tryz.prog 316 := isFn_of Tryz.func316 (by kernel_rfl) rfl
instance : IsFn Tryz.prog 317 := isFn_of Tryz.func317 (by kernel_rfl) rfl
instance : IsFn Tryz.prog 318 := isFn_of Tryz.func318 (by kernel_rfl) rfl
instance : IsFn Tryz.prog 319 := isFn_of Tryz.func319 (by kernel_rfl) rfl
instance : IsFn Tryz.prog 320 := isFn_of Tryz.func320 (by kernel_rfl) rfl
instance : IsFn Tryz.prog 321 := isFn_of Tryz.func321 (by kernel_rfl) rfl
instance : IsFn Tryz.prog 322 := isFn_of Tryz.func322 (by kernel_rfl) rfl
instance : IsFn Tryz.prog 323 := isFn_of Tryz.func323 (by kernel_rfl) rfl
instance : IsFn Tryz.prog 324 := isFn_of Tryz.func324 (by kernel_rfl) rfl
instance : IsFn Tryz.prog 325 := isFn_of Tryz.func325 (by kernel_rfl) rfl
instance : IsFn Tryz.prog 326 := isFn_of Tryz.func326 (by kernel_rfl) rfl
instance : IsFn Tryz.prog 327 := isFn_of Tryz.func327 (by kernel_rfl) rfl
instance : IsFn Tryz.prog 328 := isFn_of Tryz.func328 (by kernel_rfl) rfl
instance : IsFn Tryz.prog 329 := isFn_of Tryz.func329 (by kernel_rfl) rfl
instance : IsFn Tryz.prog 330 := isFn_of Tryz.func330 (by kernel_rfl) rfl
instance : IsFn Tryz.prog 348 := isFn_of Tryz.func348 (by kernel_rfl) rfl
instance : ResC Tryz.f2 [] := ⟨rfl⟩
instance : ResC Tryz.f3 [.tmp 4] := ⟨rfl⟩
instance : ResC Tryz.f4 [.tmp 2] := ⟨rfl⟩
instance : ResC Tryz.f5 [.tmp 4] := ⟨rfl⟩
instance : ResC Tryz.f6 [.cell 4 31, .tmp 5] := ⟨rfl⟩
instance : ResC Tryz.f7 [.cell 2 37] := ⟨rfl⟩
instance : ResC Tryz.f8 [.cell 4 31, .tmp 5] := ⟨rfl⟩
instance : ResC Tryz.f9 [.tmp 4] := ⟨rfl⟩
instance : ResC Tryz.f10 [.tmp 4] := ⟨rfl⟩
instance : ResC Tryz.f11 [.tmp 4] := ⟨rfl⟩
instance : ResC Tryz.f12 [.tmp 4] := ⟨rfl⟩
instance : ResC Tryz.f13 [.tmp 4] := ⟨rfl⟩
instance : ResC Tryz.f14 [.tmp 2] := ⟨rfl⟩
instance : ResC Tryz.f15 [.cell 2 34, .cell 3 48, .cell 4 48] := ⟨rfl⟩
instance : ResC Tryz.f16 [.cell 6 48, .tmp 7] := ⟨rfl⟩
instance : ResC Tryz.f17 [.cell 6 48, .tmp 7] := ⟨rfl⟩
instance : ResC Tryz.f18 [.cell 4 48, .tmp 5] := ⟨rfl⟩
instance : ResC Tryz.f19 [.cell 4 48, .tmp 5] := ⟨rfl⟩
instance : ResC Tryz.f20 [.cell 6 48, .tmp 7] := ⟨rfl⟩
instance : ResC Tryz.f21 [.cell 6 48, .tmp 7] := ⟨rfl⟩
instance : ResC Tryz.f22 [.cell 4 48, .tmp 5] := ⟨rfl⟩
instance : ResC Tryz.f23 [.tmp 4] := ⟨rfl⟩
instance : ResC Tryz.f24 [.tmp 4] := ⟨rfl⟩
instance : ResC Tryz.f25 [.tmp 4] := ⟨rfl⟩
instance : ResC Tryz.f26 [.tmp 4, .tmp 5] := ⟨rfl⟩
instance : ResC Tryz.f27 [.tmp 6] := ⟨rfl⟩
instance : ResC Tryz.f28 [.tmp 6] := ⟨rfl⟩
instance : ResC Tryz.f29 [.tmp 4] := ⟨rfl⟩
instance : ResC Tryz.f30 [.tmp 4] := ⟨rfl⟩
instance : ResC Tryz.f31 [.cell 4 62, .tmp 5] := ⟨rfl⟩
instance : ResC Tryz.f32 [.tmp 2] := ⟨rfl⟩
instance : ResC Tryz.f33 [.cell 2 31, .tmp 3] := ⟨rfl⟩
instance : ResC Tryz.f34 [.cell 2 34] := ⟨rfl⟩
instance : ResC Tryz.f35 [.tmp 2] := ⟨rfl⟩
instance : ResC Tryz.f36 [.tmp 2] := ⟨rfl⟩
instance : ResC Tryz.f37 [.cell 4 62, .tmp 5] := ⟨rfl⟩
instance : ResC Tryz.f38 [.tmp 4] := ⟨rfl⟩
instance : ResC Tryz.f39 [.tmp 4] := ⟨rfl⟩
instance : ResC Tryz.f40 [.tmp 4] := ⟨rfl⟩
instance : ResC Tryz.f41 [.tmp 4] := ⟨rfl⟩
instance : ResC Tryz.f42 [.tmp 4] := ⟨rfl⟩
instance : ResC Tryz.f43 [.tmp 4] := ⟨rfl⟩
instance : ResC Tryz.f44 [.tmp 4] := ⟨rfl⟩
instance : ResC Tryz.f45 [.tmp 2] := ⟨rfl⟩
instance : ResC Tryz.f46 [.cell 2 34, .cell 3 48] := ⟨rfl⟩
instance : ResC Tryz.f47 [.tmp 2] := ⟨rfl⟩
instance : ResC Tryz.f48 [.cell 4 48] := ⟨rfl⟩
instance : ResC Tryz.f49 [.tmp 4] := ⟨rfl⟩
instance : ResC Tryz.f50 [.tmp 2] := ⟨rfl⟩
instance : ResC Tryz.f51 [.tmp 4] := ⟨rfl⟩
instance : ResC Tryz.f52 [.tmp 6] := ⟨rfl⟩
instance : ResC Tryz.f53 [] := ⟨rfl⟩
instance : ResC Tryz.f54 [.tmp 4] := ⟨rfl⟩
instance : ResC Tryz.f55 [.tmp 2] := ⟨rfl⟩
instance : ResC Tryz.f56 [.cell 4 48, .tmp 5] := ⟨rfl⟩
instance : ResC Tryz.f57 [.tmp 2] := ⟨rfl⟩
instance : ResC Tryz.f58 [.tmp 2] := ⟨rfl⟩
instance : ResC Tryz.f59 [.tmp 4] := ⟨rfl⟩
instance : ResC Tryz.f60 [.tmp 6] := ⟨rfl⟩
instance : ResC Tryz.f61 [.tmp 6] := ⟨rfl⟩
instance : ResC Tryz.f62 [.tmp 4, .tmp 5] := ⟨rfl⟩
instance : ResC Tryz.f63 [.tmp 6] := ⟨rfl⟩
instance : ResC Tryz.f64 [.tmp 2] := ⟨rfl⟩
instance : ResC Tryz.f65 [.tmp 4] := ⟨rfl⟩
instance : ResC Tryz.f66 [.cell 2 48] := ⟨rfl⟩
instance : ResC Tryz.f67 [.tmp 4, .tmp 5] := ⟨rfl⟩
instance : ResC Tryz.f68 [.tmp 4] := ⟨rfl⟩
instance : ResC Tryz.f69 [.tmp 4] := ⟨rfl⟩
instance : ResC Tryz.f70 [.tmp 4] := ⟨rfl⟩
instance : ResC Tryz.f71 [.tmp 4] := ⟨rfl⟩
instance : ResC Tryz.f72 [.tmp 6] := ⟨rfl⟩
instance : ResC Tryz.f73 [.tmp 4] := ⟨rfl⟩
instance : ResC Tryz.f74 [.tmp 2] := ⟨rfl⟩
instance : ResC Tryz.f75 [.tmp 4] := ⟨rfl⟩
instance : ResC Tryz.f76 [.tmp 3] := ⟨rfl⟩
instance : ResC Tryz.f77 [.tmp 4] := ⟨rfl⟩
instance : ResC Tryz.f78 [.tmp 6] := ⟨rfl⟩
instance : ResC Tryz.f79 [.tmp 4] := ⟨rfl⟩
instance : ResC Tryz.f80 [.tmp 6] := ⟨rfl⟩
instance : ResC Tryz.f81 [.tmp 4] := ⟨rfl⟩
instance : ResC Tryz.f82 [.tmp 6] := ⟨rfl⟩
instance : ResC Tryz.f83 [.tmp 4] := ⟨rfl⟩
instance : ResC Tryz.f84 [.tmp 4] := ⟨rfl⟩
instance : ResC Tryz.f85 [.tmp 2, .tmp 3] := ⟨rfl⟩
instance : ResC Tryz.f86 [.cell 4 130, .tmp 5] := ⟨rfl⟩
instance : ResC Tryz.f87 [.tmp 4, .tmp 5] := ⟨rfl⟩
instance : ResC Tryz.f88 [.tmp 2, .tmp 3] := ⟨rfl⟩
instance : ResC Tryz.f89 [.cell 2 62] := ⟨rfl⟩
instance : ResC Tryz.f90 [.tmp 4] := ⟨rfl⟩
instance : ResC Tryz.f91 [.cell 4 31, .tmp 5] := ⟨rfl⟩
instance : ResC Tryz.f92 [.tmp 2] := ⟨rfl⟩
instance : ResC Tryz.f93 [.cell 2 143] := ⟨rfl⟩
instance : ResC Tryz.f94 [.tmp 2] := ⟨rfl⟩
instance : ResC Tryz.f95 [.tmp 4] := ⟨rfl⟩
instance : ResC Tryz.f96 [.tmp 2, .tmp 3] := ⟨rfl⟩
instance : ResC Tryz.f97 [.cell 4 130, .tmp 5] := ⟨rfl⟩
instance : ResC Tryz.f98 [.tmp 2] := ⟨rfl⟩
instance : ResC Tryz.f99 [.tmp 4, .tmp 5] := ⟨rfl⟩
instance : ResC Tryz.f100 [.tmp 2, .tmp 3] := ⟨rfl⟩
instance : ResC Tryz.f101 [.cell 2 62] := ⟨rfl⟩
instance : ResC Tryz.f102 [.tmp 4] := ⟨rfl⟩
instance : ResC Tryz.f103 [.tmp 4] := ⟨rfl⟩
instance : ResC Tryz.f104 [.tmp 4] := ⟨rfl⟩
instance : ResC Tryz.f105 [.tmp 4] := ⟨rfl⟩
instance : ResC Tryz.f106 [.tmp 4] := ⟨rfl⟩
instance : ResC Tryz.f107 [.tmp 4] := ⟨rfl⟩
instance : ResC Tryz.f108 [.tmp 4] := ⟨rfl⟩
instance : ResC Tryz.f109 [.cell 2 34] := ⟨rfl⟩
instance : ResC Tryz.f110 [.tmp 4] := ⟨rfl⟩
instance : ResC Tryz.f111 [.tmp 4] := ⟨rfl⟩
instance : ResC Tryz.f112 [.tmp 4] := ⟨rfl⟩
instance : ResC Tryz.f113 [.cell 2 34] := ⟨rfl⟩
instance : ResC Tryz.f114 [.tmp 4] := ⟨rfl⟩
instance : ResC Tryz.f115 [.tmp 3] := ⟨rfl⟩
instance : ResC Tryz.f116 [.tmp 4] := ⟨rfl⟩
instance : ResC Tryz.f117 [] := ⟨rfl⟩
instance : ResC Tryz.f118 [.tmp 2] := ⟨rfl⟩
instance : ResC Tryz.f119 [.tmp 4] := ⟨rfl⟩
instance : ResC Tryz.f120 [.tmp 4] := ⟨rfl⟩
instance : ResC Tryz.f121 [.tmp 6, .tmp 7, .tmp 8] := ⟨rfl⟩
instance : ResC Tryz.f122 [.tmp 4] := ⟨rfl⟩
instance : ResC Tryz.f123 [.tmp 4] := ⟨rfl⟩
instance : ResC Tryz.f124 [.tmp 4] := ⟨rfl⟩
instance : ResC Tryz.f125 [.tmp 6, .tmp 7] := ⟨rfl⟩
instance : ResC Tryz.f126 [.tmp 4] := ⟨rfl⟩
instance : ResC Tryz.f127 [.tmp 3] := ⟨rfl⟩
instance : ResC Tryz.f128 [.tmp 4] := ⟨rfl⟩
instance : ResC Tryz.f129 [.tmp 4] := ⟨rfl⟩
instance : ResC Tryz.f130 [.tmp 4] := ⟨rfl⟩
instance : ResC Tryz.f131 [.tmp 8] := ⟨rfl⟩
instance : ResC Tryz.f132 [.tmp 4] := ⟨rfl⟩
instance : ResC Tryz.f133 [.tmp 2] := ⟨rfl⟩
instance : ResC Tryz.f134 [.tmp 8] := ⟨rfl⟩
instance : ResC Tryz.f135 [.tmp 2] := ⟨rfl⟩
instance : ResC Tryz.f136 [.tmp 4] := ⟨rfl⟩
instance : ResC Tryz.f137 [.tmp 2, .tmp 3] := ⟨rfl⟩
instance : ResC Tryz.f138 [.tmp 4, .tmp 5] := ⟨rfl⟩
instance : ResC Tryz.f139 [.cell 4 130, .tmp 5] := ⟨rfl⟩
instance : ResC Tryz.f140 [.tmp 6, .tmp 7] := ⟨rfl⟩
instance : ResC Tryz.f141 [.tmp 4] := ⟨rfl⟩
instance : ResC Tryz.f142 [.tmp 4] := ⟨rfl⟩
instance : ResC Tryz.f143 [.tmp 4] := ⟨rfl⟩
instance : ResC Tryz.f144 [.tmp 2, .tmp 3] := ⟨rfl⟩
instance : ResC Tryz.f145 [.tmp 4] := ⟨rfl⟩
instance : ResC Tryz.f146 [.tmp 4] := ⟨rfl⟩
instance : ResC Tryz.f147 [.tmp 2] := ⟨rfl⟩
instance : ResC Tryz.f148 [.cell 4 186, .tmp 5] := ⟨rfl⟩
instance : ResC Tryz.f149 [.tmp 4] := ⟨rfl⟩
instance : ResC Tryz.f150 [.tmp 4] := ⟨rfl⟩
instance : ResC Tryz.f151 [.tmp 4] := ⟨rfl⟩
instance : ResC Tryz.f152 [.tmp 2] := ⟨rfl⟩
instance : ResC Tryz.f153 [.tmp 4] := ⟨rfl⟩
instance : ResC Tryz.f154 [.cell 2 31] := ⟨rfl⟩
instance : ResC Tryz.f155 [.cell 2 62] := ⟨rfl⟩
instance : ResC Tryz.f156 [.tmp 4, .tmp 5] := ⟨rfl⟩
instance : ResC Tryz.f157 [.tmp 2] := ⟨rfl⟩
instance : ResC Tryz.f158 [.tmp 4, .tmp 5] := ⟨rfl⟩
instance : ResC Tryz.f159 [.tmp 4] := ⟨rfl⟩
instance : ResC Tryz.f160 [.tmp 6] := ⟨rfl⟩
instance : ResC Tryz.f161 [.tmp 2] := ⟨rfl⟩
instance : ResC Tryz.f162 [.tmp 2] := ⟨rfl⟩
instance : ResC Tryz.f163 [.tmp 4] := ⟨rfl⟩
instance : ResC Tryz.f164 [.tmp 4] := ⟨rfl⟩
instance : ResC Tryz.f165 [.tmp 4] := ⟨rfl⟩
instance : ResC Tryz.f166 [.tmp 4, .tmp 5] := ⟨rfl⟩
instance : ResC Tryz.f167 [.tmp 6] := ⟨rfl⟩
instance : ResC Tryz.f168 [.tmp 2, .tmp 3] := ⟨rfl⟩
instance : ResC Tryz.f169 [.tmp 4] := ⟨rfl⟩
instance : ResC Tryz.f170 [.tmp 4] := ⟨rfl⟩
instance : ResC Tryz.f171 [.tmp 2] := ⟨rfl⟩
instance : ResC Tryz.f172 [.tmp 6, .tmp 7] := ⟨rfl⟩
instance : ResC Tryz.f173 [.tmp 8, .tmp 9] := ⟨rfl⟩
instance : ResC Tryz.f174 [.tmp 6, .tmp 7] := ⟨rfl⟩
instance : ResC Tryz.f175 [.tmp 8, .tmp 9] := ⟨rfl⟩
instance : ResC Tryz.f176 [.tmp 4] := ⟨rfl⟩
instance : ResC Tryz.f177 [.tmp 2] := ⟨rfl⟩
instance : ResC Tryz.f178 [.tmp 4] := ⟨rfl⟩
instance : ResC Tryz.f179 [.tmp 2] := ⟨rfl⟩
instance : ResC Tryz.f180 [.tmp 2] := ⟨rfl⟩
instance : ResC Tryz.f181 [.tmp 4] := ⟨rfl⟩
instance : ResC Tryz.f182 [.tmp 6] := ⟨rfl⟩
instance : ResC Tryz.f183 [.tmp 4] := ⟨rfl⟩
instance : ResC Tryz.f184 [.tmp 3] := ⟨rfl⟩
instance : ResC Tryz.f185 [] := ⟨rfl⟩
instance : ResC Tryz.f186 [] := ⟨rfl⟩
instance : ResC Tryz.f187 [] := ⟨rfl⟩
instance : ResC Tryz.f188 [.tmp 8, .tmp 9] := ⟨rfl⟩
instance : ResC Tryz.f189 [] := ⟨rfl⟩
instance : ResC Tryz.f190 [.tmp 8] := ⟨rfl⟩
instance : ResC Tryz.f191 [.tmp 10] := ⟨rfl⟩
instance : ResC Tryz.f192 [.tmp 10, .tmp 11] := ⟨rfl⟩
instance : ResC Tryz.f193 [.tmp 2] := ⟨rfl⟩
instance : ResC Tryz.f194 [.tmp 2] := ⟨rfl⟩
instance : ResC Tryz.f195 [.tmp 4] := ⟨rfl⟩
instance : ResC Tryz.f196 [.tmp 6] := ⟨rfl⟩
instance : ResC Tryz.f197 [.tmp 2] := ⟨rfl⟩
instance : ResC Tryz.f198 [.tmp 6] := ⟨rfl⟩
instance : ResC Tryz.f199 [.tmp 2] := ⟨rfl⟩
instance : ResC Tryz.f200 [.tmp 6] := ⟨rfl⟩
instance : ResC Tryz.f201 [.tmp 6] := ⟨rfl⟩
instance : ResC Tryz.f202 [.tmp 8] := ⟨rfl⟩
instance : ResC Tryz.f203 [.tmp 2] := ⟨rfl⟩
instance : ResC Tryz.f204 [.tmp 4] := ⟨rfl⟩
instance : ResC Tryz.f205 [.tmp 4] := ⟨rfl⟩
instance : ResC Tryz.f206 [.tmp 4] := ⟨rfl⟩
instance : ResC Tryz.f207 [.tmp 8] := ⟨rfl⟩
instance : ResC Tryz.f208 [.cell 6 236, .tmp 7] := ⟨rfl⟩
instance : ResC Tryz.f209 [.tmp 6] := ⟨rfl⟩
instance : ResC Tryz.f210 [.tmp 6] := ⟨rfl⟩
instance : ResC Tryz.f211 [.tmp 4, .tmp 5] := ⟨rfl⟩
instance : ResC Tryz.f212 [.tmp 6, .tmp 7] := ⟨rfl⟩
instance : ResC Tryz.f213 [.tmp 4, .tmp 5] := ⟨rfl⟩
instance : ResC Tryz.f214 [.tmp 6, .tmp 7] := ⟨rfl⟩
instance : ResC Tryz.f215 [.tmp 6] := ⟨rfl⟩
instance : ResC Tryz.f216 [.tmp 2] := ⟨rfl⟩
instance : ResC Tryz.f217 [.tmp 2] := ⟨rfl⟩
instance : ResC Tryz.f218 [] := ⟨rfl⟩
instance : ResC Tryz.f219 [.tmp 6] := ⟨rfl⟩
instance : ResC Tryz.f220 [.tmp 4] := ⟨rfl⟩
instance : ResC Tryz.f221 [.tmp 4] := ⟨rfl⟩
instance : ResC Tryz.f222 [] := ⟨rfl⟩
instance : ResC Tryz.f223 [.tmp 4] := ⟨rfl⟩
instance : ResC Tryz.f224 [.tmp 8] := ⟨rfl⟩
instance : ResC Tryz.f225 [.tmp 8, .tmp 9] := ⟨rfl⟩
instance : ResC Tryz.f226 [.tmp 2, .tmp 3] := ⟨rfl⟩
instance : ResC Tryz.f227 [.tmp 6] := ⟨rfl⟩
instance : ResC Tryz.f228 [.tmp 6] := ⟨rfl⟩
instance : ResC Tryz.f229 [.tmp 6] := ⟨rfl⟩
instance : ResC Tryz.f230 [.tmp 8] := ⟨rfl⟩
instance : ResC Tryz.f231 [.tmp 6, .tmp 7] := ⟨rfl⟩
instance : ResC Tryz.f232 [.tmp 4] := ⟨rfl⟩
instance : ResC Tryz.f233 [] := ⟨rfl⟩
instance : ResC Tryz.f234 [.tmp 2] := ⟨rfl⟩
instance : ResC Tryz.f235 [.tmp 2] := ⟨rfl⟩
instance : ResC Tryz.f236 [.tmp 8] := ⟨rfl⟩
instance : ResC Tryz.f237 [.tmp 12] := ⟨rfl⟩
instance : ResC Tryz.f238 [.tmp 2] := ⟨rfl⟩
instance : ResC Tryz.f239 [.tmp 4] := ⟨rfl⟩
instance : ResC Tryz.f240 [.tmp 2] := ⟨rfl⟩
instance : ResC Tryz.f241 [.tmp 4] := ⟨rfl⟩
instance : ResC Tryz.f242 [.tmp 8] := ⟨rfl⟩
instance : ResC Tryz.f243 [.tmp 6] := ⟨rfl⟩
instance : ResC Tryz.f244 [.tmp 4] := ⟨rfl⟩
instance : ResC Tryz.f245 [.tmp 4] := ⟨rfl⟩
instance : ResC Tryz.f246 [.tmp 4] := ⟨rfl⟩
instance : ResC Tryz.f247 [.cell 6 141, .tmp 7] := ⟨rfl⟩
instance : ResC Tryz.f248 [.tmp 4] := ⟨rfl⟩
instance : ResC Tryz.f249 [.tmp 2] := ⟨rfl⟩
instance : ResC Tryz.f250 [.tmp 6] := ⟨rfl⟩
instance : ResC Tryz.f251 [.tmp 6] := ⟨rfl⟩
instance : ResC Tryz.f252 [.tmp 4, .tmp 5] := ⟨rfl⟩
instance : ResC Tryz.f253 [.tmp 8] := ⟨rfl⟩
instance : ResC Tryz.f254 [.tmp 4] := ⟨rfl⟩
instance : ResC Tryz.f255 [.tmp 4] := ⟨rfl⟩
instance : ResC Tryz.f256 [.tmp 4] := ⟨rfl⟩
instance : ResC Tryz.f257 [.tmp 4] := ⟨rfl⟩
instance : ResC Tryz.f258 [.tmp 6] := ⟨rfl⟩
instance : ResC Tryz.f259 [.tmp 4] := ⟨rfl⟩
instance : ResC Tryz.f260 [.tmp 4] := ⟨rfl⟩
instance : ResC Tryz.f261 [.tmp 10, .tmp 11] := ⟨rfl⟩
instance : ResC Tryz.f262 [.tmp 4, .tmp 5] := ⟨rfl⟩
instance : ResC Tryz.f263 [.tmp 4] := ⟨rfl⟩
instance : ResC Tryz.f264 [.tmp 8, .tmp 9] := ⟨rfl⟩
instance : ResC Tryz.f265 [.tmp 10] := ⟨rfl⟩
instance : ResC Tryz.f266 [.tmp 4, .tmp 5] := ⟨rfl⟩
instance : ResC Tryz.f267 [.tmp 4] := ⟨rfl⟩
instance : ResC Tryz.f268 [.tmp 4] := ⟨rfl⟩
instance : ResC Tryz.f269 [.tmp 8] := ⟨rfl⟩
instance : ResC Tryz.f270 [.tmp 8] := ⟨rfl⟩
instance : ResC Tryz.f271 [.cell 8 141, .tmp 9] := ⟨rfl⟩
instance : ResC Tryz.f272 [.tmp 4, .tmp 5] := ⟨rfl⟩
instance : ResC Tryz.f273 [.cell 6 236, .tmp 7] := ⟨rfl⟩
instance : ResC Tryz.f274 [.tmp 4, .tmp 5] := ⟨rfl⟩
instance : ResC Tryz.f275 [.cell 6 4] := ⟨rfl⟩
instance : ResC Tryz.f276 [.tmp 2] := ⟨rfl⟩
instance : ResC Tryz.f277 [.tmp 6] := ⟨rfl⟩
instance : ResC Tryz.f278 [.cell 6 141, .tmp 7] := ⟨rfl⟩
instance : ResC Tryz.f279 [.tmp 10, .tmp 11] := ⟨rfl⟩
instance : ResC Tryz.f280 [.tmp 2] := ⟨rfl⟩
instance : ResC Tryz.f281 [.tmp 6] := ⟨rfl⟩
instance : ResC Tryz.f282 [.tmp 6] := ⟨rfl⟩
instance : ResC Tryz.f283 [.tmp 6] := ⟨rfl⟩
instance : ResC Tryz.f284 [.tmp 6] := ⟨rfl⟩
instance : ResC Tryz.f285 [.tmp 4] := ⟨rfl⟩
instance : ResC Tryz.f286 [.tmp 8] := ⟨rfl⟩
instance : ResC Tryz.f287 [.tmp 4] := ⟨rfl⟩
instance : ResC Tryz.f288 [.cell 6 141, .tmp 7] := ⟨rfl⟩
instance : ResC Tryz.f289 [.tmp 4] := ⟨rfl⟩
instance : ResC Tryz.f290 [.tmp 4] := ⟨rfl⟩
instance : ResC Tryz.f291 [.tmp 6] := ⟨rfl⟩
instance : ResC Tryz.f292 [.tmp 4] := ⟨rfl⟩
instance : ResC Tryz.f293 [.tmp 2] := ⟨rfl⟩
instance : ResC Tryz.f294 [.tmp 8] := ⟨rfl⟩
instance : ResC Tryz.f295 [.tmp 6] := ⟨rfl⟩
instance : ResC Tryz.f296 [.tmp 6] := ⟨rfl⟩
instance : ResC Tryz.f297 [.tmp 6] := ⟨rfl⟩
instance : ResC Tryz.f298 [.tmp 4, .tmp 5] := ⟨rfl⟩
instance : ResC Tryz.f299 [.tmp 4, .tmp 5] := ⟨rfl⟩
instance : ResC Tryz.f300 [.tmp 4] := ⟨rfl⟩
instance : ResC Tryz.f301 [.cell 10 141, .tmp 11] := ⟨rfl⟩
instance : ResC Tryz.f302 [.tmp 4] := ⟨rfl⟩
instance : ResC Tryz.f303 [.tmp 4] := ⟨rfl⟩
instance : ResC Tryz.f304 [.tmp 6] := ⟨rfl⟩
instance : ResC Tryz.f305 [] := ⟨rfl⟩
instance : ResC Tryz.f306 [] := ⟨rfl⟩
instance : ResC Tryz.f307 [.tmp 4] := ⟨rfl⟩
instance : ResC Tryz.f308 [.cell 6 141, .tmp 7] := ⟨rfl⟩
instance : ResC Tryz.f309 [.tmp 6] := ⟨rfl⟩
instance : ResC Tryz.f310 [.tmp 4] := ⟨rfl⟩
instance : ResC Tryz.f311 [.tmp 4] := ⟨rfl⟩
instance : ResC Tryz.f312 [.tmp 8] := ⟨rfl⟩
instance : ResC Tryz.f313 [.cell 8 141, .tmp 9] := ⟨rfl⟩
instance : ResC Tryz.f314 [.cell 6 141, .tmp 7] := ⟨rfl⟩
instance : ResC Tryz.f315 [.tmp 6] := ⟨rfl⟩
instance : ResC Tryz.f316 [.cell 2 141] := ⟨rfl⟩
instance : ResC Tryz.f317 [.cell 4 141, .tmp 5] := ⟨rfl⟩
instance : ResC Tryz.f318 [.tmp 4] := ⟨rfl⟩
instance : ResC Tryz.f319 [.tmp 4] := ⟨rfl⟩
instance : ResC Tryz.f320 [.tmp 3] := ⟨rfl⟩
instance : ResC Tryz.f321 [.tmp 4] := ⟨rfl⟩
instance : ResC Tryz.f322 [.tmp 8] := ⟨rfl⟩
instance : ResC Tryz.f323 [.tmp 4] := ⟨rfl⟩
instance : ResC Tryz.f324 [.tmp 4] := ⟨rfl⟩
instance : ResC Tryz.f325 [.cell 6 141, .tmp 7] := ⟨rfl⟩
instance : ResC Tryz.f326 [.tmp 6] := ⟨rfl⟩
instance : ResC Tryz.f327 [.tmp 6] := ⟨rfl⟩
instance : ResC Tryz.f328 [.tmp 2] := ⟨rfl⟩
instance : ResC Tryz.f329 [.tmp 2] := ⟨rfl⟩
instance : ResC Tryz.f330 [.tmp 4] := ⟨rfl⟩
instance : ResC Tryz.f348 [.tmp 8] := ⟨rfl⟩
end Go.Proofs
