/- The engine's classes at this program: its types, its functions. Written by a program. -/
import Derived.Test.YtbhaicloopllmaaChecked
import Derived.Test.YtbhaicloopllmaaEngJ
namespace Go.Proofs
open Go Go.Eng
set_option linter.unusedVariables false
set_option maxRecDepth 20000
instance : Mixed Try.prog := ⟨by kernel_rfl⟩
instance : Sc Try.prog 1 := ⟨fun w => Try.isAgg1 w, fun w => Try.sizeOf1 w⟩
instance : Zr Try.prog 1 [.nilFunc] := ⟨_, fun w => Try.zeroValue1 w, rfl⟩
instance : Sc Try.prog 2 := ⟨fun w => Try.isAgg2 w, fun w => Try.sizeOf2 w⟩
instance : Zr Try.prog 2 [(.int .i64 (0))] := ⟨_, fun w => Try.zeroValue2 w, rfl⟩
instance : I64T Try.prog 2 := ⟨Try.underlying2⟩
instance : Sc Try.prog 3 := ⟨fun w => Try.isAgg3 w, fun w => Try.sizeOf3 w⟩
instance : Zr Try.prog 3 [(.int .i64 (0))] := ⟨_, fun w => Try.zeroValue3 w, rfl⟩
instance : I64T Try.prog 3 := ⟨Try.underlying3⟩
instance : Sc Try.prog 4 := ⟨fun w => Try.isAgg4 w, fun w => Try.sizeOf4 w⟩
instance : Zr Try.prog 4 [(.bool false)] := ⟨_, fun w => Try.zeroValue4 w, rfl⟩
instance : IsBool Try.prog 4 := ⟨Try.underlying4⟩
instance : Sc Try.prog 5 := ⟨fun w => Try.isAgg5 w, fun w => Try.sizeOf5 w⟩
instance : Zr Try.prog 5 [(.int .u8 (0))] := ⟨_, fun w => Try.zeroValue5 w, rfl⟩
instance : Sc Try.prog 9 := ⟨fun w => Try.isAgg9 w, fun w => Try.sizeOf9 w⟩
instance : Zr Try.prog 9 [(.string ByteArray.empty)] := ⟨_, fun w => Try.zeroValue9 w, rfl⟩
instance : IsStr Try.prog 9 := ⟨Try.underlying9⟩
instance : Sc Try.prog 12 := ⟨fun w => Try.isAgg12 w, fun w => Try.sizeOf12 w⟩
instance : Zr Try.prog 12 [(.int .u64 (0))] := ⟨_, fun w => Try.zeroValue12 w, rfl⟩
instance : Ag Try.prog 13 2 := ⟨fun w => Try.isAgg13 w, fun w => Try.sizeOf13 w⟩
instance : Zr Try.prog 13 [(.string ByteArray.empty), (.int .u64 (0))] := ⟨_, fun w => Try.zeroValue13 w, rfl⟩
instance : Fo Try.prog 13 0 0 := ⟨fun w a => by simp [Instr.fieldAt, Instr.sureAddr, fieldPlace]⟩
instance : Fo Try.prog 13 1 1 := ⟨fun w a => by simp [Instr.fieldAt, Instr.sureAddr, fieldPlace]⟩
instance : StT Try.prog 13 [(0, 1), (1, 1)] [(.string ByteArray.empty), (.int .u64 (0))] := ⟨_, Try.t13, _, Try.underlying13, by kernel_rfl, by kernel_rfl, rfl, rfl⟩
instance : Sc Try.prog 20 := ⟨fun w => Try.isAgg20 w, fun w => Try.sizeOf20 w⟩
instance : Zr Try.prog 20 [.nilIface] := ⟨_, fun w => Try.zeroValue20 w, rfl⟩
instance : Sc Try.prog 21 := ⟨fun w => Try.isAgg21 w, fun w => Try.sizeOf21 w⟩
instance : Zr Try.prog 21 [(.int .i32 (0))] := ⟨_, fun w => Try.zeroValue21 w, rfl⟩
instance : Sc Try.prog 22 := ⟨fun w => Try.isAgg22 w, fun w => Try.sizeOf22 w⟩
instance : Zr Try.prog 22 [.nilFunc] := ⟨_, fun w => Try.zeroValue22 w, rfl⟩
instance : Sc Try.prog 23 := ⟨fun w => Try.isAgg23 w, fun w => Try.sizeOf23 w⟩
instance : Zr Try.prog 23 [.nilFunc] := ⟨_, fun w => Try.zeroValue23 w, rfl⟩
instance : Sc Try.prog 24 := ⟨fun w => Try.isAgg24 w, fun w => Try.sizeOf24 w⟩
instance : Zr Try.prog 24 [.nilFunc] := ⟨_, fun w => Try.zeroValue24 w, rfl⟩
instance : Sc Try.prog 25 := ⟨fun w => Try.isAgg25 w, fun w => Try.sizeOf25 w⟩
instance : Zr Try.prog 25 [.nilFunc] := ⟨_, fun w => Try.zeroValue25 w, rfl⟩
instance : Sc Try.prog 26 := ⟨fun w => Try.isAgg26 w, fun w => Try.sizeOf26 w⟩
instance : Zr Try.prog 26 [(.slice none 0 0)] := ⟨_, fun w => Try.zeroValue26 w, rfl⟩
instance : Sl Try.prog 26 1 8 := ⟨2, Try.t2, _, Try.underlying26, by kernel_rfl, rfl, rfl, rfl, rfl, by decide⟩
instance : SlZ Try.prog 26 [(.int .i64 (0))] := ⟨fun {e i z} h1 h2 h3 => by
  rw [Try.underlying26] at h1; cases h1
  rw [show Try.prog.info? 2 = some Try.t2 by kernel_rfl] at h2; cases h2; cases h3; rfl⟩
instance : Ag Try.prog 27 3 := ⟨fun w => Try.isAgg27 w, fun w => Try.sizeOf27 w⟩
instance : Zr Try.prog 27 [(.int .i64 (0)), (.slice none 0 0), (.slice none 0 0)] := ⟨_, fun w => Try.zeroValue27 w, rfl⟩
instance : Fo Try.prog 27 0 0 := ⟨fun w a => by simp [Instr.fieldAt, Instr.sureAddr, fieldPlace]⟩
instance : Fo Try.prog 27 1 1 := ⟨fun w a => by simp [Instr.fieldAt, Instr.sureAddr, fieldPlace]⟩
instance : Fo Try.prog 27 2 2 := ⟨fun w a => by simp [Instr.fieldAt, Instr.sureAddr, fieldPlace]⟩
instance : StT Try.prog 27 [(0, 1), (1, 1), (2, 1)] [(.int .i64 (0)), (.slice none 0 0), (.slice none 0 0)] := ⟨_, Try.t27, _, Try.underlying27, by kernel_rfl, by kernel_rfl, rfl, rfl⟩
instance : Ag Try.prog 28 3 := ⟨fun w => Try.isAgg28 w, fun w => Try.sizeOf28 w⟩
instance : Zr Try.prog 28 [(.int .i64 (0)), (.slice none 0 0), (.slice none 0 0)] := ⟨_, fun w => Try.zeroValue28 w, rfl⟩
instance : Fo Try.prog 28 0 0 := ⟨fun w a => by simp [Instr.fieldAt, Instr.sureAddr, fieldPlace]⟩
instance : Fo Try.prog 28 1 1 := ⟨fun w a => by simp [Instr.fieldAt, Instr.sureAddr, fieldPlace]⟩
instance : Fo Try.prog 28 2 2 := ⟨fun w a => by simp [Instr.fieldAt, Instr.sureAddr, fieldPlace]⟩
instance : StT Try.prog 28 [(0, 1), (1, 1), (2, 1)] [(.int .i64 (0)), (.slice none 0 0), (.slice none 0 0)] := ⟨_, Try.t28, _, Try.underlying28, by kernel_rfl, by kernel_rfl, rfl, rfl⟩
instance : Sc Try.prog 29 := ⟨fun w => Try.isAgg29 w, fun w => Try.sizeOf29 w⟩
instance : Zr Try.prog 29 [.nilFunc] := ⟨_, fun w => Try.zeroValue29 w, rfl⟩
instance : Sc Try.prog 30 := ⟨fun w => Try.isAgg30 w, fun w => Try.sizeOf30 w⟩
instance : Zr Try.prog 30 [.nilFunc] := ⟨_, fun w => Try.zeroValue30 w, rfl⟩
instance : Ag Try.prog 31 3 := ⟨fun w => Try.isAgg31 w, fun w => Try.sizeOf31 w⟩
instance : Zr Try.prog 31 [(.int .i64 (0)), (.slice none 0 0), (.slice none 0 0)] := ⟨_, fun w => Try.zeroValue31 w, rfl⟩
instance : Fo Try.prog 31 0 0 := ⟨fun w a => by simp [Instr.fieldAt, Instr.sureAddr, fieldPlace]⟩
instance : Fo Try.prog 31 1 1 := ⟨fun w a => by simp [Instr.fieldAt, Instr.sureAddr, fieldPlace]⟩
instance : Fo Try.prog 31 2 2 := ⟨fun w a => by simp [Instr.fieldAt, Instr.sureAddr, fieldPlace]⟩
instance : StT Try.prog 31 [(0, 1), (1, 1), (2, 1)] [(.int .i64 (0)), (.slice none 0 0), (.slice none 0 0)] := ⟨_, Try.t31, _, Try.underlying31, by kernel_rfl, by kernel_rfl, rfl, rfl⟩
instance : Sc Try.prog 32 := ⟨fun w => Try.isAgg32 w, fun w => Try.sizeOf32 w⟩
instance : Zr Try.prog 32 [.nilFunc] := ⟨_, fun w => Try.zeroValue32 w, rfl⟩
instance : Sc Try.prog 33 := ⟨fun w => Try.isAgg33 w, fun w => Try.sizeOf33 w⟩
instance : Zr Try.prog 33 [.nilFunc] := ⟨_, fun w => Try.zeroValue33 w, rfl⟩
instance : Sc Try.prog 34 := ⟨fun w => Try.isAgg34 w, fun w => Try.sizeOf34 w⟩
instance : Zr Try.prog 34 [.nilFunc] := ⟨_, fun w => Try.zeroValue34 w, rfl⟩
instance : Sc Try.prog 35 := ⟨fun w => Try.isAgg35 w, fun w => Try.sizeOf35 w⟩
instance : Zr Try.prog 35 [(.slice none 0 0)] := ⟨_, fun w => Try.zeroValue35 w, rfl⟩
instance : Sl Try.prog 35 1 16 := ⟨9, Try.t9, _, Try.underlying35, by kernel_rfl, rfl, rfl, rfl, rfl, by decide⟩
instance : SlZ Try.prog 35 [(.string ByteArray.empty)] := ⟨fun {e i z} h1 h2 h3 => by
  rw [Try.underlying35] at h1; cases h1
  rw [show Try.prog.info? 9 = some Try.t9 by kernel_rfl] at h2; cases h2; cases h3; rfl⟩
instance : Sc Try.prog 36 := ⟨fun w => Try.isAgg36 w, fun w => Try.sizeOf36 w⟩
instance : Zr Try.prog 36 [.nilFunc] := ⟨_, fun w => Try.zeroValue36 w, rfl⟩
instance : Sc Try.prog 37 := ⟨fun w => Try.isAgg37 w, fun w => Try.sizeOf37 w⟩
instance : Zr Try.prog 37 [.nilFunc] := ⟨_, fun w => Try.zeroValue37 w, rfl⟩
instance : Sc Try.prog 38 := ⟨fun w => Try.isAgg38 w, fun w => Try.sizeOf38 w⟩
instance : Zr Try.prog 38 [.nilFunc] := ⟨_, fun w => Try.zeroValue38 w, rfl⟩
instance : Sc Try.prog 39 := ⟨fun w => Try.isAgg39 w, fun w => Try.sizeOf39 w⟩
instance : Zr Try.prog 39 [.nilFunc] := ⟨_, fun w => Try.zeroValue39 w, rfl⟩
instance : Sc Try.prog 40 := ⟨fun w => Try.isAgg40 w, fun w => Try.sizeOf40 w⟩
instance : Zr Try.prog 40 [.nilFunc] := ⟨_, fun w => Try.zeroValue40 w, rfl⟩
instance : Sc Try.prog 41 := ⟨fun w => Try.isAgg41 w, fun w => Try.sizeOf41 w⟩
instance : Zr Try.prog 41 [.nilFunc] := ⟨_, fun w => Try.zeroValue41 w, rfl⟩
instance : Sc Try.prog 47 := ⟨fun w => Try.isAgg47 w, fun w => Try.sizeOf47 w⟩
instance : Zr Try.prog 47 [.nilFunc] := ⟨_, fun w => Try.zeroValue47 w, rfl⟩
instance : Sc Try.prog 48 := ⟨fun w => Try.isAgg48 w, fun w => Try.sizeOf48 w⟩
instance : Zr Try.prog 48 [(.int .u32 (0))] := ⟨_, fun w => Try.zeroValue48 w, rfl⟩
instance : Sc Try.prog 51 := ⟨fun w => Try.isAgg51 w, fun w => Try.sizeOf51 w⟩
instance : Zr Try.prog 51 [.nilFunc] := ⟨_, fun w => Try.zeroValue51 w, rfl⟩
instance : Sc Try.prog 52 := ⟨fun w => Try.isAgg52 w, fun w => Try.sizeOf52 w⟩
instance : Zr Try.prog 52 [(.pointer none)] := ⟨_, fun w => Try.zeroValue52 w, rfl⟩
instance : Op_ Try.prog 2 (Int) repInt := op_int Try.underlying2 (by kernel_rfl)
instance : Op_ Try.prog 3 (Int) repInt := op_int Try.underlying3 (by kernel_rfl)
instance : Op_ Try.prog 4 (Bool) repBool := op_bool Try.underlying4 (by kernel_rfl)
instance : Op_ Try.prog 9 (ByteArray) repStr := op_str Try.underlying9 (by kernel_rfl)
instance : Op_ Try.prog 26 (List Int) repList := op_slice Try.underlying26 (by kernel_rfl) inferInstance
instance : Op_ Try.prog 27 (Int × List Int × List Int) repProd := op_struct Try.underlying27 (by kernel_rfl) (opF_cons rfl inferInstance rfl (opF_cons rfl inferInstance rfl (opF_one rfl inferInstance)))
instance : Op_ Try.prog 28 (Int × List Int × List Int) repProd := op_struct Try.underlying28 (by kernel_rfl) (opF_cons rfl inferInstance rfl (opF_cons rfl inferInstance rfl (opF_one rfl inferInstance)))
instance : Op_ Try.prog 31 (Int × List Int × List Int) repProd := op_struct Try.underlying31 (by kernel_rfl) (opF_cons rfl inferInstance rfl (opF_cons rfl inferInstance rfl (opF_one rfl inferInstance)))
instance : Op_ Try.prog 35 (List ByteArray) repList := op_slice Try.underlying35 (by kernel_rfl) inferInstance
instance : IsFn Try.prog 2 := isFn_of Try.func2 (by kernel_rfl) rfl
instance : IsFn Try.prog 3 := isFn_of Try.func3 (by kernel_rfl) rfl
instance : IsFn Try.prog 4 := isFn_of Try.func4 (by kernel_rfl) rfl
instance : IsFn Try.prog 5 := isFn_of Try.func5 (by kernel_rfl) rfl
instance : IsFn Try.prog 6 := isFn_of Try.func6 (by kernel_rfl) rfl
instance : IsFn Try.prog 7 := isFn_of Try.func7 (by kernel_rfl) rfl
instance : IsFn Try.prog 8 := isFn_of Try.func8 (by kernel_rfl) rfl
instance : IsFn Try.prog 9 := isFn_of Try.func9 (by kernel_rfl) rfl
instance : IsFn Try.prog 10 := isFn_of Try.func10 (by kernel_rfl) rfl
instance : IsFn Try.prog 11 := isFn_of Try.func11 (by kernel_rfl) rfl
instance : IsFn Try.prog 12 := isFn_of Try.func12 (by kernel_rfl) rfl
instance : IsFn Try.prog 13 := isFn_of Try.func13 (by kernel_rfl) rfl
instance : IsFn Try.prog 14 := isFn_of Try.func14 (by kernel_rfl) rfl
instance : IsFn Try.prog 15 := isFn_of Try.func15 (by kernel_rfl) rfl
instance : IsFn Try.prog 16 := isFn_of Try.func16 (by kernel_rfl) rfl
instance : IsFn Try.prog 17 := isFn_of Try.func17 (by kernel_rfl) rfl
instance : IsFn Try.prog 18 := isFn_of Try.func18 (by kernel_rfl) rfl
instance : IsFn Try.prog 19 := isFn_of Try.func19 (by kernel_rfl) rfl
instance : IsFn Try.prog 20 := isFn_of Try.func20 (by kernel_rfl) rfl
instance : IsFn Try.prog 21 := isFn_of Try.func21 (by kernel_rfl) rfl
instance : IsFn Try.prog 22 := isFn_of Try.func22 (by kernel_rfl) rfl
instance : IsFn Try.prog 23 := isFn_of Try.func23 (by kernel_rfl) rfl
instance : IsFn Try.prog 24 := isFn_of Try.func24 (by kernel_rfl) rfl
instance : IsFn Try.prog 25 := isFn_of Try.func25 (by kernel_rfl) rfl
instance : IsFn Try.prog 26 := isFn_of Try.func26 (by kernel_rfl) rfl
instance : IsFn Try.prog 27 := isFn_of Try.func27 (by kernel_rfl) rfl
instance : IsFn Try.prog 28 := isFn_of Try.func28 (by kernel_rfl) rfl
instance : IsFn Try.prog 29 := isFn_of Try.func29 (by kernel_rfl) rfl
instance : IsFn Try.prog 30 := isFn_of Try.func30 (by kernel_rfl) rfl
instance : IsFn Try.prog 31 := isFn_of Try.func31 (by kernel_rfl) rfl
instance : IsFn Try.prog 32 := isFn_of Try.func32 (by kernel_rfl) rfl
instance : IsFn Try.prog 33 := isFn_of Try.func33 (by kernel_rfl) rfl
end Go.Proofs
