/- The engine's classes at this program: its types, its functions. Written by a program. -/
import Derived.Test.YtbbdjjlnachnlaaGreatDoorChecked
import Derived.Test.YtbbdjjlnachnlaaGreatDoorEngO
namespace Go.Proofs
open Go Go.Eng
set_option linter.unusedVariables false
set_option maxRecDepth 20000
instance : Mixed Tryz.prog := ⟨by kernel_rfl⟩
instance : Sc Tryz.prog 2 := ⟨fun w => Tryz.isAgg2 w, fun w => Tryz.sizeOf2 w⟩
instance : I64T Tryz.prog 2 := ⟨Tryz.underlying2⟩
instance : Sc Tryz.prog 3 := ⟨fun w => Tryz.isAgg3 w, fun w => Tryz.sizeOf3 w⟩
instance : I64T Tryz.prog 3 := ⟨Tryz.underlying3⟩
instance : IsBool Tryz.prog 4 := ⟨Tryz.underlying4⟩
instance : Sc Tryz.prog 5 := ⟨fun w => Tryz.isAgg5 w, fun w => Tryz.sizeOf5 w⟩
instance : Sc Tryz.prog 9 := ⟨fun w => Tryz.isAgg9 w, fun w => Tryz.sizeOf9 w⟩
instance : IsStr Tryz.prog 9 := ⟨Tryz.underlying9⟩
instance : Sc Tryz.prog 22 := ⟨fun w => Tryz.isAgg22 w, fun w => Tryz.sizeOf22 w⟩
instance : Sl Tryz.prog 22 1 1 := ⟨5, Tryz.t5, _, Tryz.underlying22, by kernel_rfl, rfl, rfl, rfl, rfl, by decide⟩
instance : Sc Tryz.prog 24 := ⟨fun w => Tryz.isAgg24 w, fun w => Tryz.sizeOf24 w⟩
instance : Zr Tryz.prog 24 [(.slice none 0 0)] := ⟨_, fun w => Tryz.zeroValue24 w, rfl⟩
instance : Sl Tryz.prog 24 1 8 := ⟨2, Tryz.t2, _, Tryz.underlying24, by kernel_rfl, rfl, rfl, rfl, rfl, by decide⟩
instance : SlZ Tryz.prog 24 [(.int .i64 (0))] := ⟨fun {e i z} h1 h2 h3 => by
  rw [Tryz.underlying24] at h1; cases h1
  rw [show Tryz.prog.info? 2 = some Tryz.t2 by kernel_rfl] at h2; cases h2; cases h3; rfl⟩
instance : Ag Tryz.prog 26 1 := ⟨fun w => Tryz.isAgg26 w, fun w => Tryz.sizeOf26 w⟩
instance : Zr Tryz.prog 26 [(.slice none 0 0)] := ⟨_, fun w => Tryz.zeroValue26 w, rfl⟩
instance : Fo Tryz.prog 26 0 0 := ⟨fun w a => by simp [Instr.fieldAt, Instr.sureAddr, fieldPlace]⟩
instance : StT Tryz.prog 26 [(0, 1)] [(.slice none 0 0)] := ⟨_, Tryz.t26, _, Tryz.underlying26, by kernel_rfl, by kernel_rfl, rfl, rfl⟩
instance : Sc Tryz.prog 27 := ⟨fun w => Tryz.isAgg27 w, fun w => Tryz.sizeOf27 w⟩
instance : Sl Tryz.prog 27 2 48 := ⟨95, Tryz.t95, _, Tryz.underlying27, by kernel_rfl, rfl, rfl, rfl, rfl, by decide⟩
instance : Ag Tryz.prog 29 2 := ⟨fun w => Tryz.isAgg29 w, fun w => Tryz.sizeOf29 w⟩
instance : Zr Tryz.prog 29 [(.slice none 0 0), (.slice none 0 0)] := ⟨_, fun w => Tryz.zeroValue29 w, rfl⟩
instance : Fo Tryz.prog 29 0 0 := ⟨fun w a => by simp [Instr.fieldAt, Instr.sureAddr, fieldPlace]⟩
instance : Fo Tryz.prog 29 1 1 := ⟨fun w a => by simp [Instr.fieldAt, Instr.sureAddr, fieldPlace]⟩
instance : StT Tryz.prog 29 [(0, 1), (1, 1)] [(.slice none 0 0), (.slice none 0 0)] := ⟨_, Tryz.t29, _, Tryz.underlying29, by kernel_rfl, by kernel_rfl, rfl, rfl⟩
instance : Sc Tryz.prog 32 := ⟨fun w => Tryz.isAgg32 w, fun w => Tryz.sizeOf32 w⟩
instance : Sl Tryz.prog 32 3 40 := ⟨77, Tryz.t77, _, Tryz.underlying32, by kernel_rfl, rfl, rfl, rfl, rfl, by decide⟩
instance : Ag Tryz.prog 34 3 := ⟨fun w => Tryz.isAgg34 w, fun w => Tryz.sizeOf34 w⟩
instance : Zr Tryz.prog 34 [(.int .i64 (0)), (.slice none 0 0), (.slice none 0 0)] := ⟨_, fun w => Tryz.zeroValue34 w, rfl⟩
instance : Fo Tryz.prog 34 0 0 := ⟨fun w a => by simp [Instr.fieldAt, Instr.sureAddr, fieldPlace]⟩
instance : Fo Tryz.prog 34 1 1 := ⟨fun w a => by simp [Instr.fieldAt, Instr.sureAddr, fieldPlace]⟩
instance : Fo Tryz.prog 34 2 2 := ⟨fun w a => by simp [Instr.fieldAt, Instr.sureAddr, fieldPlace]⟩
instance : StT Tryz.prog 34 [(0, 1), (1, 1), (2, 1)] [(.int .i64 (0)), (.slice none 0 0), (.slice none 0 0)] := ⟨_, Tryz.t34, _, Tryz.underlying34, by kernel_rfl, by kernel_rfl, rfl, rfl⟩
instance : Sc Tryz.prog 61 := ⟨fun w => Tryz.isAgg61 w, fun w => Tryz.sizeOf61 w⟩
instance : Sl Tryz.prog 61 1 24 := ⟨24, Tryz.t24, _, Tryz.underlying61, by kernel_rfl, rfl, rfl, rfl, rfl, by decide⟩
instance : SlZ Tryz.prog 61 [(.slice none 0 0)] := ⟨fun {e i z} h1 h2 h3 => by
  rw [Tryz.underlying61] at h1; cases h1
  rw [show Tryz.prog.info? 24 = some Tryz.t24 by kernel_rfl] at h2; cases h2; cases h3; rfl⟩
instance : Sc Tryz.prog 68 := ⟨fun w => Tryz.isAgg68 w, fun w => Tryz.sizeOf68 w⟩
instance : Ag Tryz.prog 77 3 := ⟨fun w => Tryz.isAgg77 w, fun w => Tryz.sizeOf77 w⟩
instance : Zr Tryz.prog 77 [(.int .i64 (0)), (.slice none 0 0), (.int .i64 (0))] := ⟨_, fun w => Tryz.zeroValue77 w, rfl⟩
instance : Fo Tryz.prog 77 0 0 := ⟨fun w a => by simp [Instr.fieldAt, Instr.sureAddr, fieldPlace]⟩
instance : Fo Tryz.prog 77 1 1 := ⟨fun w a => by simp [Instr.fieldAt, Instr.sureAddr, fieldPlace]⟩
instance : Fo Tryz.prog 77 2 2 := ⟨fun w a => by simp [Instr.fieldAt, Instr.sureAddr, fieldPlace]⟩
instance : StT Tryz.prog 77 [(0, 1), (1, 1), (2, 1)] [(.int .i64 (0)), (.slice none 0 0), (.int .i64 (0))] := ⟨_, Tryz.t77, _, Tryz.underlying77, by kernel_rfl, by kernel_rfl, rfl, rfl⟩
instance : Fo Tryz.prog 91 0 0 := ⟨fun w a => by simp [Instr.fieldAt, Instr.sureAddr, fieldPlace]⟩
instance : Fo Tryz.prog 91 1 1 := ⟨fun w a => by simp [Instr.fieldAt, Instr.sureAddr, fieldPlace]⟩
instance : Fo Tryz.prog 91 2 2 := ⟨fun w a => by simp [Instr.fieldAt, Instr.sureAddr, fieldPlace]⟩
instance : StT Tryz.prog 91 [(0, 1), (1, 1), (2, 1)] [(.slice none 0 0), (.int .i64 (0)), (.int .i64 (0))] := ⟨_, Tryz.t91, _, Tryz.underlying91, by kernel_rfl, by kernel_rfl, rfl, rfl⟩
instance : Ag Tryz.prog 95 2 := ⟨fun w => Tryz.isAgg95 w, fun w => Tryz.sizeOf95 w⟩
instance : Zr Tryz.prog 95 [(.slice none 0 0), (.slice none 0 0)] := ⟨_, fun w => Tryz.zeroValue95 w, rfl⟩
instance : Fo Tryz.prog 95 0 0 := ⟨fun w a => by simp [Instr.fieldAt, Instr.sureAddr, fieldPlace]⟩
instance : Fo Tryz.prog 95 1 1 := ⟨fun w a => by simp [Instr.fieldAt, Instr.sureAddr, fieldPlace]⟩
instance : StT Tryz.prog 95 [(0, 1), (1, 1)] [(.slice none 0 0), (.slice none 0 0)] := ⟨_, Tryz.t95, _, Tryz.underlying95, by kernel_rfl, by kernel_rfl, rfl, rfl⟩
instance : Ag Tryz.prog 98 1 := ⟨fun w => Tryz.isAgg98 w, fun w => Tryz.sizeOf98 w⟩
instance : Zr Tryz.prog 98 [(.slice none 0 0)] := ⟨_, fun w => Tryz.zeroValue98 w, rfl⟩
instance : Fo Tryz.prog 98 0 0 := ⟨fun w a => by simp [Instr.fieldAt, Instr.sureAddr, fieldPlace]⟩
instance : StT Tryz.prog 98 [(0, 1)] [(.slice none 0 0)] := ⟨_, Tryz.t98, _, Tryz.underlying98, by kernel_rfl, by kernel_rfl, rfl, rfl⟩
instance : Sc Tryz.prog 105 := ⟨fun w => Tryz.isAgg105 w, fun w => Tryz.sizeOf105 w⟩
instance : Sl Tryz.prog 105 2 32 := ⟨155, Tryz.t155, _, Tryz.underlying105, by kernel_rfl, rfl, rfl, rfl, rfl, by decide⟩
instance : Sc Tryz.prog 107 := ⟨fun w => Tryz.isAgg107 w, fun w => Tryz.sizeOf107 w⟩
instance : Fo Tryz.prog 109 0 0 := ⟨fun w a => by simp [Instr.fieldAt, Instr.sureAddr, fieldPlace]⟩
instance : Fo Tryz.prog 109 1 1 := ⟨fun w a => by simp [Instr.fieldAt, Instr.sureAddr, fieldPlace]⟩
instance : Fo Tryz.prog 109 2 2 := ⟨fun w a => by simp [Instr.fieldAt, Instr.sureAddr, fieldPlace]⟩
instance : Fo Tryz.prog 109 3 3 := ⟨fun w a => by simp [Instr.fieldAt, Instr.sureAddr, fieldPlace]⟩
instance : Fo Tryz.prog 109 4 4 := ⟨fun w a => by simp [Instr.fieldAt, Instr.sureAddr, fieldPlace]⟩
instance : Fo Tryz.prog 109 5 5 := ⟨fun w a => by simp [Instr.fieldAt, Instr.sureAddr, fieldPlace]⟩
instance : StT Tryz.prog 109 [(0, 1), (1, 1), (2, 1), (3, 1), (4, 1), (5, 1)] [(.slice none 0 0), (.slice none 0 0), (.slice none 0 0), (.slice none 0 0), (.slice none 0 0), (.map none)] := ⟨_, Tryz.t109, _, Tryz.underlying109, by kernel_rfl, by kernel_rfl, rfl, rfl⟩
instance : Sl Tryz.prog 123 1 4 := ⟨68, Tryz.t68, _, Tryz.underlying123, by kernel_rfl, rfl, rfl, rfl, rfl, by decide⟩
instance : Sl Tryz.prog 124 1 8 := ⟨3, Tryz.t3, _, Tryz.underlying124, by kernel_rfl, rfl, rfl, rfl, rfl, by decide⟩
instance : Ag Tryz.prog 155 2 := ⟨fun w => Tryz.isAgg155 w, fun w => Tryz.sizeOf155 w⟩
instance : Zr Tryz.prog 155 [(.int .i64 (0)), (.slice none 0 0)] := ⟨_, fun w => Tryz.zeroValue155 w, rfl⟩
instance : Fo Tryz.prog 155 0 0 := ⟨fun w a => by simp [Instr.fieldAt, Instr.sureAddr, fieldPlace]⟩
instance : Fo Tryz.prog 155 1 1 := ⟨fun w a => by simp [Instr.fieldAt, Instr.sureAddr, fieldPlace]⟩
instance : StT Tryz.prog 155 [(0, 1), (1, 1)] [(.int .i64 (0)), (.slice none 0 0)] := ⟨_, Tryz.t155, _, Tryz.underlying155, by kernel_rfl, by kernel_rfl, rfl, rfl⟩
instance : Ag Tryz.prog 179 2 := ⟨fun w => Tryz.isAgg179 w, fun w => Tryz.sizeOf179 w⟩
instance : Zr Tryz.prog 179 [(.int .i64 (0)), (.string ByteArray.empty)] := ⟨_, fun w => Tryz.zeroValue179 w, rfl⟩
instance : StT Tryz.prog 179 [(0, 1), (1, 1)] [(.int .i64 (0)), (.string ByteArray.empty)] := ⟨_, Tryz.t179, _, Tryz.underlying179, by kernel_rfl, by kernel_rfl, rfl, rfl⟩
instance : Ag Tryz.prog 184 3 := ⟨fun w => Tryz.isAgg184 w, fun w => Tryz.sizeOf184 w⟩
instance : Zr Tryz.prog 184 [(.slice none 0 0), (.slice none 0 0), (.int .i64 (0))] := ⟨_, fun w => Tryz.zeroValue184 w, rfl⟩
instance : Fo Tryz.prog 184 0 0 := ⟨fun w a => by simp [Instr.fieldAt, Instr.sureAddr, fieldPlace]⟩
instance : Fo Tryz.prog 184 1 1 := ⟨fun w a => by simp [Instr.fieldAt, Instr.sureAddr, fieldPlace]⟩
instance : Fo Tryz.prog 184 2 2 := ⟨fun w a => by simp [Instr.fieldAt, Instr.sureAddr, fieldPlace]⟩
instance : StT Tryz.prog 184 [(0, 1), (1, 1), (2, 1)] [(.slice none 0 0), (.slice none 0 0), (.int .i64 (0))] := ⟨_, Tryz.t184, _, Tryz.underlying184, by kernel_rfl, by kernel_rfl, rfl, rfl⟩
instance : Sl Tryz.prog 213 1 16 := ⟨9, Tryz.t9, _, Tryz.underlying213, by kernel_rfl, rfl, rfl, rfl, rfl, by decide⟩
instance : SlZ Tryz.prog 213 [(.string ByteArray.empty)] := ⟨fun {e i z} h1 h2 h3 => by
  rw [Tryz.underlying213] at h1; cases h1
  rw [show Tryz.prog.info? 9 = some Tryz.t9 by kernel_rfl] at h2; cases h2; cases h3; rfl⟩
instance : Sc Tryz.prog 224 := ⟨fun w => Tryz.isAgg224 w, fun w => Tryz.sizeOf224 w⟩
instance : Zr Tryz.prog 226 [(.pointer none), (.slice none 0 0)] := ⟨_, fun w => Tryz.zeroValue226 w, rfl⟩
instance : Fo Tryz.prog 226 0 0 := ⟨fun w a => by simp [Instr.fieldAt, Instr.sureAddr, fieldPlace]⟩
instance : Fo Tryz.prog 226 1 1 := ⟨fun w a => by simp [Instr.fieldAt, Instr.sureAddr, fieldPlace]⟩
instance : Op_ Tryz.prog 2 (Int) repInt := op_int Tryz.underlying2 (by kernel_rfl)
instance : Op_ Tryz.prog 3 (Int) repInt := op_int Tryz.underlying3 (by kernel_rfl)
instance : Op_ Tryz.prog 4 (Bool) repBool := op_bool Tryz.underlying4 (by kernel_rfl)
instance : Op_ Tryz.prog 9 (ByteArray) repStr := op_str Tryz.underlying9 (by kernel_rfl)
instance : Op_ Tryz.prog 24 (List Int) repList := op_slice Tryz.underlying24 (by kernel_rfl) inferInstance
instance : Op_ Tryz.prog 25 (List Int) repList := op_struct Tryz.underlying25 (by kernel_rfl) (opF_one rfl inferInstance)
instance : Op_ Tryz.prog 26 (List Int) repList := op_struct Tryz.underlying26 (by kernel_rfl) (opF_one rfl inferInstance)
instance : Op_ Tryz.prog 95 (List Int × List Int) repProd := op_struct Tryz.underlying95 (by kernel_rfl) (opF_cons rfl inferInstance rfl (opF_one rfl inferInstance))
instance : Op_ Tryz.prog 27 (List (List Int × List Int)) repList := op_slice Tryz.underlying27 (by kernel_rfl) inferInstance
instance : Op_ Tryz.prog 28 (List Int × List (List Int × List Int)) repProd := op_struct Tryz.underlying28 (by kernel_rfl) (opF_cons rfl inferInstance rfl (opF_one rfl inferInstance))
instance : Op_ Tryz.prog 29 (List Int × List (List Int × List Int)) repProd := op_struct Tryz.underlying29 (by kernel_rfl) (opF_cons rfl inferInstance rfl (opF_one rfl inferInstance))
instance : Op_ Tryz.prog 77 (Int × List Int × Int) repProd := op_struct Tryz.underlying77 (by kernel_rfl) (opF_cons rfl inferInstance rfl (opF_cons rfl inferInstance rfl (opF_one rfl inferInstance)))
instance : Op_ Tryz.prog 32 (List (Int × List Int × Int)) repList := op_slice Tryz.underlying32 (by kernel_rfl) inferInstance
instance : Op_ Tryz.prog 33 (Int × List (Int × List Int × Int) × List Int) repProd := op_struct Tryz.underlying33 (by kernel_rfl) (opF_cons rfl inferInstance rfl (opF_cons rfl inferInstance rfl (opF_one rfl inferInstance)))
instance : Op_ Tryz.prog 34 (Int × List (Int × List Int × Int) × List Int) repProd := op_struct Tryz.underlying34 (by kernel_rfl) (opF_cons rfl inferInstance rfl (opF_cons rfl inferInstance rfl (opF_one rfl inferInstance)))
instance : Op_ Tryz.prog 42 (List Int) repList := op_struct Tryz.underlying42 (by kernel_rfl) (opF_one rfl inferInstance)
instance : Op_ Tryz.prog 138 (List Int × List Int) repProd := op_struct Tryz.underlying138 (by kernel_rfl) (opF_cons rfl inferInstance rfl (opF_one rfl inferInstance))
instance : Op_ Tryz.prog 43 (List (List Int × List Int)) repList := op_slice Tryz.underlying43 (by kernel_rfl) inferInstance
instance : Op_ Tryz.prog 44 (List Int × List (List Int × List Int)) repProd := op_struct Tryz.underlying44 (by kernel_rfl) (opF_cons rfl inferInstance rfl (opF_one rfl inferInstance))
instance : Op_ Tryz.prog 45 (List Int × List (List Int × List Int)) repProd := op_struct Tryz.underlying45 (by kernel_rfl) (opF_cons rfl inferInstance rfl (opF_one rfl inferInstance))
instance : Op_ Tryz.prog 61 (List (List Int)) repList := op_slice Tryz.underlying61 (by kernel_rfl) inferInstance
instance : Op_ Tryz.prog 76 (Int × List Int × Int) repProd := op_struct Tryz.underlying76 (by kernel_rfl) (opF_cons rfl inferInstance rfl (opF_cons rfl inferInstance rfl (opF_one rfl inferInstance)))
instance : Op_ Tryz.prog 94 (List Int × List Int) repProd := op_struct Tryz.underlying94 (by kernel_rfl) (opF_cons rfl inferInstance rfl (opF_one rfl inferInstance))
instance : Op_ Tryz.prog 97 (List (List Int)) repList := op_struct Tryz.underlying97 (by kernel_rfl) (opF_one rfl inferInstance)
instance : Op_ Tryz.prog 98 (List (List Int)) repList := op_struct Tryz.underlying98 (by kernel_rfl) (opF_one rfl inferInstance)
instance : Op_ Tryz.prog 155 (Int × List Int) repProd := op_struct Tryz.underlying155 (by kernel_rfl) (opF_cons rfl inferInstance rfl (opF_one rfl inferInstance))
instance : Op_ Tryz.prog 105 (List (Int × List Int)) repList := op_slice Tryz.underlying105 (by kernel_rfl) inferInstance
instance : Op_ Tryz.prog 124 (List Int) repList := op_slice Tryz.underlying124 (by kernel_rfl) inferInstance
instance : Op_ Tryz.prog 154 (Int × List Int) repProd := op_struct Tryz.underlying154 (by kernel_rfl) (opF_cons rfl inferInstance rfl (opF_one rfl inferInstance))
instance : Op_ Tryz.prog 178 (Int × ByteArray) repProd := op_struct Tryz.underlying178 (by kernel_rfl) (opF_cons rfl inferInstance rfl (opF_one rfl inferInstance))
instance : Op_ Tryz.prog 179 (Int × ByteArray) repProd := op_struct Tryz.underlying179 (by kernel_rfl) (opF_cons rfl inferInstance rfl (opF_one rfl inferInstance))
instance : Op_ Tryz.prog 183 (List Int × List Int × Int) repProd := op_struct Tryz.underlying183 (by kernel_rfl) (opF_cons rfl inferInstance rfl (opF_cons rfl inferInstance rfl (opF_one rfl inferInstance)))
instance : Op_ Tryz.prog 184 (List Int × List Int × Int) repProd := op_struct Tryz.underlying184 (by kernel_rfl) (opF_cons rfl inferInstance rfl (opF_cons rfl inferInstance rfl (opF_one rfl inferInstance)))
instance : Op_ Tryz.prog 190 (Int) repInt := op_int Tryz.underlying190 (by kernel_rfl)
instance : Op_ Tryz.prog 213 (List ByteArray) repList := op_slice Tryz.underlying213 (by kernel_rfl) inferInstance
instance : IsFn Tryz.prog 6 := isFn_of Tryz.func6 (by kernel_rfl) rfl
instance : IsFn Tryz.prog 7 := isFn_of Tryz.func7 (by kernel_rfl) rfl
instance : IsFn Tryz.prog 8 := isFn_of Tryz.func8 (by kernel_rfl) rfl
instance : IsFn Tryz.prog 9 := isFn_of Tryz.func9 (by kernel_rfl) rfl
instance : IsFn Tryz.prog 10 := isFn_of Tryz.func10 (by kernel_rfl) rfl
instance : IsFn Tryz.prog 11 := isFn_of Tryz.func11 (by kernel_rfl) rfl
instance : IsFn Tryz.prog 12 := isFn_of Tryz.func12 (by kernel_rfl) rfl
instance : IsFn Tryz.prog 13 := isFn_of Tryz.func13 (by kernel_rfl) rfl
instance : IsFn Tryz.prog 14 := isFn_of Tryz.func14 (by kernel_rfl) rfl
instance : IsFn Tryz.prog 15 := isFn_of Tryz.func15 (by kernel_rfl) rfl
instance : IsFn Tryz.prog 16 := isFn_of Tryz.func16 (by kernel_rfl) rfl
instance : IsFn Tryz.prog 27 := isFn_of Tryz.func27 (by kernel_rfl) rfl
instance : IsFn Tryz.prog 28 := isFn_of Tryz.func28 (by kernel_rfl) rfl
instance : IsFn Tryz.prog 29 := isFn_of Tryz.func29 (by kernel_rfl) rfl
instance : IsFn Tryz.prog 30 := isFn_of Tryz.func30 (by kernel_rfl) rfl
instance : IsFn Tryz.prog 31 := isFn_of Tryz.func31 (by kernel_rfl) rfl
instance : IsFn Tryz.prog 32 := isFn_of Tryz.func32 (by kernel_rfl) rfl
instance : IsFn Tryz.prog 33 := isFn_of Tryz.func33 (by kernel_rfl) rfl
instance : IsFn Tryz.prog 34 := isFn_of Tryz.func34 (by kernel_rfl) rfl
instance : IsFn Tryz.prog 35 := isFn_of Tryz.func35 (by kernel_rfl) rfl
instance : IsFn Tryz.prog 36 := isFn_of Tryz.func36 (by kernel_rfl) rfl
instance : IsFn Tryz.prog 37 := isFn_of Tryz.func37 (by kernel_rfl) rfl
instance : IsFn Tryz.prog 38 := isFn_of Tryz.func38 (by kernel_rfl) rfl
instance : IsFn Tryz.prog 39 := isFn_of Tryz.func39 (by kernel_rfl) rfl
instance : IsFn Tryz.prog 40 := isFn_of Tryz.func40 (by kernel_rfl) rfl
instance : IsFn Tryz.prog 41 := isFn_of Tryz.func41 (by kernel_rfl) rfl
instance : IsFn Tryz.prog 42 := isFn_of Tryz.func42 (by kernel_rfl) rfl
instance : IsFn Tryz.prog 43 := isFn_of Tryz.func43 (by kernel_rfl) rfl
instance : IsFn Tryz.prog 44 := isFn_of Tryz.func44 (by kernel_rfl) rfl
instance : IsFn Tryz.prog 45 := isFn_of Tryz.func45 (by kernel_rfl) rfl
instance : IsFn Tryz.prog 46 := isFn_of Tryz.func46 (by kernel_rfl) rfl
instance : IsFn Tryz.prog 47 := isFn_of Tryz.func47 (by kernel_rfl) rfl
instance : IsFn Tryz.prog 48 := isFn_of Tryz.func48 (by kernel_rfl) rfl
instance : IsFn Tryz.prog 49 := isFn_of Tryz.func49 (by kernel_rfl) rfl
instance : IsFn Tryz.prog 50 := isFn_of Tryz.func50 (by kernel_rfl) rfl
instance : IsFn Tryz.prog 51 := isFn_of Tryz.func51 (by kernel_rfl) rfl
instance : IsFn Tryz.prog 52 := isFn_of Tryz.func52 (by kernel_rfl) rfl
instance : IsFn Tryz.prog 67 := isFn_of Tryz.func67 (by kernel_rfl) rfl
instance : IsFn Tryz.prog 68 := isFn_of Tryz.func68 (by kernel_rfl) rfl
instance : IsFn Tryz.prog 69 := isFn_of Tryz.func69 (by kernel_rfl) rfl
instance : IsFn Tryz.prog 70 := isFn_of Tryz.func70 (by kernel_rfl) rfl
instance : IsFn Tryz.prog 71 := isFn_of Tryz.func71 (by kernel_rfl) rfl
instance : IsFn Tryz.prog 72 := isFn_of Tryz.func72 (by kernel_rfl) rfl
instance : IsFn Tryz.prog 73 := isFn_of Tryz.func73 (by kernel_rfl) rfl
instance : IsFn Tryz.prog 74 := isFn_of Tryz.func74 (by kernel_rfl) rfl
instance : IsFn Tryz.prog 75 := isFn_of Tryz.func75 (by kernel_rfl) rfl
instance : IsFn Tryz.prog 76 := isFn_of Tryz.func76 (by kernel_rfl) rfl
instance : IsFn Tryz.prog 77 := isFn_of Tryz.func77 (by kernel_rfl) rfl
instance : IsFn Tryz.prog 78 := isFn_of Tryz.func78 (by kernel_rfl) rfl
instance : IsFn Tryz.prog 79 := isFn_of Tryz.func79 (by kernel_rfl) rfl
instance : IsFn Tryz.prog 80 := isFn_of Tryz.func80 (by kernel_rfl) rfl
instance : IsFn Tryz.prog 81 := isFn_of Tryz.func81 (by kernel_rfl) rfl
instance : IsFn Tryz.prog 82 := isFn_of Tryz.func82 (by kernel_rfl) rfl
instance : IsFn Tryz.prog 83 := isFn_of Tryz.func83 (by kernel_rfl) rfl
instance : IsFn Tryz.prog 84 := isFn_of Tryz.func84 (by kernel_rfl) rfl
instance : IsFn Tryz.prog 85 := isFn_of Tryz.func85 (by kernel_rfl) rfl
instance : IsFn Tryz.prog 86 := isFn_of Tryz.func86 (by kernel_rfl) rfl
instance : IsFn Tryz.prog 87 := isFn_of Tryz.func87 (by kernel_rfl) rfl
instance : IsFn Tryz.prog 88 := isFn_of Tryz.func88 (by kernel_rfl) rfl
instance : IsFn Tryz.prog 89 := isFn_of Tryz.func89 (by kernel_rfl) rfl
instance : IsFn Tryz.prog 90 := isFn_of Tryz.func90 (by kernel_rfl) rfl
instance : IsFn Tryz.prog 91 := isFn_of Tryz.func91 (by kernel_rfl) rfl
instance : IsFn Tryz.prog 92 := isFn_of Tryz.func92 (by kernel_rfl) rfl
instance : IsFn Tryz.prog 93 := isFn_of Tryz.func93 (by kernel_rfl) rfl
instance : IsFn Tryz.prog 94 := isFn_of Tryz.func94 (by kernel_rfl) rfl
instance : IsFn Tryz.prog 95 := isFn_of Tryz.func95 (by kernel_rfl) rfl
instance : IsFn Tryz.prog 96 := isFn_of Tryz.func96 (by kernel_rfl) rfl
instance : IsFn Tryz.prog 97 := isFn_of Tryz.func97 (by kernel_rfl) rfl
instance : IsFn Tryz.prog 98 := isFn_of Tryz.func98 (by kernel_rfl) rfl
instance : IsFn Tryz.prog 99 := isFn_of Tryz.func99 (by kernel_rfl) rfl
instance : IsFn Tryz.prog 100 := isFn_of Tryz.func100 (by kernel_rfl) rfl
instance : IsFn Tryz.prog 101 := isFn_of Tryz.func101 (by kernel_rfl) rfl
instance : IsFn Tryz.prog 102 := isFn_of Tryz.func102 (by kernel_rfl) rfl
instance : IsFn Tryz.prog 103 := isFn_of Tryz.func103 (by kernel_rfl) rfl
instance : IsFn Tryz.prog 104 := isFn_of Tryz.func104 (by kernel_rfl) rfl
instance : IsFn Tryz.prog 105 := isFn_of Tryz.func105 (by kernel_rfl) rfl
instance : IsFn Tryz.prog 106 := isFn_of Tryz.func106 (by kernel_rfl) rfl
instance : IsFn Tryz.prog 107 := isFn_of Tryz.func107 (by kernel_rfl) rfl
instance : IsFn Tryz.prog 108 := isFn_of Tryz.func108 (by kernel_rfl) rfl
instance : IsFn Tryz.prog 109 := isFn_of Tryz.func109 (by kernel_rfl) rfl
instance : IsFn Tryz.prog 110 := isFn_of Tryz.func110 (by kernel_rfl) rfl
instance : IsFn Tryz.prog 116 := isFn_of Tryz.func116 (by kernel_rfl) rfl
instance : IsFn Tryz.prog 118 := isFn_of Tryz.func118 (by kernel_rfl) rfl
instance : IsFn Tryz.prog 119 := isFn_of Tryz.func119 (by kernel_rfl) rfl
instance : IsFn Tryz.prog 120 := isFn_of Tryz.func120 (by kernel_rfl) rfl
instance : IsFn Tryz.prog 121 := isFn_of Tryz.func121 (by kernel_rfl) rfl
instance : IsFn Tryz.prog 122 := isFn_of Tryz.func122 (by kernel_rfl) rfl
instance : IsFn Tryz.prog 123 := isFn_of Tryz.func123 (by kernel_rfl) rfl
instance : IsFn Tryz.prog 124 := isFn_of Tryz.func124 (by kernel_rfl) rfl
instance : IsFn Tryz.prog 125 := isFn_of Tryz.func125 (by kernel_rfl) rfl
instance : IsFn Tryz.prog 126 := isFn_of Tryz.func126 (by kernel_rfl) rfl
instance : IsFn Tryz.prog 127 := isFn_of Tryz.func127 (by kernel_rfl) rfl
instance : IsFn Tryz.prog 128 := isFn_of Tryz.func128 (by kernel_rfl) rfl
instance : IsFn Tryz.prog 129 := isFn_of Tryz.func129 (by kernel_rfl) rfl
instance : IsFn Tryz.prog 130 := isFn_of Tryz.func130 (by kernel_rfl) rfl
instance : IsFn Tryz.prog 131 := isFn_of Tryz.func131 (by kernel_rfl) rfl
instance : IsFn Tryz.prog 132 := isFn_of Tryz.func132 (by kernel_rfl) rfl
instance : IsFn Tryz.prog 133 := isFn_of Tryz.func133 (by kernel_rfl) rfl
instance : IsFn Tryz.prog 134 := isFn_of Tryz.func134 (by kernel_rfl) rfl
instance : IsFn Tryz.prog 135 := isFn_of Tryz.func135 (by kernel_rfl) rfl
instance : IsFn Tryz.prog 136 := isFn_of Tryz.func136 (by kernel_rfl) rfl
instance : IsFn Tryz.prog 138 := isFn_of Tryz.func138 (by kernel_rfl) rfl
instance : IsFn Tryz.prog 139 := isFn_of Tryz.func139 (by kernel_rfl) rfl
instance : IsFn Tryz.prog 140 := isFn_of Tryz.func140 (by kernel_rfl) rfl
instance : IsFn Tryz.prog 141 := isFn_of Tryz.func141 (by kernel_rfl) rfl
instance : IsFn Tryz.prog 142 := isFn_of Tryz.func142 (by kernel_rfl) rfl
instance : IsFn Tryz.prog 143 := isFn_of Tryz.func143 (by kernel_rfl) rfl
instance : IsFn Tryz.prog 144 := isFn_of Tryz.func144 (by kernel_rfl) rfl
instance : IsFn Tryz.prog 145 := isFn_of Tryz.func145 (by kernel_rfl) rfl
instance : IsFn Tryz.prog 146 := isFn_of Tryz.func146 (by kernel_rfl) rfl
instance : IsFn Tryz.prog 147 := isFn_of Tryz.func147 (by kernel_rfl) rfl
instance : IsFn Tryz.prog 148 := isFn_of Tryz.func148 (by kernel_rfl) rfl
instance : IsFn Tryz.prog 149 := isFn_of Tryz.func149 (by kernel_rfl) rfl
instance : IsFn Tryz.prog 150 := isFn_of Tryz.func150 (by kernel_rfl) rfl
instance : IsFn Tryz.prog 151 := isFn_of Tryz.func151 (by kernel_rfl) rfl
instance : IsFn Tryz.prog 152 := isFn_of Tryz.func152 (by kernel_rfl) rfl
instance : IsFn Tryz.prog 153 := isFn_of Tryz.func153 (by kernel_rfl) rfl
instance : IsFn Tryz.prog 154 := isFn_of Tryz.func154 (by kernel_rfl) rfl
instance : IsFn Tryz.prog 155 := isFn_of Tryz.func155 (by kernel_rfl) rfl
instance : IsFn Tryz.prog 156 := isFn_of Tryz.func156 (by kernel_rfl) rfl
instance : IsFn Tryz.prog 157 := isFn_of Tryz.func157 (by kernel_rfl) rfl
instance : IsFn Tryz.prog 160 := isFn_of Tryz.func160 (by kernel_rfl) rfl
instance : IsFn Tryz.prog 161 := isFn_of Tryz.func161 (by kernel_rfl) rfl
instance : IsFn Tryz.prog 162 := isFn_of Tryz.func162 (by kernel_rfl) rfl
instance : IsFn Tryz.prog 165 := isFn_of Tryz.func165 (by kernel_rfl) rfl
instance : IsFn Tryz.prog 166 := isFn_of Tryz.func166 (by kernel_rfl) rfl
instance : IsFn Tryz.prog 167 := isFn_of Tryz.func167 (by kernel_rfl) rfl
instance : IsFn Tryz.prog 168 := isFn_of Tryz.func168 (by kernel_rfl) rfl
instance : IsFn Tryz.prog 169 := isFn_of Tryz.func169 (by kernel_rfl) rfl
instance : IsFn Tryz.prog 170 := isFn_of Tryz.func170 (by kernel_rfl) rfl
instance : IsFn Tryz.prog 171 := isFn_of Tryz.func171 (by kernel_rfl) rfl
instance : IsFn Tryz.prog 172 := isFn_of Tryz.func172 (by kernel_rfl) rfl
instance : IsFn Tryz.prog 173 := isFn_of Tryz.func173 (by kernel_rfl) rfl
instance : IsFn Tryz.prog 174 := isFn_of Tryz.func174 (by kernel_rfl) rfl
instance : IsFn Tryz.prog 186 := isFn_of Tryz.func186 (by kernel_rfl) rfl
instance : IsFn Tryz.prog 187 := isFn_of Tryz.func187 (by kernel_rfl) rfl
instance : IsFn Tryz.prog 188 := isFn_of Tryz.func188 (by kernel_rfl) rfl
instance : IsFn Tryz.prog 189 := isFn_of Tryz.func189 (by kernel_rfl) rfl
instance : IsFn Tryz.prog 190 := isFn_of Tryz.func190 (by kernel_rfl) rfl
instance : IsFn Tryz.prog 196 := isFn_of Tryz.func196 (by kernel_rfl) rfl
instance : IsFn Tryz.prog 197 := isFn_of Tryz.func197 (by kernel_rfl) rfl
instance : IsFn Tryz.prog 198 := isFn_of Tryz.func198 (by kernel_rfl) rfl
instance : IsFn Tryz.prog 202 := isFn_of Tryz.func202 (by kernel_rfl) rfl
instance : IsFn Tryz.prog 203 := isFn_of Tryz.func203 (by kernel_rfl) rfl
instance : IsFn Tryz.prog 204 := isFn_of Tryz.func204 (by kernel_rfl) rfl
instance : IsFn Tryz.prog 205 := isFn_of Tryz.func205 (by kernel_rfl) rfl
instance : IsFn Tryz.prog 206 := isFn_of Tryz.func206 (by kernel_rfl) rfl
instance : IsFn Tryz.prog 207 := isFn_of Tryz.func207 (by kernel_rfl) rfl
instance : IsFn Tryz.prog 208 := isFn_of Tryz.func208 (by kernel_rfl) rfl
instance : ResC Tryz.f3 [.tmp 2] := ⟨rfl⟩
instance : ResC Tryz.f6 [.tmp 2] := ⟨rfl⟩
instance : ResC Tryz.f7 [.cell 2 29, .tmp 3] := ⟨rfl⟩
instance : ResC Tryz.f8 [.cell 2 34, .tmp 3] := ⟨rfl⟩
instance : ResC Tryz.f9 [.cell 2 34, .tmp 3] := ⟨rfl⟩
instance : ResC Tryz.f10 [.cell 2 34, .tmp 3] := ⟨rfl⟩
instance : ResC Tryz.f11 [.tmp 4] := ⟨rfl⟩
instance : ResC Tryz.f12 [.tmp 4] := ⟨rfl⟩
instance : ResC Tryz.f13 [.tmp 4] := ⟨rfl⟩
instance : ResC Tryz.f14 [.tmp 4] := ⟨rfl⟩
instance : ResC Tryz.f15 [.tmp 4] := ⟨rfl⟩
instance : ResC Tryz.f16 [.tmp 6] := ⟨rfl⟩
instance : ResC Tryz.f27 [.tmp 2] := ⟨rfl⟩
instance : ResC Tryz.f28 [.cell 2 29] := ⟨rfl⟩
instance : ResC Tryz.f29 [.tmp 4] := ⟨rfl⟩
instance : ResC Tryz.f30 [.tmp 2] := ⟨rfl⟩
instance : ResC Tryz.f31 [.cell 2 34, .tmp 3] := ⟨rfl⟩
instance : ResC Tryz.f32 [.tmp 2] := ⟨rfl⟩
instance : ResC Tryz.f33 [.tmp 2] := ⟨rfl⟩
instance : ResC Tryz.f34 [.cell 8 34, .tmp 9] := ⟨rfl⟩
instance : ResC Tryz.f35 [.tmp 4] := ⟨rfl⟩
instance : ResC Tryz.f36 [.tmp 2] := ⟨rfl⟩
instance : ResC Tryz.f37 [.cell 4 34, .tmp 5] := ⟨rfl⟩
instance : ResC Tryz.f38 [.tmp 4] := ⟨rfl⟩
instance : ResC Tryz.f39 [.tmp 8] := ⟨rfl⟩
instance : ResC Tryz.f40 [.tmp 2] := ⟨rfl⟩
instance : ResC Tryz.f41 [.tmp 6] := ⟨rfl⟩
instance : ResC Tryz.f42 [.tmp 2] := ⟨rfl⟩
instance : ResC Tryz.f43 [.tmp 6] := ⟨rfl⟩
instance : ResC Tryz.f44 [.tmp 4] := ⟨rfl⟩
instance : ResC Tryz.f45 [.tmp 6] := ⟨rfl⟩
instance : ResC Tryz.f46 [.tmp 4] := ⟨rfl⟩
instance : ResC Tryz.f47 [.tmp 4] := ⟨rfl⟩
instance : ResC Tryz.f48 [.tmp 2] := ⟨rfl⟩
instance : ResC Tryz.f49 [.tmp 4] := ⟨rfl⟩
instance : ResC Tryz.f50 [.tmp 4] := ⟨rfl⟩
instance : ResC Tryz.f51 [.tmp 4] := ⟨rfl⟩
instance : ResC Tryz.f52 [.tmp 6] := ⟨rfl⟩
instance : ResC Tryz.f67 [.cell 2 29] := ⟨rfl⟩
instance : ResC Tryz.f68 [.tmp 2] := ⟨rfl⟩
instance : ResC Tryz.f69 [.cell 2 29] := ⟨rfl⟩
instance : ResC Tryz.f70 [.tmp 2] := ⟨rfl⟩
instance : ResC Tryz.f71 [.tmp 4] := ⟨rfl⟩
instance : ResC Tryz.f72 [.tmp 4] := ⟨rfl⟩
instance : ResC Tryz.f73 [.tmp 4] := ⟨rfl⟩
instance : ResC Tryz.f74 [.tmp 8] := ⟨rfl⟩
instance : ResC Tryz.f75 [.tmp 4, .tmp 5] := ⟨rfl⟩
instance : ResC Tryz.f76 [.tmp 4] := ⟨rfl⟩
instance : ResC Tryz.f77 [.tmp 2] := ⟨rfl⟩
instance : ResC Tryz.f78 [.tmp 2] := ⟨rfl⟩
instance : ResC Tryz.f79 [.tmp 2] := ⟨rfl⟩
instance : ResC Tryz.f80 [.tmp 4] := ⟨rfl⟩
instance : ResC Tryz.f81 [.tmp 6] := ⟨rfl⟩
instance : ResC Tryz.f82 [.tmp 2, .tmp 3] := ⟨rfl⟩
instance : ResC Tryz.f83 [.tmp 2] := ⟨rfl⟩
instance : ResC Tryz.f84 [.tmp 8, .tmp 9] := ⟨rfl⟩
instance : ResC Tryz.f85 [.tmp 4, .tmp 5] := ⟨rfl⟩
instance : ResC Tryz.f86 [.tmp 4] := ⟨rfl⟩
instance : ResC Tryz.f87 [.tmp 10] := ⟨rfl⟩
instance : ResC Tryz.f88 [.tmp 2] := ⟨rfl⟩
instance : ResC Tryz.f89 [.tmp 4] := ⟨rfl⟩
instance : ResC Tryz.f90 [.tmp 8] := ⟨rfl⟩
instance : ResC Tryz.f91 [.tmp 2] := ⟨rfl⟩
instance : ResC Tryz.f92 [.tmp 6] := ⟨rfl⟩
instance : ResC Tryz.f93 [.tmp 4] := ⟨rfl⟩
instance : ResC Tryz.f94 [.cell 4 34, .tmp 5] := ⟨rfl⟩
instance : ResC Tryz.f95 [.tmp 2] := ⟨rfl⟩
instance : ResC Tryz.f96 [.tmp 4] := ⟨rfl⟩
instance : ResC Tryz.f97 [.tmp 2] := ⟨rfl⟩
instance : ResC Tryz.f98 [.tmp 6] := ⟨rfl⟩
instance : ResC Tryz.f99 [.tmp 6] := ⟨rfl⟩
instance : ResC Tryz.f100 [.tmp 4] := ⟨rfl⟩
instance : ResC Tryz.f101 [.tmp 8] := ⟨rfl⟩
instance : ResC Tryz.f102 [.tmp 4] := ⟨rfl⟩
instance : ResC Tryz.f103 [.tmp 6] := ⟨rfl⟩
instance : ResC Tryz.f104 [.tmp 4] := ⟨rfl⟩
instance : ResC Tryz.f105 [.cell 6 98, .tmp 7] := ⟨rfl⟩
instance : ResC Tryz.f106 [.tmp 2] := ⟨rfl⟩
instance : ResC Tryz.f107 [.tmp 4] := ⟨rfl⟩
instance : ResC Tryz.f108 [.tmp 4] := ⟨rfl⟩
instance : ResC Tryz.f109 [.tmp 3] := ⟨rfl⟩
instance : ResC Tryz.f110 [.tmp 4] := ⟨rfl⟩
instance : ResC Tryz.f116 [.tmp 4] := ⟨rfl⟩
instance : ResC Tryz.f118 [.cell 2 29] := ⟨rfl⟩
instance : ResC Tryz.f119 [.cell 2 26] := ⟨rfl⟩
instance : ResC Tryz.f120 [.cell 4 95] := ⟨rfl⟩
instance : ResC Tryz.f121 [.tmp 2] := ⟨rfl⟩
instance : ResC Tryz.f122 [.cell 2 26] := ⟨rfl⟩
instance : ResC Tryz.f123 [.tmp 4] := ⟨rfl⟩
instance : ResC Tryz.f124 [.tmp 6] := ⟨rfl⟩
instance : ResC Tryz.f125 [.tmp 2] := ⟨rfl⟩
instance : ResC Tryz.f126 [.tmp 2] := ⟨rfl⟩
instance : ResC Tryz.f127 [.tmp 4] := ⟨rfl⟩
instance : ResC Tryz.f128 [.tmp 4] := ⟨rfl⟩
instance : ResC Tryz.f129 [.tmp 2] := ⟨rfl⟩
instance : ResC Tryz.f130 [.tmp 2] := ⟨rfl⟩
instance : ResC Tryz.f131 [.tmp 2] := ⟨rfl⟩
instance : ResC Tryz.f132 [.tmp 6] := ⟨rfl⟩
instance : ResC Tryz.f133 [.tmp 4] := ⟨rfl⟩
instance : ResC Tryz.f134 [.tmp 3] := ⟨rfl⟩
instance : ResC Tryz.f135 [.tmp 4] := ⟨rfl⟩
instance : ResC Tryz.f137 [.tmp 4] := ⟨rfl⟩
instance : ResC Tryz.f138 [.cell 6 155] := ⟨rfl⟩
instance : ResC Tryz.f139 [.tmp 2, .tmp 3] := ⟨rfl⟩
instance : ResC Tryz.f140 [.tmp 10] := ⟨rfl⟩
instance : ResC Tryz.f141 [.tmp 4] := ⟨rfl⟩
instance : ResC Tryz.f142 [.tmp 2] := ⟨rfl⟩
instance : ResC Tryz.f143 [.tmp 4] := ⟨rfl⟩
instance : ResC Tryz.f144 [.cell 4 34, .tmp 5] := ⟨rfl⟩
instance : ResC Tryz.f145 [.tmp 2] := ⟨rfl⟩
instance : ResC Tryz.f146 [.tmp 6] := ⟨rfl⟩
instance : ResC Tryz.f147 [.tmp 4] := ⟨rfl⟩
instance : ResC Tryz.f148 [.tmp 4] := ⟨rfl⟩
instance : ResC Tryz.f149 [.tmp 6] := ⟨rfl⟩
instance : ResC Tryz.f150 [.tmp 6] := ⟨rfl⟩
instance : ResC Tryz.f151 [.tmp 4] := ⟨rfl⟩
instance : ResC Tryz.f152 [.cell 2 98] := ⟨rfl⟩
instance : ResC Tryz.f153 [.tmp 4] := ⟨rfl⟩
instance : ResC Tryz.f154 [.tmp 3] := ⟨rfl⟩
instance : ResC Tryz.f155 [.tmp 4] := ⟨rfl⟩
instance : ResC Tryz.f156 [.tmp 4] := ⟨rfl⟩
instance : ResC Tryz.f157 [.tmp 4] := ⟨rfl⟩
instance : ResC Tryz.f160 [.tmp 4] := ⟨rfl⟩
instance : ResC Tryz.f161 [.tmp 2] := ⟨rfl⟩
instance : ResC Tryz.f162 [.tmp 4] := ⟨rfl⟩
instance : ResC Tryz.f165 [.tmp 3] := ⟨rfl⟩
instance : ResC Tryz.f166 [.tmp 4] := ⟨rfl⟩
instance : ResC Tryz.f167 [.tmp 6] := ⟨rfl⟩
instance : ResC Tryz.f168 [.tmp 6, .tmp 7] := ⟨rfl⟩
instance : ResC Tryz.f169 [.cell 2 179] := ⟨rfl⟩
instance : ResC Tryz.f170 [.tmp 6, .tmp 7, .tmp 8] := ⟨rfl⟩
instance : ResC Tryz.f171 [.tmp 2] := ⟨rfl⟩
instance : ResC Tryz.f172 [.tmp 4] := ⟨rfl⟩
instance : ResC Tryz.f173 [.tmp 4] := ⟨rfl⟩
instance : ResC Tryz.f174 [.tmp 4] := ⟨rfl⟩
instance : ResC Tryz.f186 [.tmp 4] := ⟨rfl⟩
instance : ResC Tryz.f187 [.tmp 6] := ⟨rfl⟩
instance : ResC Tryz.f188 [.tmp 4] := ⟨rfl⟩
instance : ResC Tryz.f189 [.tmp 2] := ⟨rfl⟩
instance : ResC Tryz.f190 [.tmp 2] := ⟨rfl⟩
instance : ResC Tryz.f197 [.tmp 2] := ⟨rfl⟩
instance : ResC Tryz.f198 [.tmp 4] := ⟨rfl⟩
instance : ResC Tryz.f202 [.tmp 4] := ⟨rfl⟩
instance : ResC Tryz.f203 [] := ⟨rfl⟩
instance : ResC Tryz.f204 [.tmp 4, .tmp 5] := ⟨rfl⟩
instance : ResC Tryz.f205 [.tmp 2] := ⟨rfl⟩
instance : ResC Tryz.f207 [] := ⟨rfl⟩
instance : ResC Tryz.f208 [] := ⟨rfl⟩
end Go.Proofs
