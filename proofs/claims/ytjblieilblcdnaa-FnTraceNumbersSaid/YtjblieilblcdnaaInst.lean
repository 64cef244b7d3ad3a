/- The engine's classes at this program: its types, its functions. Written by a program. -/
import Derived.Test.YtjblieilblcdnaaChecked
import Derived.Test.YtjblieilblcdnaaEngO
namespace Go.Proofs
open Go Go.Eng
set_option linter.unusedVariables false
set_option maxRecDepth 20000
instance : Mixed Try.prog := ⟨by kernel_rfl⟩
instance : Sc Try.prog 2 := ⟨fun w => Try.isAgg2 w, fun w => Try.sizeOf2 w⟩
instance : I64T Try.prog 2 := ⟨Try.underlying2⟩
instance : Sc Try.prog 3 := ⟨fun w => Try.isAgg3 w, fun w => Try.sizeOf3 w⟩
instance : I64T Try.prog 3 := ⟨Try.underlying3⟩
instance : Sc Try.prog 4 := ⟨fun w => Try.isAgg4 w, fun w => Try.sizeOf4 w⟩
instance : Sc Try.prog 5 := ⟨fun w => Try.isAgg5 w, fun w => Try.sizeOf5 w⟩
instance : Sc Try.prog 22 := ⟨fun w => Try.isAgg22 w, fun w => Try.sizeOf22 w⟩
instance : Sl Try.prog 22 1 1 := ⟨5, Try.t5, _, Try.underlying22, by kernel_rfl, rfl, rfl, rfl, rfl, by decide⟩
instance : Sl Try.prog 24 4 96 := ⟨36, Try.t36, _, Try.underlying24, by kernel_rfl, rfl, rfl, rfl, rfl, by decide⟩
instance : Sc Try.prog 26 := ⟨fun w => Try.isAgg26 w, fun w => Try.sizeOf26 w⟩
instance : Sl Try.prog 26 1 8 := ⟨2, Try.t2, _, Try.underlying26, by kernel_rfl, rfl, rfl, rfl, rfl, by decide⟩
instance : SlZ Try.prog 26 [(.int .i64 (0))] := ⟨fun {e i z} h1 h2 h3 => by
  rw [Try.underlying26] at h1; cases h1
  rw [show Try.prog.info? 2 = some Try.t2 by kernel_rfl] at h2; cases h2; cases h3; rfl⟩
instance : Sc Try.prog 27 := ⟨fun w => Try.isAgg27 w, fun w => Try.sizeOf27 w⟩
instance : Sl Try.prog 27 1 24 := ⟨26, Try.t26, _, Try.underlying27, by kernel_rfl, rfl, rfl, rfl, rfl, by decide⟩
instance : SlZ Try.prog 27 [(.slice none 0 0)] := ⟨fun {e i z} h1 h2 h3 => by
  rw [Try.underlying27] at h1; cases h1
  rw [show Try.prog.info? 26 = some Try.t26 by kernel_rfl] at h2; cases h2; cases h3; rfl⟩
instance : Ag Try.prog 29 4 := ⟨fun w => Try.isAgg29 w, fun w => Try.sizeOf29 w⟩
instance : Zr Try.prog 29 [(.int .i64 (0)), (.slice none 0 0), (.slice none 0 0), (.slice none 0 0)] := ⟨_, fun w => Try.zeroValue29 w, rfl⟩
instance : Fo Try.prog 29 0 0 := ⟨fun w a => by simp [Instr.fieldAt, Instr.sureAddr, fieldPlace]⟩
instance : Fo Try.prog 29 1 1 := ⟨fun w a => by simp [Instr.fieldAt, Instr.sureAddr, fieldPlace]⟩
instance : StT Try.prog 29 [(0, 1), (1, 1), (2, 1), (3, 1)] [(.int .i64 (0)), (.slice none 0 0), (.slice none 0 0), (.slice none 0 0)] := ⟨_, Try.t29, _, Try.underlying29, by kernel_rfl, by kernel_rfl, rfl, rfl⟩
instance : Sc Try.prog 34 := ⟨fun w => Try.isAgg34 w, fun w => Try.sizeOf34 w⟩
instance : Sl Try.prog 34 2 32 := ⟨43, Try.t43, _, Try.underlying34, by kernel_rfl, rfl, rfl, rfl, rfl, by decide⟩
instance : Ag Try.prog 36 4 := ⟨fun w => Try.isAgg36 w, fun w => Try.sizeOf36 w⟩
instance : Zr Try.prog 36 [(.slice none 0 0), (.slice none 0 0), (.slice none 0 0), (.slice none 0 0)] := ⟨_, fun w => Try.zeroValue36 w, rfl⟩
instance : Fo Try.prog 36 0 0 := ⟨fun w a => by simp [Instr.fieldAt, Instr.sureAddr, fieldPlace]⟩
instance : Fo Try.prog 36 1 1 := ⟨fun w a => by simp [Instr.fieldAt, Instr.sureAddr, fieldPlace]⟩
instance : Fo Try.prog 36 2 2 := ⟨fun w a => by simp [Instr.fieldAt, Instr.sureAddr, fieldPlace]⟩
instance : Fo Try.prog 36 3 3 := ⟨fun w a => by simp [Instr.fieldAt, Instr.sureAddr, fieldPlace]⟩
instance : StT Try.prog 36 [(0, 1), (1, 1), (2, 1), (3, 1)] [(.slice none 0 0), (.slice none 0 0), (.slice none 0 0), (.slice none 0 0)] := ⟨_, Try.t36, _, Try.underlying36, by kernel_rfl, by kernel_rfl, rfl, rfl⟩
instance : Ag Try.prog 43 2 := ⟨fun w => Try.isAgg43 w, fun w => Try.sizeOf43 w⟩
instance : Zr Try.prog 43 [(.int .i64 (0)), (.slice none 0 0)] := ⟨_, fun w => Try.zeroValue43 w, rfl⟩
instance : Fo Try.prog 43 0 0 := ⟨fun w a => by simp [Instr.fieldAt, Instr.sureAddr, fieldPlace]⟩
instance : Fo Try.prog 43 1 1 := ⟨fun w a => by simp [Instr.fieldAt, Instr.sureAddr, fieldPlace]⟩
instance : StT Try.prog 43 [(0, 1), (1, 1)] [(.int .i64 (0)), (.slice none 0 0)] := ⟨_, Try.t43, _, Try.underlying43, by kernel_rfl, by kernel_rfl, rfl, rfl⟩
instance : Fo Try.prog 47 0 0 := ⟨fun w a => by simp [Instr.fieldAt, Instr.sureAddr, fieldPlace]⟩
instance : Fo Try.prog 47 1 1 := ⟨fun w a => by simp [Instr.fieldAt, Instr.sureAddr, fieldPlace]⟩
instance : StT Try.prog 47 [(0, 1), (1, 1)] [(.slice none 0 0), (.bool false)] := ⟨_, Try.t47, _, Try.underlying47, by kernel_rfl, by kernel_rfl, rfl, rfl⟩
instance : Fo Try.prog 51 0 0 := ⟨fun w a => by simp [Instr.fieldAt, Instr.sureAddr, fieldPlace]⟩
instance : Fo Try.prog 51 1 1 := ⟨fun w a => by simp [Instr.fieldAt, Instr.sureAddr, fieldPlace]⟩
instance : Fo Try.prog 51 2 2 := ⟨fun w a => by simp [Instr.fieldAt, Instr.sureAddr, fieldPlace]⟩
instance : StT Try.prog 51 [(0, 1), (1, 1), (2, 1)] [(.slice none 0 0), (.int .i64 (0)), (.int .i64 (0))] := ⟨_, Try.t51, _, Try.underlying51, by kernel_rfl, by kernel_rfl, rfl, rfl⟩
instance : Ag Try.prog 54 1 := ⟨fun w => Try.isAgg54 w, fun w => Try.sizeOf54 w⟩
instance : Zr Try.prog 54 [(.slice none 0 0)] := ⟨_, fun w => Try.zeroValue54 w, rfl⟩
instance : Fo Try.prog 54 0 0 := ⟨fun w a => by simp [Instr.fieldAt, Instr.sureAddr, fieldPlace]⟩
instance : StT Try.prog 54 [(0, 1)] [(.slice none 0 0)] := ⟨_, Try.t54, _, Try.underlying54, by kernel_rfl, by kernel_rfl, rfl, rfl⟩
instance : Sc Try.prog 55 := ⟨fun w => Try.isAgg55 w, fun w => Try.sizeOf55 w⟩
instance : Sl Try.prog 55 2 48 := ⟨74, Try.t74, _, Try.underlying55, by kernel_rfl, rfl, rfl, rfl, rfl, by decide⟩
instance : Ag Try.prog 57 2 := ⟨fun w => Try.isAgg57 w, fun w => Try.sizeOf57 w⟩
instance : Zr Try.prog 57 [(.slice none 0 0), (.slice none 0 0)] := ⟨_, fun w => Try.zeroValue57 w, rfl⟩
instance : Fo Try.prog 57 0 0 := ⟨fun w a => by simp [Instr.fieldAt, Instr.sureAddr, fieldPlace]⟩
instance : Fo Try.prog 57 1 1 := ⟨fun w a => by simp [Instr.fieldAt, Instr.sureAddr, fieldPlace]⟩
instance : StT Try.prog 57 [(0, 1), (1, 1)] [(.slice none 0 0), (.slice none 0 0)] := ⟨_, Try.t57, _, Try.underlying57, by kernel_rfl, by kernel_rfl, rfl, rfl⟩
instance : Sl Try.prog 64 4 64 := ⟨78, Try.t78, _, Try.underlying64, by kernel_rfl, rfl, rfl, rfl, rfl, by decide⟩
instance : Ag Try.prog 74 2 := ⟨fun w => Try.isAgg74 w, fun w => Try.sizeOf74 w⟩
instance : Zr Try.prog 74 [(.slice none 0 0), (.slice none 0 0)] := ⟨_, fun w => Try.zeroValue74 w, rfl⟩
instance : Fo Try.prog 74 0 0 := ⟨fun w a => by simp [Instr.fieldAt, Instr.sureAddr, fieldPlace]⟩
instance : Fo Try.prog 74 1 1 := ⟨fun w a => by simp [Instr.fieldAt, Instr.sureAddr, fieldPlace]⟩
instance : StT Try.prog 74 [(0, 1), (1, 1)] [(.slice none 0 0), (.slice none 0 0)] := ⟨_, Try.t74, _, Try.underlying74, by kernel_rfl, by kernel_rfl, rfl, rfl⟩
instance : Ag Try.prog 78 4 := ⟨fun w => Try.isAgg78 w, fun w => Try.sizeOf78 w⟩
instance : Zr Try.prog 78 [(.slice none 0 0), (.slice none 0 0), (.int .i64 (0)), (.int .i64 (0))] := ⟨_, fun w => Try.zeroValue78 w, rfl⟩
instance : Fo Try.prog 78 0 0 := ⟨fun w a => by simp [Instr.fieldAt, Instr.sureAddr, fieldPlace]⟩
instance : Fo Try.prog 78 1 1 := ⟨fun w a => by simp [Instr.fieldAt, Instr.sureAddr, fieldPlace]⟩
instance : StT Try.prog 78 [(0, 1), (1, 1), (2, 1), (3, 1)] [(.slice none 0 0), (.slice none 0 0), (.int .i64 (0)), (.int .i64 (0))] := ⟨_, Try.t78, _, Try.underlying78, by kernel_rfl, by kernel_rfl, rfl, rfl⟩
instance : Fo Try.prog 103 0 0 := ⟨fun w a => by simp [Instr.fieldAt, Instr.sureAddr, fieldPlace]⟩
instance : StT Try.prog 103 [(0, 1)] [(.slice none 0 0)] := ⟨_, Try.t103, _, Try.underlying103, by kernel_rfl, by kernel_rfl, rfl, rfl⟩
instance : Sl Try.prog 128 1 1 := ⟨4, Try.t4, _, Try.underlying128, by kernel_rfl, rfl, rfl, rfl, rfl, by decide⟩
instance : SlZ Try.prog 128 [(.bool false)] := ⟨fun {e i z} h1 h2 h3 => by
  rw [Try.underlying128] at h1; cases h1
  rw [show Try.prog.info? 4 = some Try.t4 by kernel_rfl] at h2; cases h2; cases h3; rfl⟩
instance : Op_ Try.prog 2 (Int) repInt := op_int Try.underlying2 (by kernel_rfl)
instance : Op_ Try.prog 3 (Int) repInt := op_int Try.underlying3 (by kernel_rfl)
instance : Op_ Try.prog 4 (Bool) repBool := op_bool Try.underlying4 (by kernel_rfl)
instance : Op_ Try.prog 9 (ByteArray) repStr := op_str Try.underlying9 (by kernel_rfl)
instance : Op_ Try.prog 26 (List Int) repList := op_slice Try.underlying26 (by kernel_rfl) inferInstance
instance : Op_ Try.prog 43 (Int × List Int) repProd := op_struct Try.underlying43 (by kernel_rfl) (opF_cons rfl inferInstance rfl (opF_one rfl inferInstance))
instance : Op_ Try.prog 34 (List (Int × List Int)) repList := op_slice Try.underlying34 (by kernel_rfl) inferInstance
instance : Op_ Try.prog 36 (List Int × List Int × List (Int × List Int) × List Int) repProd := op_struct Try.underlying36 (by kernel_rfl) (opF_cons rfl inferInstance rfl (opF_cons rfl inferInstance rfl (opF_cons rfl inferInstance rfl (opF_one rfl inferInstance))))
instance : Op_ Try.prog 24 (List (List Int × List Int × List (Int × List Int) × List Int)) repList := op_slice Try.underlying24 (by kernel_rfl) inferInstance
instance : Op_ Try.prog 27 (List (List Int)) repList := op_slice Try.underlying27 (by kernel_rfl) inferInstance
instance : Op_ Try.prog 28 (Int × List Int × List (List Int) × List Int) repProd := op_struct Try.underlying28 (by kernel_rfl) (opF_cons rfl inferInstance rfl (opF_cons rfl inferInstance rfl (opF_cons rfl inferInstance rfl (opF_one rfl inferInstance))))
instance : Op_ Try.prog 29 (Int × List Int × List (List Int) × List Int) repProd := op_struct Try.underlying29 (by kernel_rfl) (opF_cons rfl inferInstance rfl (opF_cons rfl inferInstance rfl (opF_cons rfl inferInstance rfl (opF_one rfl inferInstance))))
instance : Op_ Try.prog 35 (List Int × List Int × List (Int × List Int) × List Int) repProd := op_struct Try.underlying35 (by kernel_rfl) (opF_cons rfl inferInstance rfl (opF_cons rfl inferInstance rfl (opF_cons rfl inferInstance rfl (opF_one rfl inferInstance))))
instance : Op_ Try.prog 42 (Int × List Int) repProd := op_struct Try.underlying42 (by kernel_rfl) (opF_cons rfl inferInstance rfl (opF_one rfl inferInstance))
instance : Op_ Try.prog 46 (List Int × Bool) repProd := op_struct Try.underlying46 (by kernel_rfl) (opF_cons rfl inferInstance rfl (opF_one rfl inferInstance))
instance : Op_ Try.prog 47 (List Int × Bool) repProd := op_struct Try.underlying47 (by kernel_rfl) (opF_cons rfl inferInstance rfl (opF_one rfl inferInstance))
instance : Op_ Try.prog 53 (List Int) repList := op_struct Try.underlying53 (by kernel_rfl) (opF_one rfl inferInstance)
instance : Op_ Try.prog 54 (List Int) repList := op_struct Try.underlying54 (by kernel_rfl) (opF_one rfl inferInstance)
instance : Op_ Try.prog 74 (List Int × List Int) repProd := op_struct Try.underlying74 (by kernel_rfl) (opF_cons rfl inferInstance rfl (opF_one rfl inferInstance))
instance : Op_ Try.prog 55 (List (List Int × List Int)) repList := op_slice Try.underlying55 (by kernel_rfl) inferInstance
instance : Op_ Try.prog 56 (List Int × List (List Int × List Int)) repProd := op_struct Try.underlying56 (by kernel_rfl) (opF_cons rfl inferInstance rfl (opF_one rfl inferInstance))
instance : Op_ Try.prog 57 (List Int × List (List Int × List Int)) repProd := op_struct Try.underlying57 (by kernel_rfl) (opF_cons rfl inferInstance rfl (opF_one rfl inferInstance))
instance : Op_ Try.prog 78 (List Int × List Int × Int × Int) repProd := op_struct Try.underlying78 (by kernel_rfl) (opF_cons rfl inferInstance rfl (opF_cons rfl inferInstance rfl (opF_cons rfl inferInstance rfl (opF_one rfl inferInstance))))
instance : Op_ Try.prog 64 (List (List Int × List Int × Int × Int)) repList := op_slice Try.underlying64 (by kernel_rfl) inferInstance
instance : Op_ Try.prog 73 (List Int × List Int) repProd := op_struct Try.underlying73 (by kernel_rfl) (opF_cons rfl inferInstance rfl (opF_one rfl inferInstance))
instance : Op_ Try.prog 77 (List Int × List Int × Int × Int) repProd := op_struct Try.underlying77 (by kernel_rfl) (opF_cons rfl inferInstance rfl (opF_cons rfl inferInstance rfl (opF_cons rfl inferInstance rfl (opF_one rfl inferInstance))))
instance : Op_ Try.prog 102 (List (List Int)) repList := op_struct Try.underlying102 (by kernel_rfl) (opF_one rfl inferInstance)
instance : Op_ Try.prog 103 (List (List Int)) repList := op_struct Try.underlying103 (by kernel_rfl) (opF_one rfl inferInstance)
instance : Op_ Try.prog 128 (List Bool) repList := op_slice Try.underlying128 (by kernel_rfl) inferInstance
instance : IsFn Try.prog 4 := isFn_of Try.func4 (by kernel_rfl) rfl
instance : IsFn Try.prog 5 := isFn_of Try.func5 (by kernel_rfl) rfl
instance : IsFn Try.prog 6 := isFn_of Try.func6 (by kernel_rfl) rfl
instance : IsFn Try.prog 7 := isFn_of Try.func7 (by kernel_rfl) rfl
instance : IsFn Try.prog 8 := isFn_of Try.func8 (by kernel_rfl) rfl
instance : IsFn Try.prog 9 := isFn_of Try.func9 (by kernel_rfl) rfl
instance : IsFn Try.prog 10 := isFn_of Try.func10 (by kernel_rfl) rfl
instance : IsFn Try.prog 11 := isFn_of Try.func11 (by kernel_rfl) rfl
instance : IsFn Try.prog 12 := isFn_of Try.func12 (by kernel_rfl) rfl
instance : IsFn Try.prog 13 := isFn_of Try.func13 (by kernel_rfl) rfl
instance : IsFn Try.prog 14 := isFn_of Try.func14 (by kernel_rfl) rfl
instance : IsFn Try.prog 15 := isFn_of Try.func15 (by kernel_rfl) rfl
instance : IsFn Try.prog 16 := isFn_of Try.func16 (by kernel_rfl) rfl
instance : IsFn Try.prog 17 := isFn_of Try.func17 (by kernel_rfl) rfl
instance : IsFn Try.prog 18 := isFn_of Try.func18 (by kernel_rfl) rfl
instance : IsFn Try.prog 19 := isFn_of Try.func19 (by kernel_rfl) rfl
instance : IsFn Try.prog 20 := isFn_of Try.func20 (by kernel_rfl) rfl
instance : IsFn Try.prog 21 := isFn_of Try.func21 (by kernel_rfl) rfl
instance : IsFn Try.prog 22 := isFn_of Try.func22 (by kernel_rfl) rfl
instance : IsFn Try.prog 23 := isFn_of Try.func23 (by kernel_rfl) rfl
instance : IsFn Try.prog 24 := isFn_of Try.func24 (by kernel_rfl) rfl
instance : IsFn Try.prog 25 := isFn_of Try.func25 (by kernel_rfl) rfl
instance : IsFn Try.prog 26 := isFn_of Try.func26 (by kernel_rfl) rfl
instance : IsFn Try.prog 27 := isFn_of Try.func27 (by kernel_rfl) rfl
instance : IsFn Try.prog 28 := isFn_of Try.func28 (by kernel_rfl) rfl
instance : IsFn Try.prog 29 := isFn_of Try.func29 (by kernel_rfl) rfl
instance : IsFn Try.prog 30 := isFn_of Try.func30 (by kernel_rfl) rfl
instance : IsFn Try.prog 31 := isFn_of Try.func31 (by kernel_rfl) rfl
instance : IsFn Try.prog 32 := isFn_of Try.func32 (by kernel_rfl) rfl
instance : IsFn Try.prog 33 := isFn_of Try.func33 (by kernel_rfl) rfl
instance : IsFn Try.prog 34 := isFn_of Try.func34 (by kernel_rfl) rfl
instance : IsFn Try.prog 35 := isFn_of Try.func35 (by kernel_rfl) rfl
instance : IsFn Try.prog 36 := isFn_of Try.func36 (by kernel_rfl) rfl
instance : IsFn Try.prog 37 := isFn_of Try.func37 (by kernel_rfl) rfl
instance : IsFn Try.prog 38 := isFn_of Try.func38 (by kernel_rfl) rfl
instance : IsFn Try.prog 39 := isFn_of Try.func39 (by kernel_rfl) rfl
instance : IsFn Try.prog 40 := isFn_of Try.func40 (by kernel_rfl) rfl
instance : IsFn Try.prog 41 := isFn_of Try.func41 (by kernel_rfl) rfl
instance : IsFn Try.prog 42 := isFn_of Try.func42 (by kernel_rfl) rfl
instance : IsFn Try.prog 43 := isFn_of Try.func43 (by kernel_rfl) rfl
instance : IsFn Try.prog 44 := isFn_of Try.func44 (by kernel_rfl) rfl
instance : IsFn Try.prog 45 := isFn_of Try.func45 (by kernel_rfl) rfl
instance : IsFn Try.prog 46 := isFn_of Try.func46 (by kernel_rfl) rfl
instance : IsFn Try.prog 47 := isFn_of Try.func47 (by kernel_rfl) rfl
instance : IsFn Try.prog 48 := isFn_of Try.func48 (by kernel_rfl) rfl
instance : IsFn Try.prog 49 := isFn_of Try.func49 (by kernel_rfl) rfl
instance : IsFn Try.prog 50 := isFn_of Try.func50 (by kernel_rfl) rfl
instance : IsFn Try.prog 51 := isFn_of Try.func51 (by kernel_rfl) rfl
instance : IsFn Try.prog 52 := isFn_of Try.func52 (by kernel_rfl) rfl
instance : IsFn Try.prog 53 := isFn_of Try.func53 (by kernel_rfl) rfl
instance : IsFn Try.prog 54 := isFn_of Try.func54 (by kernel_rfl) rfl
instance : IsFn Try.prog 55 := isFn_of Try.func55 (by kernel_rfl) rfl
instance : IsFn Try.prog 56 := isFn_of Try.func56 (by kernel_rfl) rfl
instance : IsFn Try.prog 57 := isFn_of Try.func57 (by kernel_rfl) rfl
instance : IsFn Try.prog 58 := isFn_of Try.func58 (by kernel_rfl) rfl
instance : IsFn Try.prog 59 := isFn_of Try.func59 (by kernel_rfl) rfl
instance : IsFn Try.prog 60 := isFn_of Try.func60 (by kernel_rfl) rfl
instance : IsFn Try.prog 61 := isFn_of Try.func61 (by kernel_rfl) rfl
instance : IsFn Try.prog 62 := isFn_of Try.func62 (by kernel_rfl) rfl
instance : IsFn Try.prog 63 := isFn_of Try.func63 (by kernel_rfl) rfl
instance : IsFn Try.prog 64 := isFn_of Try.func64 (by kernel_rfl) rfl
instance : IsFn Try.prog 65 := isFn_of Try.func65 (by kernel_rfl) rfl
instance : IsFn Try.prog 66 := isFn_of Try.func66 (by kernel_rfl) rfl
instance : IsFn Try.prog 67 := isFn_of Try.func67 (by kernel_rfl) rfl
instance : IsFn Try.prog 68 := isFn_of Try.func68 (by kernel_rfl) rfl
instance : IsFn Try.prog 69 := isFn_of Try.func69 (by kernel_rfl) rfl
instance : IsFn Try.prog 70 := isFn_of Try.func70 (by kernel_rfl) rfl
instance : IsFn Try.prog 71 := isFn_of Try.func71 (by kernel_rfl) rfl
instance : IsFn Try.prog 72 := isFn_of Try.func72 (by kernel_rfl) rfl
instance : IsFn Try.prog 73 := isFn_of Try.func73 (by kernel_rfl) rfl
instance : IsFn Try.prog 74 := isFn_of Try.func74 (by kernel_rfl) rfl
instance : IsFn Try.prog 75 := isFn_of Try.func75 (by kernel_rfl) rfl
instance : IsFn Try.prog 76 := isFn_of Try.func76 (by kernel_rfl) rfl
instance : IsFn Try.prog 77 := isFn_of Try.func77 (by kernel_rfl) rfl
instance : IsFn Try.prog 78 := isFn_of Try.func78 (by kernel_rfl) rfl
instance : IsFn Try.prog 79 := isFn_of Try.func79 (by kernel_rfl) rfl
instance : IsFn Try.prog 80 := isFn_of Try.func80 (by kernel_rfl) rfl
instance : IsFn Try.prog 81 := isFn_of Try.func81 (by kernel_rfl) rfl
instance : IsFn Try.prog 82 := isFn_of Try.func82 (by kernel_rfl) rfl
instance : IsFn Try.prog 83 := isFn_of Try.func83 (by kernel_rfl) rfl
instance : IsFn Try.prog 84 := isFn_of Try.func84 (by kernel_rfl) rfl
instance : IsFn Try.prog 85 := isFn_of Try.func85 (by kernel_rfl) rfl
instance : IsFn Try.prog 86 := isFn_of Try.func86 (by kernel_rfl) rfl
instance : IsFn Try.prog 87 := isFn_of Try.func87 (by kernel_rfl) rfl
instance : IsFn Try.prog 88 := isFn_of Try.func88 (by kernel_rfl) rfl
instance : IsFn Try.prog 89 := isFn_of Try.func89 (by kernel_rfl) rfl
instance : IsFn Try.prog 90 := isFn_of Try.func90 (by kernel_rfl) rfl
instance : IsFn Try.prog 91 := isFn_of Try.func91 (by kernel_rfl) rfl
instance : IsFn Try.prog 92 := isFn_of Try.func92 (by kernel_rfl) rfl
instance : IsFn Try.prog 93 := isFn_of Try.func93 (by kernel_rfl) rfl
instance : IsFn Try.prog 94 := isFn_of Try.func94 (by kernel_rfl) rfl
instance : IsFn Try.prog 95 := isFn_of Try.func95 (by kernel_rfl) rfl
instance : ResC Try.f3 [.tmp 2] := ⟨rfl⟩
instance : ResC Try.f4 [.tmp 2] := ⟨rfl⟩
instance : ResC Try.f5 [.tmp 2] := ⟨rfl⟩
instance : ResC Try.f6 [.cell 2 29] := ⟨rfl⟩
instance : ResC Try.f7 [.cell 2 29] := ⟨rfl⟩
instance : ResC Try.f8 [.tmp 4] := ⟨rfl⟩
instance : ResC Try.f9 [.tmp 2, .tmp 3] := ⟨rfl⟩
instance : ResC Try.f10 [.tmp 2] := ⟨rfl⟩
instance : ResC Try.f11 [.tmp 2] := ⟨rfl⟩
instance : ResC Try.f12 [.tmp 2] := ⟨rfl⟩
instance : ResC Try.f13 [.tmp 2] := ⟨rfl⟩
instance : ResC Try.f14 [.tmp 4] := ⟨rfl⟩
instance : ResC Try.f15 [.tmp 2] := ⟨rfl⟩
instance : ResC Try.f16 [.tmp 2] := ⟨rfl⟩
instance : ResC Try.f17 [.tmp 2, .tmp 3] := ⟨rfl⟩
instance : ResC Try.f18 [.cell 2 57] := ⟨rfl⟩
instance : ResC Try.f19 [.tmp 4] := ⟨rfl⟩
instance : ResC Try.f20 [.tmp 4] := ⟨rfl⟩
instance : ResC Try.f21 [.tmp 2] := ⟨rfl⟩
instance : ResC Try.f22 [.tmp 4] := ⟨rfl⟩
instance : ResC Try.f23 [.tmp 2] := ⟨rfl⟩
instance : ResC Try.f24 [.tmp 2] := ⟨rfl⟩
instance : ResC Try.f25 [.tmp 2, .tmp 3] := ⟨rfl⟩
instance : ResC Try.f26 [.tmp 4] := ⟨rfl⟩
instance : ResC Try.f27 [.tmp 4] := ⟨rfl⟩
instance : ResC Try.f28 [.tmp 2] := ⟨rfl⟩
instance : ResC Try.f29 [.cell 4 36, .tmp 5] := ⟨rfl⟩
instance : ResC Try.f30 [.tmp 4] := ⟨rfl⟩
instance : ResC Try.f31 [.cell 2 57] := ⟨rfl⟩
instance : ResC Try.f32 [.tmp 4] := ⟨rfl⟩
instance : ResC Try.f33 [.cell 2 54] := ⟨rfl⟩
instance : ResC Try.f34 [.tmp 2] := ⟨rfl⟩
instance : ResC Try.f35 [.tmp 2] := ⟨rfl⟩
instance : ResC Try.f36 [.cell 6 78, .tmp 7] := ⟨rfl⟩
instance : ResC Try.f37 [.tmp 6] := ⟨rfl⟩
instance : ResC Try.f38 [.tmp 6] := ⟨rfl⟩
instance : ResC Try.f39 [.tmp 4] := ⟨rfl⟩
instance : ResC Try.f40 [.tmp 2] := ⟨rfl⟩
instance : ResC Try.f41 [.tmp 4, .tmp 5] := ⟨rfl⟩
instance : ResC Try.f42 [.tmp 6, .tmp 7] := ⟨rfl⟩
instance : ResC Try.f43 [.tmp 4, .tmp 5] := ⟨rfl⟩
instance : ResC Try.f44 [.tmp 6, .tmp 7] := ⟨rfl⟩
instance : ResC Try.f45 [.cell 2 57] := ⟨rfl⟩
instance : ResC Try.f46 [.cell 2 54] := ⟨rfl⟩
instance : ResC Try.f47 [.cell 4 74] := ⟨rfl⟩
instance : ResC Try.f48 [.tmp 2] := ⟨rfl⟩
instance : ResC Try.f49 [.tmp 6] := ⟨rfl⟩
instance : ResC Try.f50 [.tmp 8] := ⟨rfl⟩
instance : ResC Try.f51 [.tmp 4] := ⟨rfl⟩
instance : ResC Try.f52 [.tmp 2] := ⟨rfl⟩
instance : ResC Try.f53 [.tmp 2] := ⟨rfl⟩
instance : ResC Try.f54 [.tmp 6] := ⟨rfl⟩
instance : ResC Try.f55 [.tmp 6] := ⟨rfl⟩
instance : ResC Try.f56 [.tmp 4, .tmp 5] := ⟨rfl⟩
instance : ResC Try.f57 [.tmp 8] := ⟨rfl⟩
instance : ResC Try.f58 [.tmp 4] := ⟨rfl⟩
instance : ResC Try.f59 [.tmp 4] := ⟨rfl⟩
instance : ResC Try.f60 [.tmp 4] := ⟨rfl⟩
instance : ResC Try.f61 [.tmp 4] := ⟨rfl⟩
instance : ResC Try.f62 [.tmp 4] := ⟨rfl⟩
instance : ResC Try.f63 [.tmp 6] := ⟨rfl⟩
instance : ResC Try.f64 [.tmp 4] := ⟨rfl⟩
instance : ResC Try.f65 [.tmp 4] := ⟨rfl⟩
instance : ResC Try.f66 [.tmp 4] := ⟨rfl⟩
instance : ResC Try.f67 [.tmp 4] := ⟨rfl⟩
instance : ResC Try.f68 [.tmp 4] := ⟨rfl⟩
instance : ResC Try.f69 [.tmp 10, .tmp 11] := ⟨rfl⟩
instance : ResC Try.f70 [.tmp 4, .tmp 5] := ⟨rfl⟩
instance : ResC Try.f71 [.tmp 4] := ⟨rfl⟩
instance : ResC Try.f72 [.tmp 8, .tmp 9] := ⟨rfl⟩
instance : ResC Try.f73 [.tmp 2] := ⟨rfl⟩
instance : ResC Try.f74 [.tmp 6] := ⟨rfl⟩
instance : ResC Try.f75 [.tmp 6] := ⟨rfl⟩
instance : ResC Try.f76 [.tmp 4] := ⟨rfl⟩
instance : ResC Try.f77 [.tmp 4] := ⟨rfl⟩
instance : ResC Try.f78 [.tmp 2] := ⟨rfl⟩
instance : ResC Try.f79 [.tmp 4] := ⟨rfl⟩
instance : ResC Try.f80 [.tmp 6] := ⟨rfl⟩
instance : ResC Try.f81 [.tmp 4] := ⟨rfl⟩
instance : ResC Try.f82 [.tmp 2] := ⟨rfl⟩
instance : ResC Try.f83 [.tmp 4] := ⟨rfl⟩
instance : ResC Try.f84 [.tmp 8] := ⟨rfl⟩
instance : ResC Try.f85 [.tmp 6] := ⟨rfl⟩
instance : ResC Try.f86 [.tmp 6] := ⟨rfl⟩
instance : ResC Try.f87 [.tmp 6] := ⟨rfl⟩
instance : ResC Try.f88 [.tmp 4] := ⟨rfl⟩
instance : ResC Try.f89 [.cell 6 43, .tmp 7] := ⟨rfl⟩
instance : ResC Try.f90 [.tmp 4] := ⟨rfl⟩
instance : ResC Try.f91 [.cell 6 43, .tmp 7] := ⟨rfl⟩
instance : ResC Try.f92 [.tmp 4] := ⟨rfl⟩
instance : ResC Try.f93 [.cell 6 43, .tmp 7] := ⟨rfl⟩
instance : ResC Try.f94 [.cell 8 43, .tmp 9] := ⟨rfl⟩
instance : ResC Try.f95 [.cell 6 43, .tmp 7] := ⟨rfl⟩
end Go.Proofs
