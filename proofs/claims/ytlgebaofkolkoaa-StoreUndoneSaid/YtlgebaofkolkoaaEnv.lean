import Derived.Test.YtlgebaofkolkoaaInsW
import Derived.KernelRfl
import Derived.Test.YtlgebaofkolkoaaProg
set_option maxRecDepth 100000
set_option linter.defProp false
namespace Go.Am.Ytlgebaofkolkoaa
open Go Go.Am Go.Proofs
noncomputable def ty2 : TE Try.prog := ⟨2, ⟨Try.t2.desc, 1, 8, .int .i64 (0)⟩, ⟨⟨Try.t2, _, rfl, rfl, rfl, rfl, rfl⟩, rfl, rfl, Try.underlying2⟩⟩
noncomputable def ty3 : TE Try.prog := ⟨3, ⟨Try.t3.desc, 1, 8, .int .i64 (0)⟩, ⟨⟨Try.t3, _, rfl, rfl, rfl, rfl, rfl⟩, rfl, rfl, Try.underlying3⟩⟩
noncomputable def ty4 : TE Try.prog := ⟨4, ⟨Try.t4.desc, 1, 1, .bool false⟩, ⟨⟨Try.t4, _, rfl, rfl, rfl, rfl, rfl⟩, rfl, rfl, Try.underlying4⟩⟩
noncomputable def ty5 : TE Try.prog := ⟨5, ⟨Try.t5.desc, 1, 1, .int .u8 (0)⟩, ⟨⟨Try.t5, _, rfl, rfl, rfl, rfl, rfl⟩, rfl, rfl, Try.underlying5⟩⟩
noncomputable def ty9 : TE Try.prog := ⟨9, ⟨Try.t9.desc, 1, 16, .str []⟩, ⟨⟨Try.t9, _, rfl, rfl, rfl, rfl, rfl⟩, rfl, rfl, Try.underlying9⟩⟩
noncomputable def ty10 : TE Try.prog := ⟨10, ⟨Try.t9.desc, 1, 16, .str []⟩, ⟨⟨Try.t10, _, rfl, rfl, rfl, rfl, rfl⟩, rfl, rfl, Try.underlying10⟩⟩
noncomputable def Q3 : TE Try.prog := ⟨22, ⟨Try.t22.desc, 1, 8, .nilp⟩, ⟨⟨Try.t22, _, rfl, rfl, rfl, rfl, rfl⟩, rfl, rfl, Try.underlying22⟩⟩
noncomputable def PZ : TE Try.prog := ⟨24, ⟨Try.t24.desc, 32, 32, .agg [.int .u8 (0), .int .u8 (0), .int .u8 (0), .int .u8 (0), .int .u8 (0), .int .u8 (0), .int .u8 (0), .int .u8 (0), .int .u8 (0), .int .u8 (0), .int .u8 (0), .int .u8 (0), .int .u8 (0), .int .u8 (0), .int .u8 (0), .int .u8 (0), .int .u8 (0), .int .u8 (0), .int .u8 (0), .int .u8 (0), .int .u8 (0), .int .u8 (0), .int .u8 (0), .int .u8 (0), .int .u8 (0), .int .u8 (0), .int .u8 (0), .int .u8 (0), .int .u8 (0), .int .u8 (0), .int .u8 (0), .int .u8 (0)]⟩, ⟨⟨Try.t24, _, rfl, rfl, rfl, rfl, rfl⟩, rfl, rfl, Try.underlying24⟩⟩
noncomputable def PY : TE Try.prog := ⟨25, ⟨Try.t24.desc, 32, 32, .agg [.int .u8 (0), .int .u8 (0), .int .u8 (0), .int .u8 (0), .int .u8 (0), .int .u8 (0), .int .u8 (0), .int .u8 (0), .int .u8 (0), .int .u8 (0), .int .u8 (0), .int .u8 (0), .int .u8 (0), .int .u8 (0), .int .u8 (0), .int .u8 (0), .int .u8 (0), .int .u8 (0), .int .u8 (0), .int .u8 (0), .int .u8 (0), .int .u8 (0), .int .u8 (0), .int .u8 (0), .int .u8 (0), .int .u8 (0), .int .u8 (0), .int .u8 (0), .int .u8 (0), .int .u8 (0), .int .u8 (0), .int .u8 (0)]⟩, ⟨⟨Try.t25, _, rfl, rfl, rfl, rfl, rfl⟩, rfl, rfl, Try.underlying25⟩⟩
noncomputable def PX : TE Try.prog := ⟨26, ⟨Try.t26.desc, 1, 4, .int .u32 (0)⟩, ⟨⟨Try.t26, _, rfl, rfl, rfl, rfl, rfl⟩, rfl, rfl, Try.underlying26⟩⟩
noncomputable def PW : TE Try.prog := ⟨27, ⟨Try.t27.desc, 33, 36, .agg [.int .u8 (0), .int .u8 (0), .int .u8 (0), .int .u8 (0), .int .u8 (0), .int .u8 (0), .int .u8 (0), .int .u8 (0), .int .u8 (0), .int .u8 (0), .int .u8 (0), .int .u8 (0), .int .u8 (0), .int .u8 (0), .int .u8 (0), .int .u8 (0), .int .u8 (0), .int .u8 (0), .int .u8 (0), .int .u8 (0), .int .u8 (0), .int .u8 (0), .int .u8 (0), .int .u8 (0), .int .u8 (0), .int .u8 (0), .int .u8 (0), .int .u8 (0), .int .u8 (0), .int .u8 (0), .int .u8 (0), .int .u8 (0), .int .u32 (0)]⟩, ⟨⟨Try.t27, _, rfl, rfl, rfl, rfl, rfl⟩, rfl, rfl, Try.underlying27⟩⟩
noncomputable def F9 : TE Try.prog := ⟨28, ⟨Try.t27.desc, 33, 36, .agg [.int .u8 (0), .int .u8 (0), .int .u8 (0), .int .u8 (0), .int .u8 (0), .int .u8 (0), .int .u8 (0), .int .u8 (0), .int .u8 (0), .int .u8 (0), .int .u8 (0), .int .u8 (0), .int .u8 (0), .int .u8 (0), .int .u8 (0), .int .u8 (0), .int .u8 (0), .int .u8 (0), .int .u8 (0), .int .u8 (0), .int .u8 (0), .int .u8 (0), .int .u8 (0), .int .u8 (0), .int .u8 (0), .int .u8 (0), .int .u8 (0), .int .u8 (0), .int .u8 (0), .int .u8 (0), .int .u8 (0), .int .u8 (0), .int .u32 (0)]⟩, ⟨⟨Try.t28, _, rfl, rfl, rfl, rfl, rfl⟩, rfl, rfl, Try.underlying28⟩⟩
noncomputable def PV : TE Try.prog := ⟨29, ⟨Try.t29.desc, 1, 24, .nils⟩, ⟨⟨Try.t29, _, rfl, rfl, rfl, rfl, rfl⟩, rfl, rfl, Try.underlying29⟩⟩
noncomputable def PU : TE Try.prog := ⟨30, ⟨Try.t30.desc, 70, 128, .agg [.int .u8 (0), .int .u8 (0), .int .u8 (0), .int .u8 (0), .int .u8 (0), .int .u8 (0), .int .u8 (0), .int .u8 (0), .int .u8 (0), .int .u8 (0), .int .u8 (0), .int .u8 (0), .int .u8 (0), .int .u8 (0), .int .u8 (0), .int .u8 (0), .int .u8 (0), .int .u8 (0), .int .u8 (0), .int .u8 (0), .int .u8 (0), .int .u8 (0), .int .u8 (0), .int .u8 (0), .int .u8 (0), .int .u8 (0), .int .u8 (0), .int .u8 (0), .int .u8 (0), .int .u8 (0), .int .u8 (0), .int .u8 (0), .int .u32 (0), .int .i64 (0), .int .i64 (0), .nils, .bool false, .int .i64 (0), .int .u8 (0), .int .u8 (0), .int .u8 (0), .int .u8 (0), .int .u8 (0), .int .u8 (0), .int .u8 (0), .int .u8 (0), .int .u8 (0), .int .u8 (0), .int .u8 (0), .int .u8 (0), .int .u8 (0), .int .u8 (0), .int .u8 (0), .int .u8 (0), .int .u8 (0), .int .u8 (0), .int .u8 (0), .int .u8 (0), .int .u8 (0), .int .u8 (0), .int .u8 (0), .int .u8 (0), .int .u8 (0), .int .u8 (0), .int .u8 (0), .int .u8 (0), .int .u8 (0), .int .u8 (0), .int .u8 (0), .int .u8 (0)]⟩, ⟨⟨Try.t30, _, rfl, rfl, rfl, rfl, rfl⟩, rfl, rfl, Try.underlying30⟩⟩
noncomputable def fD : TE Try.prog := ⟨31, ⟨Try.t30.desc, 70, 128, .agg [.int .u8 (0), .int .u8 (0), .int .u8 (0), .int .u8 (0), .int .u8 (0), .int .u8 (0), .int .u8 (0), .int .u8 (0), .int .u8 (0), .int .u8 (0), .int .u8 (0), .int .u8 (0), .int .u8 (0), .int .u8 (0), .int .u8 (0), .int .u8 (0), .int .u8 (0), .int .u8 (0), .int .u8 (0), .int .u8 (0), .int .u8 (0), .int .u8 (0), .int .u8 (0), .int .u8 (0), .int .u8 (0), .int .u8 (0), .int .u8 (0), .int .u8 (0), .int .u8 (0), .int .u8 (0), .int .u8 (0), .int .u8 (0), .int .u32 (0), .int .i64 (0), .int .i64 (0), .nils, .bool false, .int .i64 (0), .int .u8 (0), .int .u8 (0), .int .u8 (0), .int .u8 (0), .int .u8 (0), .int .u8 (0), .int .u8 (0), .int .u8 (0), .int .u8 (0), .int .u8 (0), .int .u8 (0), .int .u8 (0), .int .u8 (0), .int .u8 (0), .int .u8 (0), .int .u8 (0), .int .u8 (0), .int .u8 (0), .int .u8 (0), .int .u8 (0), .int .u8 (0), .int .u8 (0), .int .u8 (0), .int .u8 (0), .int .u8 (0), .int .u8 (0), .int .u8 (0), .int .u8 (0), .int .u8 (0), .int .u8 (0), .int .u8 (0), .int .u8 (0)]⟩, ⟨⟨Try.t31, _, rfl, rfl, rfl, rfl, rfl⟩, rfl, rfl, Try.underlying31⟩⟩
noncomputable def ty32 : TE Try.prog := ⟨32, ⟨Try.t3.desc, 1, 8, .int .i64 (0)⟩, ⟨⟨Try.t32, _, rfl, rfl, rfl, rfl, rfl⟩, rfl, rfl, Try.underlying32⟩⟩
noncomputable def ty35 : TE Try.prog := ⟨35, ⟨Try.t35.desc, 1, 8, .nilf⟩, ⟨⟨Try.t35, _, rfl, rfl, rfl, rfl, rfl⟩, rfl, rfl, Try.underlying35⟩⟩
noncomputable def ty37 : TE Try.prog := ⟨37, ⟨Try.t37.desc, 1, 0, .tup [.nils, .int .i64 (0)]⟩, ⟨⟨Try.t37, _, rfl, rfl, rfl, rfl, rfl⟩, rfl, rfl, Try.underlying37⟩⟩
noncomputable def PT : TE Try.prog := ⟨43, ⟨Try.t43.desc, 1, 24, .nils⟩, ⟨⟨Try.t43, _, rfl, rfl, rfl, rfl, rfl⟩, rfl, rfl, Try.underlying43⟩⟩
noncomputable def PS : TE Try.prog := ⟨44, ⟨Try.t44.desc, 1, 24, .nils⟩, ⟨⟨Try.t44, _, rfl, rfl, rfl, rfl, rfl⟩, rfl, rfl, Try.underlying44⟩⟩
noncomputable def PR : TE Try.prog := ⟨45, ⟨Try.t45.desc, 37, 104, .agg [.int .i64 (0), .int .u8 (0), .int .u8 (0), .int .u8 (0), .int .u8 (0), .int .u8 (0), .int .u8 (0), .int .u8 (0), .int .u8 (0), .int .u8 (0), .int .u8 (0), .int .u8 (0), .int .u8 (0), .int .u8 (0), .int .u8 (0), .int .u8 (0), .int .u8 (0), .int .u8 (0), .int .u8 (0), .int .u8 (0), .int .u8 (0), .int .u8 (0), .int .u8 (0), .int .u8 (0), .int .u8 (0), .int .u8 (0), .int .u8 (0), .int .u8 (0), .int .u8 (0), .int .u8 (0), .int .u8 (0), .int .u8 (0), .int .u8 (0), .nils, .nils, .int .i64 (0), .int .i64 (0)]⟩, ⟨⟨Try.t45, _, rfl, rfl, rfl, rfl, rfl⟩, rfl, rfl, Try.underlying45⟩⟩
noncomputable def PQ : TE Try.prog := ⟨46, ⟨Try.t45.desc, 37, 104, .agg [.int .i64 (0), .int .u8 (0), .int .u8 (0), .int .u8 (0), .int .u8 (0), .int .u8 (0), .int .u8 (0), .int .u8 (0), .int .u8 (0), .int .u8 (0), .int .u8 (0), .int .u8 (0), .int .u8 (0), .int .u8 (0), .int .u8 (0), .int .u8 (0), .int .u8 (0), .int .u8 (0), .int .u8 (0), .int .u8 (0), .int .u8 (0), .int .u8 (0), .int .u8 (0), .int .u8 (0), .int .u8 (0), .int .u8 (0), .int .u8 (0), .int .u8 (0), .int .u8 (0), .int .u8 (0), .int .u8 (0), .int .u8 (0), .int .u8 (0), .nils, .nils, .int .i64 (0), .int .i64 (0)]⟩, ⟨⟨Try.t46, _, rfl, rfl, rfl, rfl, rfl⟩, rfl, rfl, Try.underlying46⟩⟩
noncomputable def PO : TE Try.prog := ⟨47, ⟨Try.t47.desc, 65, 68, .agg [.int .u8 (0), .int .u8 (0), .int .u8 (0), .int .u8 (0), .int .u8 (0), .int .u8 (0), .int .u8 (0), .int .u8 (0), .int .u8 (0), .int .u8 (0), .int .u8 (0), .int .u8 (0), .int .u8 (0), .int .u8 (0), .int .u8 (0), .int .u8 (0), .int .u8 (0), .int .u8 (0), .int .u8 (0), .int .u8 (0), .int .u8 (0), .int .u8 (0), .int .u8 (0), .int .u8 (0), .int .u8 (0), .int .u8 (0), .int .u8 (0), .int .u8 (0), .int .u8 (0), .int .u8 (0), .int .u8 (0), .int .u8 (0), .int .u32 (0), .int .u8 (0), .int .u8 (0), .int .u8 (0), .int .u8 (0), .int .u8 (0), .int .u8 (0), .int .u8 (0), .int .u8 (0), .int .u8 (0), .int .u8 (0), .int .u8 (0), .int .u8 (0), .int .u8 (0), .int .u8 (0), .int .u8 (0), .int .u8 (0), .int .u8 (0), .int .u8 (0), .int .u8 (0), .int .u8 (0), .int .u8 (0), .int .u8 (0), .int .u8 (0), .int .u8 (0), .int .u8 (0), .int .u8 (0), .int .u8 (0), .int .u8 (0), .int .u8 (0), .int .u8 (0), .int .u8 (0), .int .u8 (0)]⟩, ⟨⟨Try.t47, _, rfl, rfl, rfl, rfl, rfl⟩, rfl, rfl, Try.underlying47⟩⟩
noncomputable def yP : TE Try.prog := ⟨48, ⟨Try.t47.desc, 65, 68, .agg [.int .u8 (0), .int .u8 (0), .int .u8 (0), .int .u8 (0), .int .u8 (0), .int .u8 (0), .int .u8 (0), .int .u8 (0), .int .u8 (0), .int .u8 (0), .int .u8 (0), .int .u8 (0), .int .u8 (0), .int .u8 (0), .int .u8 (0), .int .u8 (0), .int .u8 (0), .int .u8 (0), .int .u8 (0), .int .u8 (0), .int .u8 (0), .int .u8 (0), .int .u8 (0), .int .u8 (0), .int .u8 (0), .int .u8 (0), .int .u8 (0), .int .u8 (0), .int .u8 (0), .int .u8 (0), .int .u8 (0), .int .u8 (0), .int .u32 (0), .int .u8 (0), .int .u8 (0), .int .u8 (0), .int .u8 (0), .int .u8 (0), .int .u8 (0), .int .u8 (0), .int .u8 (0), .int .u8 (0), .int .u8 (0), .int .u8 (0), .int .u8 (0), .int .u8 (0), .int .u8 (0), .int .u8 (0), .int .u8 (0), .int .u8 (0), .int .u8 (0), .int .u8 (0), .int .u8 (0), .int .u8 (0), .int .u8 (0), .int .u8 (0), .int .u8 (0), .int .u8 (0), .int .u8 (0), .int .u8 (0), .int .u8 (0), .int .u8 (0), .int .u8 (0), .int .u8 (0), .int .u8 (0)]⟩, ⟨⟨Try.t48, _, rfl, rfl, rfl, rfl, rfl⟩, rfl, rfl, Try.underlying48⟩⟩
noncomputable def PN : TE Try.prog := ⟨56, ⟨Try.t56.desc, 1, 8, .nilp⟩, ⟨⟨Try.t56, _, rfl, rfl, rfl, rfl, rfl⟩, rfl, rfl, Try.underlying56⟩⟩
noncomputable def M8 : TE Try.prog := ⟨57, ⟨Try.t57.desc, 1, 24, .nils⟩, ⟨⟨Try.t57, _, rfl, rfl, rfl, rfl, rfl⟩, rfl, rfl, Try.underlying57⟩⟩
noncomputable def PM : TE Try.prog := ⟨58, ⟨Try.t58.desc, 2, 32, .agg [.nilp, .nils]⟩, ⟨⟨Try.t58, _, rfl, rfl, rfl, rfl, rfl⟩, rfl, rfl, Try.underlying58⟩⟩
noncomputable def PL : TE Try.prog := ⟨59, ⟨Try.t58.desc, 2, 32, .agg [.nilp, .nils]⟩, ⟨⟨Try.t59, _, rfl, rfl, rfl, rfl, rfl⟩, rfl, rfl, Try.underlying59⟩⟩
noncomputable def PK : TE Try.prog := ⟨60, ⟨Try.t60.desc, 37, 72, .agg [.int .i64 (0), .int .u8 (0), .int .u8 (0), .int .u8 (0), .int .u8 (0), .int .u8 (0), .int .u8 (0), .int .u8 (0), .int .u8 (0), .int .u8 (0), .int .u8 (0), .int .u8 (0), .int .u8 (0), .int .u8 (0), .int .u8 (0), .int .u8 (0), .int .u8 (0), .int .u8 (0), .int .u8 (0), .int .u8 (0), .int .u8 (0), .int .u8 (0), .int .u8 (0), .int .u8 (0), .int .u8 (0), .int .u8 (0), .int .u8 (0), .int .u8 (0), .int .u8 (0), .int .u8 (0), .int .u8 (0), .int .u8 (0), .int .u8 (0), .int .i64 (0), .int .i64 (0), .int .i64 (0), .int .i64 (0)]⟩, ⟨⟨Try.t60, _, rfl, rfl, rfl, rfl, rfl⟩, rfl, rfl, Try.underlying60⟩⟩
noncomputable def sF : TE Try.prog := ⟨61, ⟨Try.t60.desc, 37, 72, .agg [.int .i64 (0), .int .u8 (0), .int .u8 (0), .int .u8 (0), .int .u8 (0), .int .u8 (0), .int .u8 (0), .int .u8 (0), .int .u8 (0), .int .u8 (0), .int .u8 (0), .int .u8 (0), .int .u8 (0), .int .u8 (0), .int .u8 (0), .int .u8 (0), .int .u8 (0), .int .u8 (0), .int .u8 (0), .int .u8 (0), .int .u8 (0), .int .u8 (0), .int .u8 (0), .int .u8 (0), .int .u8 (0), .int .u8 (0), .int .u8 (0), .int .u8 (0), .int .u8 (0), .int .u8 (0), .int .u8 (0), .int .u8 (0), .int .u8 (0), .int .i64 (0), .int .i64 (0), .int .i64 (0), .int .i64 (0)]⟩, ⟨⟨Try.t61, _, rfl, rfl, rfl, rfl, rfl⟩, rfl, rfl, Try.underlying61⟩⟩
noncomputable def ty67 : TE Try.prog := ⟨67, ⟨Try.t67.desc, 1, 8, .nilf⟩, ⟨⟨Try.t67, _, rfl, rfl, rfl, rfl, rfl⟩, rfl, rfl, Try.underlying67⟩⟩
noncomputable def ty69 : TE Try.prog := ⟨69, ⟨Try.t69.desc, 1, 8, .nilf⟩, ⟨⟨Try.t69, _, rfl, rfl, rfl, rfl, rfl⟩, rfl, rfl, Try.underlying69⟩⟩
noncomputable def ty74 : TE Try.prog := ⟨74, ⟨Try.t74.desc, 1, 8, .nilf⟩, ⟨⟨Try.t74, _, rfl, rfl, rfl, rfl, rfl⟩, rfl, rfl, Try.underlying74⟩⟩
noncomputable def ty77 : TE Try.prog := ⟨77, ⟨Try.t77.desc, 1, 8, .nilf⟩, ⟨⟨Try.t77, _, rfl, rfl, rfl, rfl, rfl⟩, rfl, rfl, Try.underlying77⟩⟩
noncomputable def ty81 : TE Try.prog := ⟨81, ⟨Try.t81.desc, 1, 24, .nils⟩, ⟨⟨Try.t81, _, rfl, rfl, rfl, rfl, rfl⟩, rfl, rfl, Try.underlying81⟩⟩
noncomputable def ty86 : TE Try.prog := ⟨86, ⟨Try.t86.desc, 1, 24, .agg [.nils]⟩, ⟨⟨Try.t86, _, rfl, rfl, rfl, rfl, rfl⟩, rfl, rfl, Try.underlying86⟩⟩
noncomputable def ty87 : TE Try.prog := ⟨87, ⟨Try.t86.desc, 1, 24, .agg [.nils]⟩, ⟨⟨Try.t87, _, rfl, rfl, rfl, rfl, rfl⟩, rfl, rfl, Try.underlying87⟩⟩
noncomputable def PJ : TE Try.prog := ⟨95, ⟨Try.t95.desc, 1, 24, .nils⟩, ⟨⟨Try.t95, _, rfl, rfl, rfl, rfl, rfl⟩, rfl, rfl, Try.underlying95⟩⟩
noncomputable def PI : TE Try.prog := ⟨96, ⟨Try.t96.desc, 1, 8, .nilf⟩, ⟨⟨Try.t96, _, rfl, rfl, rfl, rfl, rfl⟩, rfl, rfl, Try.underlying96⟩⟩
noncomputable def PH : TE Try.prog := ⟨97, ⟨Try.t97.desc, 2, 32, .agg [.nils, .nilf]⟩, ⟨⟨Try.t97, _, rfl, rfl, rfl, rfl, rfl⟩, rfl, rfl, Try.underlying97⟩⟩
noncomputable def PG : TE Try.prog := ⟨98, ⟨Try.t97.desc, 2, 32, .agg [.nils, .nilf]⟩, ⟨⟨Try.t98, _, rfl, rfl, rfl, rfl, rfl⟩, rfl, rfl, Try.underlying98⟩⟩
noncomputable def PF : TE Try.prog := ⟨99, ⟨Try.t99.desc, 5, 72, .agg [.bool false, .nils, .nilf, .nils, .nilf]⟩, ⟨⟨Try.t99, _, rfl, rfl, rfl, rfl, rfl⟩, rfl, rfl, Try.underlying99⟩⟩
noncomputable def HI : TE Try.prog := ⟨100, ⟨Try.t99.desc, 5, 72, .agg [.bool false, .nils, .nilf, .nils, .nilf]⟩, ⟨⟨Try.t100, _, rfl, rfl, rfl, rfl, rfl⟩, rfl, rfl, Try.underlying100⟩⟩
noncomputable def W5 : TE Try.prog := ⟨101, ⟨Try.t101.desc, 1, 24, .nils⟩, ⟨⟨Try.t101, _, rfl, rfl, rfl, rfl, rfl⟩, rfl, rfl, Try.underlying101⟩⟩
noncomputable def W4 : TE Try.prog := ⟨102, ⟨Try.t102.desc, 1, 8, .nilf⟩, ⟨⟨Try.t102, _, rfl, rfl, rfl, rfl, rfl⟩, rfl, rfl, Try.underlying102⟩⟩
noncomputable def HH : TE Try.prog := ⟨104, ⟨Try.t104.desc, 40, 128, .agg [.int .i64 (0), .int .i64 (0), .int .u8 (0), .int .u8 (0), .int .u8 (0), .int .u8 (0), .int .u8 (0), .int .u8 (0), .int .u8 (0), .int .u8 (0), .int .u8 (0), .int .u8 (0), .int .u8 (0), .int .u8 (0), .int .u8 (0), .int .u8 (0), .int .u8 (0), .int .u8 (0), .int .u8 (0), .int .u8 (0), .int .u8 (0), .int .u8 (0), .int .u8 (0), .int .u8 (0), .int .u8 (0), .int .u8 (0), .int .u8 (0), .int .u8 (0), .int .u8 (0), .int .u8 (0), .int .u8 (0), .int .u8 (0), .int .u8 (0), .int .u8 (0), .nils, .nils, .int .i64 (0), .int .i64 (0), .bool false, .int .i64 (0)]⟩, ⟨⟨Try.t104, _, rfl, rfl, rfl, rfl, rfl⟩, rfl, rfl, Try.underlying104⟩⟩
noncomputable def W3 : TE Try.prog := ⟨105, ⟨Try.t104.desc, 40, 128, .agg [.int .i64 (0), .int .i64 (0), .int .u8 (0), .int .u8 (0), .int .u8 (0), .int .u8 (0), .int .u8 (0), .int .u8 (0), .int .u8 (0), .int .u8 (0), .int .u8 (0), .int .u8 (0), .int .u8 (0), .int .u8 (0), .int .u8 (0), .int .u8 (0), .int .u8 (0), .int .u8 (0), .int .u8 (0), .int .u8 (0), .int .u8 (0), .int .u8 (0), .int .u8 (0), .int .u8 (0), .int .u8 (0), .int .u8 (0), .int .u8 (0), .int .u8 (0), .int .u8 (0), .int .u8 (0), .int .u8 (0), .int .u8 (0), .int .u8 (0), .int .u8 (0), .nils, .nils, .int .i64 (0), .int .i64 (0), .bool false, .int .i64 (0)]⟩, ⟨⟨Try.t105, _, rfl, rfl, rfl, rfl, rfl⟩, rfl, rfl, Try.underlying105⟩⟩
noncomputable def W2 : TE Try.prog := ⟨106, ⟨Try.t106.desc, 1, 8, .nilf⟩, ⟨⟨Try.t106, _, rfl, rfl, rfl, rfl, rfl⟩, rfl, rfl, Try.underlying106⟩⟩
noncomputable def W1 : TE Try.prog := ⟨109, ⟨Try.t109.desc, 1, 8, .nilf⟩, ⟨⟨Try.t109, _, rfl, rfl, rfl, rfl, rfl⟩, rfl, rfl, Try.underlying109⟩⟩
noncomputable def W0 : TE Try.prog := ⟨113, ⟨Try.t113.desc, 1, 8, .nilf⟩, ⟨⟨Try.t113, _, rfl, rfl, rfl, rfl, rfl⟩, rfl, rfl, Try.underlying113⟩⟩
noncomputable def VZ : TE Try.prog := ⟨114, ⟨Try.t114.desc, 1, 8, .nilf⟩, ⟨⟨Try.t114, _, rfl, rfl, rfl, rfl, rfl⟩, rfl, rfl, Try.underlying114⟩⟩
noncomputable def VY : TE Try.prog := ⟨120, ⟨Try.t120.desc, 1, 8, .int .u64 (0)⟩, ⟨⟨Try.t120, _, rfl, rfl, rfl, rfl, rfl⟩, rfl, rfl, Try.underlying120⟩⟩
noncomputable def VX : TE Try.prog := ⟨124, ⟨Try.t124.desc, 1, 8, .nilf⟩, ⟨⟨Try.t124, _, rfl, rfl, rfl, rfl, rfl⟩, rfl, rfl, Try.underlying124⟩⟩
noncomputable def VW : TE Try.prog := ⟨125, ⟨Try.t124.desc, 1, 8, .nilf⟩, ⟨⟨Try.t125, _, rfl, rfl, rfl, rfl, rfl⟩, rfl, rfl, Try.underlying125⟩⟩
noncomputable def nD : TE Try.prog := ⟨128, ⟨Try.t128.desc, 1, 8, .nilp⟩, ⟨⟨Try.t128, _, rfl, rfl, rfl, rfl, rfl⟩, rfl, rfl, Try.underlying128⟩⟩
noncomputable def VV : TE Try.prog := ⟨129, ⟨Try.t129.desc, 1, 8, .nilf⟩, ⟨⟨Try.t129, _, rfl, rfl, rfl, rfl, rfl⟩, rfl, rfl, Try.underlying129⟩⟩
noncomputable def VU : TE Try.prog := ⟨134, ⟨Try.t134.desc, 1, 8, .nilf⟩, ⟨⟨Try.t134, _, rfl, rfl, rfl, rfl, rfl⟩, rfl, rfl, Try.underlying134⟩⟩
noncomputable def VT : TE Try.prog := ⟨135, ⟨Try.t134.desc, 1, 8, .nilf⟩, ⟨⟨Try.t135, _, rfl, rfl, rfl, rfl, rfl⟩, rfl, rfl, Try.underlying135⟩⟩
noncomputable def VS : TE Try.prog := ⟨147, ⟨Try.t147.desc, 1, 24, .nils⟩, ⟨⟨Try.t147, _, rfl, rfl, rfl, rfl, rfl⟩, rfl, rfl, Try.underlying147⟩⟩
noncomputable def VR : TE Try.prog := ⟨150, ⟨Try.t150.desc, 1, 8, .nilf⟩, ⟨⟨Try.t150, _, rfl, rfl, rfl, rfl, rfl⟩, rfl, rfl, Try.underlying150⟩⟩
noncomputable def VQ : TE Try.prog := ⟨151, ⟨Try.t150.desc, 1, 8, .nilf⟩, ⟨⟨Try.t151, _, rfl, rfl, rfl, rfl, rfl⟩, rfl, rfl, Try.underlying151⟩⟩
noncomputable def VP : TE Try.prog := ⟨153, ⟨Try.t153.desc, 1, 8, .nilf⟩, ⟨⟨Try.t153, _, rfl, rfl, rfl, rfl, rfl⟩, rfl, rfl, Try.underlying153⟩⟩
noncomputable def VO : TE Try.prog := ⟨156, ⟨Try.t156.desc, 1, 8, .nilp⟩, ⟨⟨Try.t156, _, rfl, rfl, rfl, rfl, rfl⟩, rfl, rfl, Try.underlying156⟩⟩
noncomputable def VN : TE Try.prog := ⟨160, ⟨Try.t160.desc, 1, 8, .nilf⟩, ⟨⟨Try.t160, _, rfl, rfl, rfl, rfl, rfl⟩, rfl, rfl, Try.underlying160⟩⟩
noncomputable def HG : TE Try.prog := ⟨161, ⟨Try.t161.desc, 1, 8, .nilm⟩, ⟨⟨Try.t161, _, rfl, rfl, rfl, rfl, rfl⟩, rfl, rfl, Try.underlying161⟩⟩
noncomputable def VM : TE Try.prog := ⟨166, ⟨Try.t166.desc, 1, 8, .int .u64 (0)⟩, ⟨⟨Try.t166, _, rfl, rfl, rfl, rfl, rfl⟩, rfl, rfl, Try.underlying166⟩⟩
noncomputable def UM : FE Try.prog := ⟨10, ⟨Try.f10.body.getD .skip, 110, [.tmp 4], some [true, true, false, false, true, true, true, true, true, true, false, true, true, true, true, true, true, false, false, false, false, false, false, false, false, false, false, false, false, true, false, false, false, false, false, false, false, false, false, true, true, true, true, false, false, false, false, false, false, false, false, false, false, false, false, false, false, false, false, false, false, false, false, false, false, false, false, false, false, false, false, false, false, false, true, false, false, true, false, false, false, false, false, false, false, false, false, false, false, false, false, false, false, false, false, false, false, false, false, false, false, false, true, false, false, false, false, false, false, false]⟩, ⟨⟨Try.f10, Try.func10, rfl, rfl, rfl⟩, Try.call10⟩⟩
noncomputable def UL : FE Try.prog := ⟨14, ⟨Try.f14.body.getD .skip, 38, [.tmp 0], some [true, true, true, true, false, false, false, false, false, false, false, false, false, false, false, false, false, false, false, false, false, false, false, false, false, false, false, false, false, false, false, false, false, false, false, false, true, false]⟩, ⟨⟨Try.f14, Try.func14, rfl, rfl, rfl⟩, Try.call14⟩⟩
noncomputable def UK : FE Try.prog := ⟨16, ⟨Try.f16.body.getD .skip, 5, [.cell 2 28], some [true, false, true, false, false]⟩, ⟨⟨Try.f16, Try.func16, rfl, rfl, rfl⟩, Try.call16⟩⟩
noncomputable def UJ : FE Try.prog := ⟨19, ⟨Try.f19.body.getD .skip, 100, [.tmp 4], some [true, true, false, true, true, true, true, true, true, true, true, true, false, false, true, false, false, false, false, false, false, false, false, false, false, false, false, false, false, false, false, false, false, false, false, false, false, false, false, false, false, false, false, false, false, false, false, false, false, false, false, false, false, false, false, false, false, false, false, false, false, false, false, false, false, false, true, false, false, false, false, false, false, false, false, false, false, false, false, false, false, false, false, false, false, false, false, false, false, false, false, false, false, false, false, false, false, false, false, false]⟩, ⟨⟨Try.f19, Try.func19, rfl, rfl, rfl⟩, Try.call19⟩⟩
noncomputable def UH : FE Try.prog := ⟨22, ⟨Try.f22.body.getD .skip, 75, [.tmp 4], some [true, true, false, false, true, true, false, true, true, false, false, true, false, false, false, false, false, false, false, false, false, false, false, false, false, false, true, true, true, true, false, false, true, false, false, false, false, false, false, false, false, false, false, true, false, false, false, false, false, false, false, false, false, false, false, false, false, false, false, false, false, false, false, false, false, false, false, false, false, false, false, false, false, false, false]⟩, ⟨⟨Try.f22, Try.func22, rfl, rfl, rfl⟩, Try.call22⟩⟩
noncomputable def UG : FE Try.prog := ⟨24, ⟨Try.f24.body.getD .skip, 10, [.tmp 2], some [true, false, true, false, true, false, false, false, false, false]⟩, ⟨⟨Try.f24, Try.func24, rfl, rfl, rfl⟩, Try.call24⟩⟩
noncomputable def UF : FE Try.prog := ⟨25, ⟨Try.f25.body.getD .skip, 22, [.cell 4 61, .tmp 5], some [true, true, false, true, true, true, true, true, true, false, true, false, false, true, true, false, false, false, true, false, false, false]⟩, ⟨⟨Try.f25, Try.func25, rfl, rfl, rfl⟩, Try.call25⟩⟩
noncomputable def UE : FE Try.prog := ⟨26, ⟨Try.f26.body.getD .skip, 4, [.tmp 0], some [true, false, false, false]⟩, ⟨⟨Try.f26, Try.func26, rfl, rfl, rfl⟩, Try.call26⟩⟩
noncomputable def UD : FE Try.prog := ⟨27, ⟨Try.f27.body.getD .skip, 52, [.tmp 0], some [true, true, true, true, true, true, true, true, false, false, false, false, false, false, false, false, false, false, false, false, false, false, false, false, false, false, false, false, false, false, false, false, false, false, false, false, false, false, false, false, false, false, false, false, false, false, false, false, false, false, false, false]⟩, ⟨⟨Try.f27, Try.func27, rfl, rfl, rfl⟩, Try.call27⟩⟩
noncomputable def UC : FE Try.prog := ⟨28, ⟨Try.f28.body.getD .skip, 17, [.tmp 2], some [true, false, true, false, true, false, false, false, false, false, false, false, false, false, false, false, false]⟩, ⟨⟨Try.f28, Try.func28, rfl, rfl, rfl⟩, Try.call28⟩⟩
noncomputable def UB : FE Try.prog := ⟨32, ⟨Try.f32.body.getD .skip, 11, [.tmp 2], some [true, false, true, false, true, false, false, false, false, false, false]⟩, ⟨⟨Try.f32, Try.func32, rfl, rfl, rfl⟩, Try.call32⟩⟩
noncomputable def UA : FE Try.prog := ⟨33, ⟨Try.f33.body.getD .skip, 49, [.tmp 4], some [true, true, false, true, true, true, true, false, false, true, false, false, false, false, false, false, false, false, false, false, false, false, false, false, false, false, false, false, false, false, false, false, false, false, false, false, false, false, false, false, false, false, false, false, false, false, false, false, false]⟩, ⟨⟨Try.f33, Try.func33, rfl, rfl, rfl⟩, Try.call33⟩⟩
noncomputable def U9 : FE Try.prog := ⟨34, ⟨Try.f34.body.getD .skip, 26, [.tmp 6], some [true, true, true, false, true, false, true, true, false, true, false, false, false, false, false, true, false, false, false, false, false, false, false, false, false, false]⟩, ⟨⟨Try.f34, Try.func34, rfl, rfl, rfl⟩, Try.call34⟩⟩
noncomputable def NP : FE Try.prog := ⟨35, ⟨Try.f35.body.getD .skip, 29, [.tmp 4], some [true, true, false, false, true, true, true, false, false, false, false, true, false, false, false, true, false, false, false, false, false, false, false, false, false, false, false, false, true]⟩, ⟨⟨Try.f35, Try.func35, rfl, rfl, rfl⟩, Try.call35⟩⟩
noncomputable def U8 : FE Try.prog := ⟨36, ⟨Try.f36.body.getD .skip, 48, [.tmp 10], some [true, true, true, true, true, false, true, false, false, true, true, true, true, false, true, false, false, false, false, false, false, false, false, false, false, false, false, false, false, false, false, false, false, false, false, false, true, false, false, false, false, false, false, false, false, false, false, false]⟩, ⟨⟨Try.f36, Try.func36, rfl, rfl, rfl⟩, Try.call36⟩⟩
noncomputable def U7 : FE Try.prog := ⟨37, ⟨Try.f37.body.getD .skip, 28, [.cell 6 31, .tmp 7], some [true, true, true, false, true, true, true, true, true, true, false, false, true, true, false, false, false, false, false, true, false, false, true, false, false, false, false, false]⟩, ⟨⟨Try.f37, Try.func37, rfl, rfl, rfl⟩, Try.call37⟩⟩
noncomputable def U6 : FE Try.prog := ⟨38, ⟨Try.f38.body.getD .skip, 34, [.tmp 6], some [true, true, true, false, true, false, true, true, true, false, true, false, false, false, false, false, false, false, false, false, false, false, false, true, false, false, false, false, false, false, false, false, false, false]⟩, ⟨⟨Try.f38, Try.func38, rfl, rfl, rfl⟩, Try.call38⟩⟩
noncomputable def U5 : FE Try.prog := ⟨40, ⟨Try.f40.body.getD .skip, 13, [.tmp 0], some [true, true, false, false, false, false, false, false, false, false, false, false, false]⟩, ⟨⟨Try.f40, Try.func40, rfl, rfl, rfl⟩, Try.call40⟩⟩
noncomputable def U4 : FE Try.prog := ⟨41, ⟨Try.f41.body.getD .skip, 28, [.tmp 2], some [true, false, true, true, false, true, false, false, false, false, false, false, false, false, false, false, false, false, false, false, false, false, false, false, false, false, false, false]⟩, ⟨⟨Try.f41, Try.func41, rfl, rfl, rfl⟩, Try.call41⟩⟩
noncomputable def U3 : FE Try.prog := ⟨42, ⟨Try.f42.body.getD .skip, 57, [.tmp 4], some [true, true, true, true, true, true, false, false, false, false, false, false, false, false, false, false, false, false, false, false, false, false, false, false, false, false, false, false, false, false, false, false, false, false, false, false, false, false, false, false, false, false, false, false, false, false, false, false, false, false, false, false, false, false, false, false, false]⟩, ⟨⟨Try.f42, Try.func42, rfl, rfl, rfl⟩, Try.call42⟩⟩
noncomputable def U2 : FE Try.prog := ⟨43, ⟨Try.f43.body.getD .skip, 40, [.tmp 6], some [true, true, true, false, true, true, true, true, true, false, true, false, false, false, false, false, false, false, true, true, false, false, false, false, false, false, true, false, false, false, false, true, false, false, false, false, false, false, false, false]⟩, ⟨⟨Try.f43, Try.func43, rfl, rfl, rfl⟩, Try.call43⟩⟩
noncomputable def U1 : FE Try.prog := ⟨57, ⟨Try.f57.body.getD .skip, 55, [.tmp 2], some [true, false, true, true, true, false, false, true, false, true, true, true, false, false, false, false, false, false, false, false, false, false, false, false, false, false, false, false, false, false, true, false, false, false, false, false, false, true, true, true, false, false, false, false, false, false, false, false, false, false, false, false, true, false, false]⟩, ⟨⟨Try.f57, Try.func57, rfl, rfl, rfl⟩, Try.call57⟩⟩
noncomputable def U0 : FE Try.prog := ⟨58, ⟨Try.f58.body.getD .skip, 31, [.tmp 2], some [true, false, true, true, false, true, false, true, true, true, true, false, false, false, true, true, false, false, false, false, false, false, false, true, false, false, false, false, false, false, false]⟩, ⟨⟨Try.f58, Try.func58, rfl, rfl, rfl⟩, Try.call58⟩⟩
noncomputable def TZ : FE Try.prog := ⟨59, ⟨Try.f59.body.getD .skip, 30, [.cell 4 46], some [true, true, true, false, true, true, true, false, false, false, false, true, false, false, false, false, false, true, true, true, false, false, false, false, false, false, false, false, false, false]⟩, ⟨⟨Try.f59, Try.func59, rfl, rfl, rfl⟩, Try.call59⟩⟩
noncomputable def TY : FE Try.prog := ⟨60, ⟨Try.f60.body.getD .skip, 40, [.tmp 6, .tmp 7], some [true, true, true, false, false, false, true, true, false, true, true, false, true, false, false, false, false, false, false, false, true, false, false, false, false, false, false, false, true, true, true, true, false, false, false, false, false, false, false, false]⟩, ⟨⟨Try.f60, Try.func60, rfl, rfl, rfl⟩, Try.call60⟩⟩
noncomputable def JU : FE Try.prog := ⟨63, ⟨Try.f63.body.getD .skip, 18, [.tmp 2], some [true, false, true, true, false, true, true, true, true, true, false, false, false, false, true, false, false, false]⟩, ⟨⟨Try.f63, Try.func63, rfl, rfl, rfl⟩, Try.call63⟩⟩
noncomputable def D4 : FE Try.prog := ⟨66, ⟨Try.f66.body.getD .skip, 12, [.tmp 2], some [true, false, true, false, false, false, false, false, false, false, false, false]⟩, ⟨⟨Try.f66, Try.func66, rfl, rfl, rfl⟩, Try.call66⟩⟩
noncomputable def TX : FE Try.prog := ⟨67, ⟨Try.f67.body.getD .skip, 43, [.tmp 2], some [true, true, true, true, false, true, false, false, false, false, false, false, false, false, false, false, false, false, false, false, false, false, false, false, false, false, false, false, false, false, false, false, true, false, true, false, false, false, false, false, true, false, true]⟩, ⟨⟨Try.f67, Try.func67, rfl, rfl, rfl⟩, Try.call67⟩⟩
noncomputable def TW : FE Try.prog := ⟨68, ⟨Try.f68.body.getD .skip, 22, [.cell 2 61], some [true, false, true, false, false, false, false, false, true, false, false, false, false, false, false, false, false, false, false, false, false, false]⟩, ⟨⟨Try.f68, Try.func68, rfl, rfl, rfl⟩, Try.call68⟩⟩
noncomputable def TV : FE Try.prog := ⟨69, ⟨Try.f69.body.getD .skip, 88, [.tmp 8, .tmp 9], some [true, true, true, true, false, false, true, false, true, true, false, true, false, true, false, true, true, true, false, true, true, true, true, false, false, false, false, false, false, false, false, false, false, false, false, false, false, false, false, false, false, false, false, true, false, false, false, false, false, false, false, true, true, true, true, false, false, false, false, false, false, false, false, false, false, false, false, false, false, false, false, false, false, false, false, false, false, false, false, false, true, false, false, false, false, false, false, false]⟩, ⟨⟨Try.f69, Try.func69, rfl, rfl, rfl⟩, Try.call69⟩⟩
noncomputable def TU : FE Try.prog := ⟨70, ⟨Try.f70.body.getD .skip, 9, [.tmp 2], some [true, false, true, false, false, false, false, false, false]⟩, ⟨⟨Try.f70, Try.func70, rfl, rfl, rfl⟩, Try.call70⟩⟩
noncomputable def TS : FE Try.prog := ⟨71, ⟨Try.f71.body.getD .skip, 8, [.tmp 2], some [true, false, true, false, true, false, false, false]⟩, ⟨⟨Try.f71, Try.func71, rfl, rfl, rfl⟩, Try.call71⟩⟩
noncomputable def TR : FE Try.prog := ⟨72, ⟨Try.f72.body.getD .skip, 4, [.tmp 2], some [true, true, true, false]⟩, ⟨⟨Try.f72, Try.func72, rfl, rfl, rfl⟩, Try.call72⟩⟩
noncomputable def TQ : FE Try.prog := ⟨73, ⟨Try.f73.body.getD .skip, 12, [.tmp 2], some [true, false, true, false, false, false, false, false, false, false, false, false]⟩, ⟨⟨Try.f73, Try.func73, rfl, rfl, rfl⟩, Try.call73⟩⟩
noncomputable def TP : FE Try.prog := ⟨74, ⟨Try.f74.body.getD .skip, 26, [.tmp 4], some [true, true, false, false, true, true, false, true, true, true, true, true, false, false, false, false, true, false, false, false, false, false, false, false, false, false]⟩, ⟨⟨Try.f74, Try.func74, rfl, rfl, rfl⟩, Try.call74⟩⟩
noncomputable def TO : FE Try.prog := ⟨75, ⟨Try.f75.body.getD .skip, 3, [.tmp 2], some [false, false, true]⟩, ⟨⟨Try.f75, Try.func75, rfl, rfl, rfl⟩, Try.call75⟩⟩
noncomputable def TN : FE Try.prog := ⟨76, ⟨Try.f76.body.getD .skip, 30, [.tmp 6], some [true, true, true, false, true, false, true, true, true, false, false, false, false, false, false, false, false, false, false, false, false, true, false, false, false, false, false, false, false, false]⟩, ⟨⟨Try.f76, Try.func76, rfl, rfl, rfl⟩, Try.call76⟩⟩
noncomputable def TL : FE Try.prog := ⟨77, ⟨Try.f77.body.getD .skip, 8, [.cell 2 31], some [true, true, true, false, false, false, false, false]⟩, ⟨⟨Try.f77, Try.func77, rfl, rfl, rfl⟩, Try.call77⟩⟩
noncomputable def TK : FE Try.prog := ⟨78, ⟨Try.f78.body.getD .skip, 23, [], some [true, true, false, false, true, false, false, false, false, false, false, false, false, false, false, false, false, false, false, false, false, false, false]⟩, ⟨⟨Try.f78, Try.func78, rfl, rfl, rfl⟩, Try.call78⟩⟩
noncomputable def TJ : FE Try.prog := ⟨79, ⟨Try.f79.body.getD .skip, 23, [], some [true, true, false, false, true, false, false, false, false, false, false, false, false, false, false, false, false, false, false, false, false, false, false]⟩, ⟨⟨Try.f79, Try.func79, rfl, rfl, rfl⟩, Try.call79⟩⟩
noncomputable def TG : FE Try.prog := ⟨80, ⟨Try.f80.body.getD .skip, 24, [], some [true, true, true, false, false, true, false, false, false, false, false, false, false, false, false, false, false, false, false, false, false, false, false, false]⟩, ⟨⟨Try.f80, Try.func80, rfl, rfl, rfl⟩, Try.call80⟩⟩
noncomputable def TF : FE Try.prog := ⟨81, ⟨Try.f81.body.getD .skip, 6, [.tmp 4], some [true, true, true, true, true, false]⟩, ⟨⟨Try.f81, Try.func81, rfl, rfl, rfl⟩, Try.call81⟩⟩
noncomputable def TD : FE Try.prog := ⟨82, ⟨Try.f82.body.getD .skip, 20, [.tmp 4], some [true, true, true, false, true, false, false, false, false, false, false, false, false, false, false, false, false, false, false, false]⟩, ⟨⟨Try.f82, Try.func82, rfl, rfl, rfl⟩, Try.call82⟩⟩
noncomputable def TC : FE Try.prog := ⟨84, ⟨Try.f84.body.getD .skip, 12, [.tmp 4], some [true, true, false, false, true, false, false, false, false, false, false, false]⟩, ⟨⟨Try.f84, Try.func84, rfl, rfl, rfl⟩, Try.call84⟩⟩
noncomputable def TB : FE Try.prog := ⟨85, ⟨Try.f85.body.getD .skip, 19, [.tmp 4], some [true, true, false, false, true, false, false, false, false, false, false, false, false, false, false, false, false, false, false]⟩, ⟨⟨Try.f85, Try.func85, rfl, rfl, rfl⟩, Try.call85⟩⟩
noncomputable def TA : FE Try.prog := ⟨86, ⟨Try.f86.body.getD .skip, 8, [.tmp 2], some [true, false, true, false, true, false, false, false]⟩, ⟨⟨Try.f86, Try.func86, rfl, rfl, rfl⟩, Try.call86⟩⟩
noncomputable def T9 : FE Try.prog := ⟨87, ⟨Try.f87.body.getD .skip, 38, [.tmp 4], some [true, true, true, true, true, true, false, true, false, false, false, false, false, false, false, false, false, false, true, false, false, false, false, false, false, false, false, true, false, false, false, false, true, false, false, false, false, true]⟩, ⟨⟨Try.f87, Try.func87, rfl, rfl, rfl⟩, Try.call87⟩⟩
noncomputable def T8 : FE Try.prog := ⟨88, ⟨Try.f88.body.getD .skip, 6, [.tmp 4], some [true, true, true, true, true, false]⟩, ⟨⟨Try.f88, Try.func88, rfl, rfl, rfl⟩, Try.call88⟩⟩
noncomputable def T7 : FE Try.prog := ⟨89, ⟨Try.f89.body.getD .skip, 10, [.tmp 4], some [true, true, false, false, true, false, false, false, false, false]⟩, ⟨⟨Try.f89, Try.func89, rfl, rfl, rfl⟩, Try.call89⟩⟩
noncomputable def T6 : FE Try.prog := ⟨90, ⟨Try.f90.body.getD .skip, 8, [.tmp 2], some [true, false, true, false, true, false, false, false]⟩, ⟨⟨Try.f90, Try.func90, rfl, rfl, rfl⟩, Try.call90⟩⟩
noncomputable def T5 : FE Try.prog := ⟨96, ⟨Try.f96.body.getD .skip, 38, [.cell 2 46], some [true, true, true, true, true, true, false, false, false, false, false, false, false, true, false, false, false, false, false, false, false, false, false, false, false, false, false, false, false, false, false, false, false, false, false, false, false, false]⟩, ⟨⟨Try.f96, Try.func96, rfl, rfl, rfl⟩, Try.call96⟩⟩
noncomputable def NO : FE Try.prog := ⟨99, ⟨Try.f99.body.getD .skip, 9, [.tmp 2], some [true, false, true, false, false, false, false, false, false]⟩, ⟨⟨Try.f99, Try.func99, rfl, rfl, rfl⟩, Try.call99⟩⟩
noncomputable def EJ : FE Try.prog := ⟨100, ⟨Try.f100.body.getD .skip, 9, [.tmp 2], some [true, false, true, false, false, false, false, false, false]⟩, ⟨⟨Try.f100, Try.func100, rfl, rfl, rfl⟩, Try.call100⟩⟩
noncomputable def K9 : FE Try.prog := ⟨101, ⟨Try.f101.body.getD .skip, 4, [.tmp 2], some [true, true, true, false]⟩, ⟨⟨Try.f101, Try.func101, rfl, rfl, rfl⟩, Try.call101⟩⟩
noncomputable def K8 : FE Try.prog := ⟨102, ⟨Try.f102.body.getD .skip, 23, [], some [true, true, false, true, false, false, false, false, true, true, true, false, false, false, false, false, false, false, false, false, false, true, false]⟩, ⟨⟨Try.f102, Try.func102, rfl, rfl, rfl⟩, Try.call102⟩⟩
noncomputable def K7 : FE Try.prog := ⟨103, ⟨Try.f103.body.getD .skip, 18, [.tmp 4, .tmp 5], some [true, true, false, false, true, true, false, false, false, false, false, false, false, false, false, false, false, false]⟩, ⟨⟨Try.f103, Try.func103, rfl, rfl, rfl⟩, Try.call103⟩⟩
noncomputable def K6 : FE Try.prog := ⟨105, ⟨Try.f105.body.getD .skip, 33, [.tmp 6], some [true, true, true, false, false, false, true, true, false, false, false, false, false, false, false, false, true, false, false, false, false, false, false, false, false, false, false, false, false, false, false, false, false]⟩, ⟨⟨Try.f105, Try.func105, rfl, rfl, rfl⟩, Try.call105⟩⟩
noncomputable def K4 : FE Try.prog := ⟨106, ⟨Try.f106.body.getD .skip, 27, [], some [true, true, true, true, true, false, true, false, false, false, false, false, false, true, true, false, false, false, false, false, false, false, false, false, false, false, true]⟩, ⟨⟨Try.f106, Try.func106, rfl, rfl, rfl⟩, Try.call106⟩⟩
noncomputable def K3 : FE Try.prog := ⟨107, ⟨Try.f107.body.getD .skip, 17, [.tmp 4], some [true, true, true, true, true, false, false, false, false, false, false, false, false, false, false, false, false]⟩, ⟨⟨Try.f107, Try.func107, rfl, rfl, rfl⟩, Try.call107⟩⟩
noncomputable def K1 : FE Try.prog := ⟨109, ⟨Try.f109.body.getD .skip, 30, [], some [true, true, true, false, true, false, false, true, false, false, false, false, false, false, false, false, false, false, false, true, true, true, true, false, false, false, false, false, true, false]⟩, ⟨⟨Try.f109, Try.func109, rfl, rfl, rfl⟩, Try.call109⟩⟩
noncomputable def K0 : FE Try.prog := ⟨111, ⟨Try.f111.body.getD .skip, 7, [.tmp 2], some [true, false, true, true, false, false, false]⟩, ⟨⟨Try.f111, Try.func111, rfl, rfl, rfl⟩, Try.call111⟩⟩
noncomputable def JZ : FE Try.prog := ⟨113, ⟨Try.f113.body.getD .skip, 91, [], some [true, true, false, true, false, true, true, false, true, false, false, true, true, true, true, false, false, false, false, false, false, false, false, false, false, false, false, false, false, false, false, false, false, false, false, false, false, false, false, false, false, false, false, false, false, false, false, false, false, false, false, false, false, false, false, false, false, false, false, false, false, false, false, true, false, false, false, true, true, true, true, false, false, false, false, false, false, false, false, false, false, false, false, false, false, false, false, false, false, true, false]⟩, ⟨⟨Try.f113, Try.func113, rfl, rfl, rfl⟩, Try.call113⟩⟩
noncomputable def JY : FE Try.prog := ⟨114, ⟨Try.f114.body.getD .skip, 49, [.tmp 6, .tmp 7], some [true, true, true, false, false, false, true, true, true, true, true, true, false, false, false, false, false, true, false, false, false, false, false, false, false, false, false, false, false, false, false, true, false, false, false, false, false, false, false, false, false, false, false, false, false, false, false, false, false]⟩, ⟨⟨Try.f114, Try.func114, rfl, rfl, rfl⟩, Try.call114⟩⟩
noncomputable def P0 : FE Try.prog := ⟨116, ⟨Try.f116.body.getD .skip, 10, [], some [true, true, false, false, false, false, false, false, false, false]⟩, ⟨⟨Try.f116, Try.func116, rfl, rfl, rfl⟩, Try.call116⟩⟩
noncomputable def JX : FE Try.prog := ⟨117, ⟨Try.f117.body.getD .skip, 17, [.tmp 4], some [true, true, true, true, true, false, false, false, false, false, false, false, false, false, false, false, false]⟩, ⟨⟨Try.f117, Try.func117, rfl, rfl, rfl⟩, Try.call117⟩⟩
noncomputable def EI : FE Try.prog := ⟨118, ⟨Try.f118.body.getD .skip, 20, [.tmp 4], some [true, true, false, false, true, true, true, false, false, false, false, true, true, true, false, false, true, false, false, true]⟩, ⟨⟨Try.f118, Try.func118, rfl, rfl, rfl⟩, Try.call118⟩⟩
noncomputable def OZ : FE Try.prog := ⟨120, ⟨Try.f120.body.getD .skip, 14, [], some [true, true, false, false, false, false, false, false, false, false, false, false, false, false]⟩, ⟨⟨Try.f120, Try.func120, rfl, rfl, rfl⟩, Try.call120⟩⟩
noncomputable def EH : FE Try.prog := ⟨121, ⟨Try.f121.body.getD .skip, 20, [.tmp 4], some [true, true, false, false, true, true, true, false, false, false, false, true, true, true, false, false, true, false, false, true]⟩, ⟨⟨Try.f121, Try.func121, rfl, rfl, rfl⟩, Try.call121⟩⟩
noncomputable def JW : FE Try.prog := ⟨122, ⟨Try.f122.body.getD .skip, 6, [.tmp 2], some [true, false, true, false, false, false]⟩, ⟨⟨Try.f122, Try.func122, rfl, rfl, rfl⟩, Try.call122⟩⟩
noncomputable def OY : FE Try.prog := ⟨123, ⟨Try.f123.body.getD .skip, 28, [], some [true, false, true, true, false, false, false, false, false, true, false, false, false, false, false, false, false, false, false, false, false, false, false, false, false, false, false, false]⟩, ⟨⟨Try.f123, Try.func123, rfl, rfl, rfl⟩, Try.call123⟩⟩
noncomputable def JV : FE Try.prog := ⟨124, ⟨Try.f124.body.getD .skip, 6, [.tmp 2], some [true, false, true, false, false, false]⟩, ⟨⟨Try.f124, Try.func124, rfl, rfl, rfl⟩, Try.call124⟩⟩
noncomputable def ho20 : sW Try.prog := ⟨20, Ins.yL, Ins.WO⟩
noncomputable def XC : sW Try.prog := ⟨104, (sM 128 nD.i), MD Ins.M4 rfl⟩
noncomputable def XB : sW Try.prog := ⟨108, cZ, Ins.QK⟩
noncomputable def JM : sW Try.prog := ⟨112, cZ, lP Try.func112 (by kernel_rfl) (by kernel_rfl) (by kernel_rfl) (by kernel_rfl)⟩
noncomputable def JL : sW Try.prog := ⟨115, (gD 128), qN (tS := 95) (tR := 4) (e := 128) (size := 1) Try.func115 (by kernel_rfl) (by kernel_rfl) (by kernel_rfl) (by kernel_rfl) Try.underlying95 (fun w => nD.ok.dJ) (fun h => TypeDesc.noConfusion (Option.some.inj (Try.underlying128.symm.trans h)))⟩
noncomputable def JK : sW Try.prog := ⟨119, cZ, lP Try.func119 (by kernel_rfl) (by kernel_rfl) (by kernel_rfl) (by kernel_rfl)⟩
noncomputable def eqs : List (QE Try.prog) := [⟨25, by kernel_rfl, by kernel_rfl⟩, ⟨28, by kernel_rfl, by kernel_rfl⟩, ⟨61, by kernel_rfl, by kernel_rfl⟩]
noncomputable def env : Env := { P := Try.prog, mixed := by kernel_rfl, types := (.node 77 (.node 35 (.node 25 (.node 9 (.node 4 (.node 3 (.leaf ty2) (.leaf ty3)) (.node 5 (.leaf ty4) (.leaf ty5))) (.node 22 (.node 10 (.leaf ty9) (.leaf ty10)) (.node 24 (.leaf Q3) (.leaf PZ)))) (.node 29 (.node 27 (.node 26 (.leaf PY) (.leaf PX)) (.node 28 (.leaf PW) (.leaf F9))) (.node 31 (.node 30 (.leaf PV) (.leaf PU)) (.node 32 (.leaf fD) (.leaf ty32))))) (.node 56 (.node 45 (.node 43 (.node 37 (.leaf ty35) (.leaf ty37)) (.node 44 (.leaf PT) (.leaf PS))) (.node 47 (.node 46 (.leaf PR) (.leaf PQ)) (.node 48 (.leaf PO) (.leaf yP)))) (.node 60 (.node 58 (.node 57 (.leaf PN) (.leaf M8)) (.node 59 (.leaf PM) (.leaf PL))) (.node 67 (.node 61 (.leaf PK) (.leaf sF)) (.node 69 (.leaf ty67) (.node 74 (.leaf ty69) (.leaf ty74))))))) (.node 113 (.node 99 (.node 95 (.node 86 (.node 81 (.leaf ty77) (.leaf ty81)) (.node 87 (.leaf ty86) (.leaf ty87))) (.node 97 (.node 96 (.leaf PJ) (.leaf PI)) (.node 98 (.leaf PH) (.leaf PG)))) (.node 104 (.node 101 (.node 100 (.leaf PF) (.leaf HI)) (.node 102 (.leaf W5) (.leaf W4))) (.node 106 (.node 105 (.leaf HH) (.leaf W3)) (.node 109 (.leaf W2) (.leaf W1))))) (.node 135 (.node 125 (.node 120 (.node 114 (.leaf W0) (.leaf VZ)) (.node 124 (.leaf VY) (.leaf VX))) (.node 129 (.node 128 (.leaf VW) (.leaf nD)) (.node 134 (.leaf VV) (.leaf VU)))) (.node 153 (.node 150 (.node 147 (.leaf VT) (.leaf VS)) (.node 151 (.leaf VR) (.leaf VQ))) (.node 160 (.node 156 (.leaf VP) (.leaf VO)) (.node 161 (.leaf VN) (.node 166 (.leaf HG) (.leaf VM)))))))), funcs := (.node 75 (.node 40 (.node 27 (.node 22 (.node 16 (.node 14 (.leaf UM) (.leaf UL)) (.node 19 (.leaf UK) (.leaf UJ))) (.node 25 (.node 24 (.leaf UH) (.leaf UG)) (.node 26 (.leaf UF) (.leaf UE)))) (.node 34 (.node 32 (.node 28 (.leaf UD) (.leaf UC)) (.node 33 (.leaf UB) (.leaf UA))) (.node 36 (.node 35 (.leaf U9) (.leaf NP)) (.node 37 (.leaf U8) (.node 38 (.leaf U7) (.leaf U6)))))) (.node 66 (.node 57 (.node 42 (.node 41 (.leaf U5) (.leaf U4)) (.node 43 (.leaf U3) (.leaf U2))) (.node 59 (.node 58 (.leaf U1) (.leaf U0)) (.node 60 (.leaf TZ) (.node 63 (.leaf TY) (.leaf JU))))) (.node 70 (.node 68 (.node 67 (.leaf D4) (.leaf TX)) (.node 69 (.leaf TW) (.leaf TV))) (.node 72 (.node 71 (.leaf TU) (.leaf TS)) (.node 73 (.leaf TR) (.node 74 (.leaf TQ) (.leaf TP))))))) (.node 101 (.node 85 (.node 79 (.node 77 (.node 76 (.leaf TO) (.leaf TN)) (.node 78 (.leaf TL) (.leaf TK))) (.node 81 (.node 80 (.leaf TJ) (.leaf TG)) (.node 82 (.leaf TF) (.node 84 (.leaf TD) (.leaf TC))))) (.node 89 (.node 87 (.node 86 (.leaf TB) (.leaf TA)) (.node 88 (.leaf T9) (.leaf T8))) (.node 96 (.node 90 (.leaf T7) (.leaf T6)) (.node 99 (.leaf T5) (.node 100 (.leaf NO) (.leaf EJ)))))) (.node 114 (.node 106 (.node 103 (.node 102 (.leaf K9) (.leaf K8)) (.node 105 (.leaf K7) (.leaf K6))) (.node 109 (.node 107 (.leaf K4) (.leaf K3)) (.node 111 (.leaf K1) (.node 113 (.leaf K0) (.leaf JZ))))) (.node 120 (.node 117 (.node 116 (.leaf JY) (.leaf P0)) (.node 118 (.leaf JX) (.leaf EI))) (.node 122 (.node 121 (.leaf OZ) (.leaf EH)) (.node 123 (.leaf JW) (.node 124 (.leaf OY) (.leaf JV)))))))), hooks := [ho20, XC, XB, JM, JL, JK], eqs := eqs, rhooks := [Ins.yV, Ins.qR] }
theorem SG : ∀ k, bQ env.bhooks 10 k = true := fun _ => rfl
theorem SF : ∀ k, bQ env.bhooks 14 k = true := fun _ => rfl
theorem SE : ∀ k, bQ env.bhooks 16 k = true := fun _ => rfl
theorem SD : ∀ k, bQ env.bhooks 19 k = true := fun _ => rfl
theorem SB : ∀ k, bQ env.bhooks 22 k = true := fun _ => rfl
theorem SA : ∀ k, bQ env.bhooks 24 k = true := fun _ => rfl
theorem S9 : ∀ k, bQ env.bhooks 25 k = true := fun _ => rfl
theorem S8 : ∀ k, bQ env.bhooks 26 k = true := fun _ => rfl
theorem S7 : ∀ k, bQ env.bhooks 27 k = true := fun _ => rfl
theorem S6 : ∀ k, bQ env.bhooks 28 k = true := fun _ => rfl
theorem S5 : ∀ k, bQ env.bhooks 32 k = true := fun _ => rfl
theorem S4 : ∀ k, bQ env.bhooks 33 k = true := fun _ => rfl
theorem S3 : ∀ k, bQ env.bhooks 34 k = true := fun _ => rfl
theorem S2 : ∀ k, bQ env.bhooks 35 k = true := fun _ => rfl
theorem S0 : ∀ k, bQ env.bhooks 36 k = true := fun _ => rfl
theorem RZ : ∀ k, bQ env.bhooks 37 k = true := fun _ => rfl
theorem RY : ∀ k, bQ env.bhooks 38 k = true := fun _ => rfl
theorem RW : ∀ k, bQ env.bhooks 40 k = true := fun _ => rfl
theorem RU : ∀ k, bQ env.bhooks 41 k = true := fun _ => rfl
theorem RT : ∀ k, bQ env.bhooks 42 k = true := fun _ => rfl
theorem RS : ∀ k, bQ env.bhooks 43 k = true := fun _ => rfl
theorem RR : ∀ k, bQ env.bhooks 57 k = true := fun _ => rfl
theorem RQ : ∀ k, bQ env.bhooks 58 k = true := fun _ => rfl
theorem RM : ∀ k, bQ env.bhooks 59 k = true := fun _ => rfl
theorem RK : ∀ k, bQ env.bhooks 60 k = true := fun _ => rfl
theorem RJ : ∀ k, bQ env.bhooks 63 k = true := fun _ => rfl
theorem CI : ∀ k, bQ env.bhooks 66 k = true := fun _ => rfl
theorem RI : ∀ k, bQ env.bhooks 67 k = true := fun _ => rfl
theorem RH : ∀ k, bQ env.bhooks 68 k = true := fun _ => rfl
theorem RG : ∀ k, bQ env.bhooks 69 k = true := fun _ => rfl
theorem RE : ∀ k, bQ env.bhooks 70 k = true := fun _ => rfl
theorem RD : ∀ k, bQ env.bhooks 71 k = true := fun _ => rfl
theorem RC : ∀ k, bQ env.bhooks 72 k = true := fun _ => rfl
theorem RA : ∀ k, bQ env.bhooks 73 k = true := fun _ => rfl
theorem R9 : ∀ k, bQ env.bhooks 74 k = true := fun _ => rfl
theorem R8 : ∀ k, bQ env.bhooks 75 k = true := fun _ => rfl
theorem R7 : ∀ k, bQ env.bhooks 76 k = true := fun _ => rfl
theorem R6 : ∀ k, bQ env.bhooks 77 k = true := fun _ => rfl
theorem R5 : ∀ k, bQ env.bhooks 78 k = true := fun _ => rfl
theorem R4 : ∀ k, bQ env.bhooks 79 k = true := fun _ => rfl
theorem R3 : ∀ k, bQ env.bhooks 80 k = true := fun _ => rfl
theorem R2 : ∀ k, bQ env.bhooks 81 k = true := fun _ => rfl
theorem R1 : ∀ k, bQ env.bhooks 82 k = true := fun _ => rfl
theorem R0 : ∀ k, bQ env.bhooks 84 k = true := fun _ => rfl
theorem QZ : ∀ k, bQ env.bhooks 85 k = true := fun _ => rfl
theorem QY : ∀ k, bQ env.bhooks 86 k = true := fun _ => rfl
theorem QX : ∀ k, bQ env.bhooks 87 k = true := fun _ => rfl
theorem QW : ∀ k, bQ env.bhooks 88 k = true := fun _ => rfl
theorem QV : ∀ k, bQ env.bhooks 89 k = true := fun _ => rfl
theorem QU : ∀ k, bQ env.bhooks 90 k = true := fun _ => rfl
theorem QT : ∀ k, bQ env.bhooks 96 k = true := fun _ => rfl
theorem QS : ∀ k, bQ env.bhooks 99 k = true := fun _ => rfl
theorem N9 : ∀ k, bQ env.bhooks 100 k = true := fun _ => rfl
theorem N8 : ∀ k, bQ env.bhooks 101 k = true := fun _ => rfl
theorem N7 : ∀ k, bQ env.bhooks 102 k = true := fun _ => rfl
theorem N6 : ∀ k, bQ env.bhooks 103 k = true := fun _ => rfl
theorem N4 : ∀ k, bQ env.bhooks 105 k = true := fun _ => rfl
theorem N3 : ∀ k, bQ env.bhooks 106 k = true := fun _ => rfl
theorem N2 : ∀ k, bQ env.bhooks 107 k = true := fun _ => rfl
theorem N0 : ∀ k, bQ env.bhooks 109 k = true := fun _ => rfl
theorem MZ : ∀ k, bQ env.bhooks 111 k = true := fun _ => rfl
theorem MY : ∀ k, bQ env.bhooks 113 k = true := fun _ => rfl
theorem MX : ∀ k, bQ env.bhooks 114 k = true := fun _ => rfl
theorem MW : ∀ k, bQ env.bhooks 116 k = true := fun _ => rfl
theorem MV : ∀ k, bQ env.bhooks 117 k = true := fun _ => rfl
theorem MU : ∀ k, bQ env.bhooks 118 k = true := fun _ => rfl
theorem MT : ∀ k, bQ env.bhooks 120 k = true := fun _ => rfl
theorem MS : ∀ k, bQ env.bhooks 121 k = true := fun _ => rfl
theorem MR : ∀ k, bQ env.bhooks 122 k = true := fun _ => rfl
theorem MQ : ∀ k, bQ env.bhooks 123 k = true := fun _ => rfl
theorem MP : ∀ k, bQ env.bhooks 124 k = true := fun _ => rfl
theorem ti2 : ti env 2 = M.pure ⟨Go.TypeDesc.int (Go.IntKind.i64), 1, 8, .int .i64 (0)⟩ := rfl
theorem ti3 : ti env 3 = M.pure ⟨Go.TypeDesc.int (Go.IntKind.i64), 1, 8, .int .i64 (0)⟩ := rfl
theorem ti4 : ti env 4 = M.pure ⟨Go.TypeDesc.bool, 1, 1, .bool false⟩ := rfl
theorem ti5 : ti env 5 = M.pure ⟨Go.TypeDesc.int (Go.IntKind.u8), 1, 1, .int .u8 (0)⟩ := rfl
theorem ti9 : ti env 9 = M.pure ⟨Go.TypeDesc.string, 1, 16, .str []⟩ := rfl
theorem ti10 : ti env 10 = M.pure ⟨Go.TypeDesc.string, 1, 16, .str []⟩ := rfl
theorem FC : ti env 22 = M.pure ⟨Go.TypeDesc.pointer 59, 1, 8, .nilp⟩ := rfl
theorem QD : ti env 24 = M.pure ⟨Go.TypeDesc.array 32 5, 32, 32, .agg [.int .u8 (0), .int .u8 (0), .int .u8 (0), .int .u8 (0), .int .u8 (0), .int .u8 (0), .int .u8 (0), .int .u8 (0), .int .u8 (0), .int .u8 (0), .int .u8 (0), .int .u8 (0), .int .u8 (0), .int .u8 (0), .int .u8 (0), .int .u8 (0), .int .u8 (0), .int .u8 (0), .int .u8 (0), .int .u8 (0), .int .u8 (0), .int .u8 (0), .int .u8 (0), .int .u8 (0), .int .u8 (0), .int .u8 (0), .int .u8 (0), .int .u8 (0), .int .u8 (0), .int .u8 (0), .int .u8 (0), .int .u8 (0)]⟩ := rfl
theorem mR : ti env 25 = M.pure ⟨Go.TypeDesc.array 32 5, 32, 32, .agg [.int .u8 (0), .int .u8 (0), .int .u8 (0), .int .u8 (0), .int .u8 (0), .int .u8 (0), .int .u8 (0), .int .u8 (0), .int .u8 (0), .int .u8 (0), .int .u8 (0), .int .u8 (0), .int .u8 (0), .int .u8 (0), .int .u8 (0), .int .u8 (0), .int .u8 (0), .int .u8 (0), .int .u8 (0), .int .u8 (0), .int .u8 (0), .int .u8 (0), .int .u8 (0), .int .u8 (0), .int .u8 (0), .int .u8 (0), .int .u8 (0), .int .u8 (0), .int .u8 (0), .int .u8 (0), .int .u8 (0), .int .u8 (0)]⟩ := rfl
theorem nH : ti env 26 = M.pure ⟨Go.TypeDesc.int (Go.IntKind.u32), 1, 4, .int .u32 (0)⟩ := rfl
theorem QC : ti env 27 = M.pure ⟨Go.TypeDesc.struct #[⟨"Tx", 25, 0, false, "", "", 0⟩, ⟨"N", 26, 32, false, "", "", 32⟩], 33, 36, .agg [.int .u8 (0), .int .u8 (0), .int .u8 (0), .int .u8 (0), .int .u8 (0), .int .u8 (0), .int .u8 (0), .int .u8 (0), .int .u8 (0), .int .u8 (0), .int .u8 (0), .int .u8 (0), .int .u8 (0), .int .u8 (0), .int .u8 (0), .int .u8 (0), .int .u8 (0), .int .u8 (0), .int .u8 (0), .int .u8 (0), .int .u8 (0), .int .u8 (0), .int .u8 (0), .int .u8 (0), .int .u8 (0), .int .u8 (0), .int .u8 (0), .int .u8 (0), .int .u8 (0), .int .u8 (0), .int .u8 (0), .int .u8 (0), .int .u32 (0)]⟩ := rfl
theorem j3 : ti env 28 = M.pure ⟨Go.TypeDesc.struct #[⟨"Tx", 25, 0, false, "", "", 0⟩, ⟨"N", 26, 32, false, "", "", 32⟩], 33, 36, .agg [.int .u8 (0), .int .u8 (0), .int .u8 (0), .int .u8 (0), .int .u8 (0), .int .u8 (0), .int .u8 (0), .int .u8 (0), .int .u8 (0), .int .u8 (0), .int .u8 (0), .int .u8 (0), .int .u8 (0), .int .u8 (0), .int .u8 (0), .int .u8 (0), .int .u8 (0), .int .u8 (0), .int .u8 (0), .int .u8 (0), .int .u8 (0), .int .u8 (0), .int .u8 (0), .int .u8 (0), .int .u8 (0), .int .u8 (0), .int .u8 (0), .int .u8 (0), .int .u8 (0), .int .u8 (0), .int .u8 (0), .int .u8 (0), .int .u32 (0)]⟩ := rfl
theorem tK : ti env 29 = M.pure ⟨Go.TypeDesc.slice 5, 1, 24, .nils⟩ := rfl
theorem QB : ti env 30 = M.pure ⟨Go.TypeDesc.struct #[⟨"Point", 28, 0, false, "", "", 0⟩, ⟨"Made", 3, 33, false, "", "", 40⟩, ⟨"Value", 2, 34, false, "", "", 48⟩, ⟨"Script", 29, 35, false, "", "", 56⟩, ⟨"Base", 4, 36, false, "", "", 80⟩, ⟨"Spent", 3, 37, false, "", "", 88⟩, ⟨"Spender", 25, 38, false, "", "", 96⟩], 70, 128, .agg [.int .u8 (0), .int .u8 (0), .int .u8 (0), .int .u8 (0), .int .u8 (0), .int .u8 (0), .int .u8 (0), .int .u8 (0), .int .u8 (0), .int .u8 (0), .int .u8 (0), .int .u8 (0), .int .u8 (0), .int .u8 (0), .int .u8 (0), .int .u8 (0), .int .u8 (0), .int .u8 (0), .int .u8 (0), .int .u8 (0), .int .u8 (0), .int .u8 (0), .int .u8 (0), .int .u8 (0), .int .u8 (0), .int .u8 (0), .int .u8 (0), .int .u8 (0), .int .u8 (0), .int .u8 (0), .int .u8 (0), .int .u8 (0), .int .u32 (0), .int .i64 (0), .int .i64 (0), .nils, .bool false, .int .i64 (0), .int .u8 (0), .int .u8 (0), .int .u8 (0), .int .u8 (0), .int .u8 (0), .int .u8 (0), .int .u8 (0), .int .u8 (0), .int .u8 (0), .int .u8 (0), .int .u8 (0), .int .u8 (0), .int .u8 (0), .int .u8 (0), .int .u8 (0), .int .u8 (0), .int .u8 (0), .int .u8 (0), .int .u8 (0), .int .u8 (0), .int .u8 (0), .int .u8 (0), .int .u8 (0), .int .u8 (0), .int .u8 (0), .int .u8 (0), .int .u8 (0), .int .u8 (0), .int .u8 (0), .int .u8 (0), .int .u8 (0), .int .u8 (0)]⟩ := rfl
theorem eX : ti env 31 = M.pure ⟨Go.TypeDesc.struct #[⟨"Point", 28, 0, false, "", "", 0⟩, ⟨"Made", 3, 33, false, "", "", 40⟩, ⟨"Value", 2, 34, false, "", "", 48⟩, ⟨"Script", 29, 35, false, "", "", 56⟩, ⟨"Base", 4, 36, false, "", "", 80⟩, ⟨"Spent", 3, 37, false, "", "", 88⟩, ⟨"Spender", 25, 38, false, "", "", 96⟩], 70, 128, .agg [.int .u8 (0), .int .u8 (0), .int .u8 (0), .int .u8 (0), .int .u8 (0), .int .u8 (0), .int .u8 (0), .int .u8 (0), .int .u8 (0), .int .u8 (0), .int .u8 (0), .int .u8 (0), .int .u8 (0), .int .u8 (0), .int .u8 (0), .int .u8 (0), .int .u8 (0), .int .u8 (0), .int .u8 (0), .int .u8 (0), .int .u8 (0), .int .u8 (0), .int .u8 (0), .int .u8 (0), .int .u8 (0), .int .u8 (0), .int .u8 (0), .int .u8 (0), .int .u8 (0), .int .u8 (0), .int .u8 (0), .int .u8 (0), .int .u32 (0), .int .i64 (0), .int .i64 (0), .nils, .bool false, .int .i64 (0), .int .u8 (0), .int .u8 (0), .int .u8 (0), .int .u8 (0), .int .u8 (0), .int .u8 (0), .int .u8 (0), .int .u8 (0), .int .u8 (0), .int .u8 (0), .int .u8 (0), .int .u8 (0), .int .u8 (0), .int .u8 (0), .int .u8 (0), .int .u8 (0), .int .u8 (0), .int .u8 (0), .int .u8 (0), .int .u8 (0), .int .u8 (0), .int .u8 (0), .int .u8 (0), .int .u8 (0), .int .u8 (0), .int .u8 (0), .int .u8 (0), .int .u8 (0), .int .u8 (0), .int .u8 (0), .int .u8 (0), .int .u8 (0)]⟩ := rfl
theorem FB : ti env 32 = M.pure ⟨Go.TypeDesc.int (Go.IntKind.i64), 1, 8, .int .i64 (0)⟩ := rfl
theorem ti35 : ti env 35 = M.pure ⟨Go.TypeDesc.func #[26] #[28] false, 1, 8, .nilf⟩ := rfl
theorem ti37 : ti env 37 = M.pure ⟨Go.TypeDesc.tuple #[36, 32], 1, 0, .tup [.nils, .int .i64 (0)]⟩ := rfl
theorem sG : ti env 43 = M.pure ⟨Go.TypeDesc.slice 31, 1, 24, .nils⟩ := rfl
theorem CA : ti env 44 = M.pure ⟨Go.TypeDesc.slice 48, 1, 24, .nils⟩ := rfl
theorem QA : ti env 45 = M.pure ⟨Go.TypeDesc.struct #[⟨"Height", 3, 0, false, "", "", 0⟩, ⟨"Block", 25, 1, false, "", "", 8⟩, ⟨"Made", 43, 33, false, "", "", 40⟩, ⟨"Spends", 44, 34, false, "", "", 64⟩, ⟨"Burnt", 2, 35, false, "", "", 88⟩, ⟨"Left", 2, 36, false, "", "", 96⟩], 37, 104, .agg [.int .i64 (0), .int .u8 (0), .int .u8 (0), .int .u8 (0), .int .u8 (0), .int .u8 (0), .int .u8 (0), .int .u8 (0), .int .u8 (0), .int .u8 (0), .int .u8 (0), .int .u8 (0), .int .u8 (0), .int .u8 (0), .int .u8 (0), .int .u8 (0), .int .u8 (0), .int .u8 (0), .int .u8 (0), .int .u8 (0), .int .u8 (0), .int .u8 (0), .int .u8 (0), .int .u8 (0), .int .u8 (0), .int .u8 (0), .int .u8 (0), .int .u8 (0), .int .u8 (0), .int .u8 (0), .int .u8 (0), .int .u8 (0), .int .u8 (0), .nils, .nils, .int .i64 (0), .int .i64 (0)]⟩ := rfl
theorem lO : ti env 46 = M.pure ⟨Go.TypeDesc.struct #[⟨"Height", 3, 0, false, "", "", 0⟩, ⟨"Block", 25, 1, false, "", "", 8⟩, ⟨"Made", 43, 33, false, "", "", 40⟩, ⟨"Spends", 44, 34, false, "", "", 64⟩, ⟨"Burnt", 2, 35, false, "", "", 88⟩, ⟨"Left", 2, 36, false, "", "", 96⟩], 37, 104, .agg [.int .i64 (0), .int .u8 (0), .int .u8 (0), .int .u8 (0), .int .u8 (0), .int .u8 (0), .int .u8 (0), .int .u8 (0), .int .u8 (0), .int .u8 (0), .int .u8 (0), .int .u8 (0), .int .u8 (0), .int .u8 (0), .int .u8 (0), .int .u8 (0), .int .u8 (0), .int .u8 (0), .int .u8 (0), .int .u8 (0), .int .u8 (0), .int .u8 (0), .int .u8 (0), .int .u8 (0), .int .u8 (0), .int .u8 (0), .int .u8 (0), .int .u8 (0), .int .u8 (0), .int .u8 (0), .int .u8 (0), .int .u8 (0), .int .u8 (0), .nils, .nils, .int .i64 (0), .int .i64 (0)]⟩ := rfl
theorem Q9 : ti env 47 = M.pure ⟨Go.TypeDesc.struct #[⟨"Point", 28, 0, false, "", "", 0⟩, ⟨"Spender", 25, 33, false, "", "", 36⟩], 65, 68, .agg [.int .u8 (0), .int .u8 (0), .int .u8 (0), .int .u8 (0), .int .u8 (0), .int .u8 (0), .int .u8 (0), .int .u8 (0), .int .u8 (0), .int .u8 (0), .int .u8 (0), .int .u8 (0), .int .u8 (0), .int .u8 (0), .int .u8 (0), .int .u8 (0), .int .u8 (0), .int .u8 (0), .int .u8 (0), .int .u8 (0), .int .u8 (0), .int .u8 (0), .int .u8 (0), .int .u8 (0), .int .u8 (0), .int .u8 (0), .int .u8 (0), .int .u8 (0), .int .u8 (0), .int .u8 (0), .int .u8 (0), .int .u8 (0), .int .u32 (0), .int .u8 (0), .int .u8 (0), .int .u8 (0), .int .u8 (0), .int .u8 (0), .int .u8 (0), .int .u8 (0), .int .u8 (0), .int .u8 (0), .int .u8 (0), .int .u8 (0), .int .u8 (0), .int .u8 (0), .int .u8 (0), .int .u8 (0), .int .u8 (0), .int .u8 (0), .int .u8 (0), .int .u8 (0), .int .u8 (0), .int .u8 (0), .int .u8 (0), .int .u8 (0), .int .u8 (0), .int .u8 (0), .int .u8 (0), .int .u8 (0), .int .u8 (0), .int .u8 (0), .int .u8 (0), .int .u8 (0), .int .u8 (0)]⟩ := rfl
theorem wS : ti env 48 = M.pure ⟨Go.TypeDesc.struct #[⟨"Point", 28, 0, false, "", "", 0⟩, ⟨"Spender", 25, 33, false, "", "", 36⟩], 65, 68, .agg [.int .u8 (0), .int .u8 (0), .int .u8 (0), .int .u8 (0), .int .u8 (0), .int .u8 (0), .int .u8 (0), .int .u8 (0), .int .u8 (0), .int .u8 (0), .int .u8 (0), .int .u8 (0), .int .u8 (0), .int .u8 (0), .int .u8 (0), .int .u8 (0), .int .u8 (0), .int .u8 (0), .int .u8 (0), .int .u8 (0), .int .u8 (0), .int .u8 (0), .int .u8 (0), .int .u8 (0), .int .u8 (0), .int .u8 (0), .int .u8 (0), .int .u8 (0), .int .u8 (0), .int .u8 (0), .int .u8 (0), .int .u8 (0), .int .u32 (0), .int .u8 (0), .int .u8 (0), .int .u8 (0), .int .u8 (0), .int .u8 (0), .int .u8 (0), .int .u8 (0), .int .u8 (0), .int .u8 (0), .int .u8 (0), .int .u8 (0), .int .u8 (0), .int .u8 (0), .int .u8 (0), .int .u8 (0), .int .u8 (0), .int .u8 (0), .int .u8 (0), .int .u8 (0), .int .u8 (0), .int .u8 (0), .int .u8 (0), .int .u8 (0), .int .u8 (0), .int .u8 (0), .int .u8 (0), .int .u8 (0), .int .u8 (0), .int .u8 (0), .int .u8 (0), .int .u8 (0), .int .u8 (0)]⟩ := rfl
theorem pV : ti env 56 = M.pure ⟨Go.TypeDesc.pointer 100, 1, 8, .nilp⟩ := rfl
theorem qL : ti env 57 = M.pure ⟨Go.TypeDesc.slice 61, 1, 24, .nils⟩ := rfl
theorem Q8 : ti env 58 = M.pure ⟨Go.TypeDesc.struct #[⟨"x", 56, 0, false, "", "purser/store", 0⟩, ⟨"levels", 57, 1, false, "", "purser/store", 8⟩], 2, 32, .agg [.nilp, .nils]⟩ := rfl
theorem HL : ti env 59 = M.pure ⟨Go.TypeDesc.struct #[⟨"x", 56, 0, false, "", "purser/store", 0⟩, ⟨"levels", 57, 1, false, "", "purser/store", 8⟩], 2, 32, .agg [.nilp, .nils]⟩ := rfl
theorem Q7 : ti env 60 = M.pure ⟨Go.TypeDesc.struct #[⟨"Height", 3, 0, false, "", "", 0⟩, ⟨"Block", 25, 1, false, "", "", 8⟩, ⟨"Coins", 3, 33, false, "", "", 40⟩, ⟨"Total", 2, 34, false, "", "", 48⟩, ⟨"Burnt", 2, 35, false, "", "", 56⟩, ⟨"Left", 2, 36, false, "", "", 64⟩], 37, 72, .agg [.int .i64 (0), .int .u8 (0), .int .u8 (0), .int .u8 (0), .int .u8 (0), .int .u8 (0), .int .u8 (0), .int .u8 (0), .int .u8 (0), .int .u8 (0), .int .u8 (0), .int .u8 (0), .int .u8 (0), .int .u8 (0), .int .u8 (0), .int .u8 (0), .int .u8 (0), .int .u8 (0), .int .u8 (0), .int .u8 (0), .int .u8 (0), .int .u8 (0), .int .u8 (0), .int .u8 (0), .int .u8 (0), .int .u8 (0), .int .u8 (0), .int .u8 (0), .int .u8 (0), .int .u8 (0), .int .u8 (0), .int .u8 (0), .int .u8 (0), .int .i64 (0), .int .i64 (0), .int .i64 (0), .int .i64 (0)]⟩ := rfl
theorem gJ : ti env 61 = M.pure ⟨Go.TypeDesc.struct #[⟨"Height", 3, 0, false, "", "", 0⟩, ⟨"Block", 25, 1, false, "", "", 8⟩, ⟨"Coins", 3, 33, false, "", "", 40⟩, ⟨"Total", 2, 34, false, "", "", 48⟩, ⟨"Burnt", 2, 35, false, "", "", 56⟩, ⟨"Left", 2, 36, false, "", "", 64⟩], 37, 72, .agg [.int .i64 (0), .int .u8 (0), .int .u8 (0), .int .u8 (0), .int .u8 (0), .int .u8 (0), .int .u8 (0), .int .u8 (0), .int .u8 (0), .int .u8 (0), .int .u8 (0), .int .u8 (0), .int .u8 (0), .int .u8 (0), .int .u8 (0), .int .u8 (0), .int .u8 (0), .int .u8 (0), .int .u8 (0), .int .u8 (0), .int .u8 (0), .int .u8 (0), .int .u8 (0), .int .u8 (0), .int .u8 (0), .int .u8 (0), .int .u8 (0), .int .u8 (0), .int .u8 (0), .int .u8 (0), .int .u8 (0), .int .u8 (0), .int .u8 (0), .int .i64 (0), .int .i64 (0), .int .i64 (0), .int .i64 (0)]⟩ := rfl
theorem ti67 : ti env 67 = M.pure ⟨Go.TypeDesc.func #[65] #[56] false, 1, 8, .nilf⟩ := rfl
theorem ti69 : ti env 69 = M.pure ⟨Go.TypeDesc.func #[28, 3] #[32] false, 1, 8, .nilf⟩ := rfl
theorem ti74 : ti env 74 = M.pure ⟨Go.TypeDesc.func #[65, 31, 5] #[4] false, 1, 8, .nilf⟩ := rfl
theorem ti77 : ti env 77 = M.pure ⟨Go.TypeDesc.func #[] #[56] false, 1, 8, .nilf⟩ := rfl
theorem ti81 : ti env 81 = M.pure ⟨Go.TypeDesc.slice 29, 1, 24, .nils⟩ := rfl
theorem ti86 : ti env 86 = M.pure ⟨Go.TypeDesc.struct #[⟨"L", 43, 0, false, "", "", 0⟩], 1, 24, .agg [.nils]⟩ := rfl
theorem ti87 : ti env 87 = M.pure ⟨Go.TypeDesc.struct #[⟨"L", 43, 0, false, "", "", 0⟩], 1, 24, .agg [.nils]⟩ := rfl
theorem pJ : ti env 95 = M.pure ⟨Go.TypeDesc.slice 128, 1, 24, .nils⟩ := rfl
theorem FA : ti env 96 = M.pure ⟨Go.TypeDesc.func #[128, 128] #[3] false, 1, 8, .nilf⟩ := rfl
theorem Q6 : ti env 97 = M.pure ⟨Go.TypeDesc.struct #[⟨"l", 95, 0, false, "", "purser/index", 0⟩, ⟨"order", 96, 1, false, "", "purser/index", 24⟩], 2, 32, .agg [.nils, .nilf]⟩ := rfl
theorem Q5 : ti env 98 = M.pure ⟨Go.TypeDesc.struct #[⟨"l", 95, 0, false, "", "purser/index", 0⟩, ⟨"order", 96, 1, false, "", "purser/index", 24⟩], 2, 32, .agg [.nils, .nilf]⟩ := rfl
theorem Q4 : ti env 99 = M.pure ⟨Go.TypeDesc.struct #[⟨"made", 4, 0, false, "", "purser/index", 0⟩, ⟨"points", 98, 1, false, "", "purser/index", 8⟩, ⟨"scripts", 98, 3, false, "", "purser/index", 40⟩], 5, 72, .agg [.bool false, .nils, .nilf, .nils, .nilf]⟩ := rfl
theorem E0 : ti env 100 = M.pure ⟨Go.TypeDesc.struct #[⟨"made", 4, 0, false, "", "purser/index", 0⟩, ⟨"points", 98, 1, false, "", "purser/index", 8⟩, ⟨"scripts", 98, 3, false, "", "purser/index", 40⟩], 5, 72, .agg [.bool false, .nils, .nilf, .nils, .nilf]⟩ := rfl
theorem WN : ti env 101 = M.pure ⟨Go.TypeDesc.slice 105, 1, 24, .nils⟩ := rfl
theorem WM : ti env 102 = M.pure ⟨Go.TypeDesc.func #[101] #[3] false, 1, 8, .nilf⟩ := rfl
theorem HP : ti env 104 = M.pure ⟨Go.TypeDesc.struct #[⟨"Kind", 3, 0, false, "", "", 0⟩, ⟨"A", 46, 1, false, "", "", 8⟩, ⟨"Next", 4, 38, false, "", "", 112⟩, ⟨"N", 3, 39, false, "", "", 120⟩], 40, 128, .agg [.int .i64 (0), .int .i64 (0), .int .u8 (0), .int .u8 (0), .int .u8 (0), .int .u8 (0), .int .u8 (0), .int .u8 (0), .int .u8 (0), .int .u8 (0), .int .u8 (0), .int .u8 (0), .int .u8 (0), .int .u8 (0), .int .u8 (0), .int .u8 (0), .int .u8 (0), .int .u8 (0), .int .u8 (0), .int .u8 (0), .int .u8 (0), .int .u8 (0), .int .u8 (0), .int .u8 (0), .int .u8 (0), .int .u8 (0), .int .u8 (0), .int .u8 (0), .int .u8 (0), .int .u8 (0), .int .u8 (0), .int .u8 (0), .int .u8 (0), .int .u8 (0), .nils, .nils, .int .i64 (0), .int .i64 (0), .bool false, .int .i64 (0)]⟩ := rfl
theorem sY : ti env 105 = M.pure ⟨Go.TypeDesc.struct #[⟨"Kind", 3, 0, false, "", "", 0⟩, ⟨"A", 46, 1, false, "", "", 8⟩, ⟨"Next", 4, 38, false, "", "", 112⟩, ⟨"N", 3, 39, false, "", "", 120⟩], 40, 128, .agg [.int .i64 (0), .int .i64 (0), .int .u8 (0), .int .u8 (0), .int .u8 (0), .int .u8 (0), .int .u8 (0), .int .u8 (0), .int .u8 (0), .int .u8 (0), .int .u8 (0), .int .u8 (0), .int .u8 (0), .int .u8 (0), .int .u8 (0), .int .u8 (0), .int .u8 (0), .int .u8 (0), .int .u8 (0), .int .u8 (0), .int .u8 (0), .int .u8 (0), .int .u8 (0), .int .u8 (0), .int .u8 (0), .int .u8 (0), .int .u8 (0), .int .u8 (0), .int .u8 (0), .int .u8 (0), .int .u8 (0), .int .u8 (0), .int .u8 (0), .int .u8 (0), .nils, .nils, .int .i64 (0), .int .i64 (0), .bool false, .int .i64 (0)]⟩ := rfl
theorem WL : ti env 106 = M.pure ⟨Go.TypeDesc.func #[105, 3] #[46] false, 1, 8, .nilf⟩ := rfl
theorem WK : ti env 109 = M.pure ⟨Go.TypeDesc.func #[29, 3] #[2, 32] false, 1, 8, .nilf⟩ := rfl
theorem WJ : ti env 113 = M.pure ⟨Go.TypeDesc.func #[101, 28, 29, 5] #[4] false, 1, 8, .nilf⟩ := rfl
theorem WI : ti env 114 = M.pure ⟨Go.TypeDesc.func #[31, 3] #[31] false, 1, 8, .nilf⟩ := rfl
theorem WH : ti env 120 = M.pure ⟨Go.TypeDesc.int (Go.IntKind.u64), 1, 8, .int .u64 (0)⟩ := rfl
theorem WG : ti env 124 = M.pure ⟨Go.TypeDesc.func #[153] #[] false, 1, 8, .nilf⟩ := rfl
theorem WE : ti env 125 = M.pure ⟨Go.TypeDesc.func #[153] #[] false, 1, 8, .nilf⟩ := rfl
theorem iL : ti env 128 = M.pure ⟨Go.TypeDesc.pointer 31, 1, 8, .nilp⟩ := rfl
theorem HO : ti env 129 = M.pure ⟨Go.TypeDesc.func #[128] #[4] false, 1, 8, .nilf⟩ := rfl
theorem WD : ti env 134 = M.pure ⟨Go.TypeDesc.func #[129] #[] false, 1, 8, .nilf⟩ := rfl
theorem WC : ti env 135 = M.pure ⟨Go.TypeDesc.func #[129] #[] false, 1, 8, .nilf⟩ := rfl
theorem WB : ti env 147 = M.pure ⟨Go.TypeDesc.slice 3, 1, 24, .nils⟩ := rfl
theorem WA : ti env 150 = M.pure ⟨Go.TypeDesc.func #[160] #[] false, 1, 8, .nilf⟩ := rfl
theorem W9 : ti env 151 = M.pure ⟨Go.TypeDesc.func #[160] #[] false, 1, 8, .nilf⟩ := rfl
theorem W8 : ti env 153 = M.pure ⟨Go.TypeDesc.func #[61] #[4] false, 1, 8, .nilf⟩ := rfl
theorem HN : ti env 156 = M.pure ⟨Go.TypeDesc.pointer 98, 1, 8, .nilp⟩ := rfl
theorem W7 : ti env 160 = M.pure ⟨Go.TypeDesc.func #[28, 4] #[4] false, 1, 8, .nilf⟩ := rfl
theorem HM : ti env 161 = M.pure ⟨Go.TypeDesc.map 28 3, 1, 8, .nilm⟩ := rfl
theorem W6 : ti env 166 = M.pure ⟨Go.TypeDesc.int (Go.IntKind.u64), 1, 8, .int .u64 (0)⟩ := rfl
theorem fi10 : (env.funcs.find 10).i = UM.i := rfl
theorem ff10 : (env.funcs.find 10).f.beq 10 = true := rfl
theorem hk10 : ∀ args : List a9, bT env (evalW env) 10 args = aZ env (evalW env) 10 args := fun _ => rfl
theorem fg10 : ∀ tm : List a9, forget env 10 tm = aA [true, true, false, false, true, true, true, true, true, true, false, true, true, true, true, true, true, false, false, false, false, false, false, false, false, false, false, false, false, true, false, false, false, false, false, false, false, false, false, true, true, true, true, false, false, false, false, false, false, false, false, false, false, false, false, false, false, false, false, false, false, false, false, false, false, false, false, false, false, false, false, false, false, false, true, false, false, true, false, false, false, false, false, false, false, false, false, false, false, false, false, false, false, false, false, false, false, false, false, false, false, false, true, false, false, false, false, false, false, false] tm := fun _ => rfl
theorem fi14 : (env.funcs.find 14).i = UL.i := rfl
theorem ff14 : (env.funcs.find 14).f.beq 14 = true := rfl
theorem hk14 : ∀ args : List a9, bT env (evalW env) 14 args = aZ env (evalW env) 14 args := fun _ => rfl
theorem fg14 : ∀ tm : List a9, forget env 14 tm = aA [true, true, true, true, false, false, false, false, false, false, false, false, false, false, false, false, false, false, false, false, false, false, false, false, false, false, false, false, false, false, false, false, false, false, false, false, true, false] tm := fun _ => rfl
theorem fi16 : (env.funcs.find 16).i = UK.i := rfl
theorem ff16 : (env.funcs.find 16).f.beq 16 = true := rfl
theorem hk16 : ∀ args : List a9, bT env (evalW env) 16 args = aZ env (evalW env) 16 args := fun _ => rfl
theorem fg16 : ∀ tm : List a9, forget env 16 tm = aA [true, false, true, false, false] tm := fun _ => rfl
theorem fi19 : (env.funcs.find 19).i = UJ.i := rfl
theorem ff19 : (env.funcs.find 19).f.beq 19 = true := rfl
theorem hk19 : ∀ args : List a9, bT env (evalW env) 19 args = aZ env (evalW env) 19 args := fun _ => rfl
theorem fg19 : ∀ tm : List a9, forget env 19 tm = aA [true, true, false, true, true, true, true, true, true, true, true, true, false, false, true, false, false, false, false, false, false, false, false, false, false, false, false, false, false, false, false, false, false, false, false, false, false, false, false, false, false, false, false, false, false, false, false, false, false, false, false, false, false, false, false, false, false, false, false, false, false, false, false, false, false, false, true, false, false, false, false, false, false, false, false, false, false, false, false, false, false, false, false, false, false, false, false, false, false, false, false, false, false, false, false, false, false, false, false, false] tm := fun _ => rfl
theorem fi22 : (env.funcs.find 22).i = UH.i := rfl
theorem ff22 : (env.funcs.find 22).f.beq 22 = true := rfl
theorem hk22 : ∀ args : List a9, bT env (evalW env) 22 args = aZ env (evalW env) 22 args := fun _ => rfl
theorem fg22 : ∀ tm : List a9, forget env 22 tm = aA [true, true, false, false, true, true, false, true, true, false, false, true, false, false, false, false, false, false, false, false, false, false, false, false, false, false, true, true, true, true, false, false, true, false, false, false, false, false, false, false, false, false, false, true, false, false, false, false, false, false, false, false, false, false, false, false, false, false, false, false, false, false, false, false, false, false, false, false, false, false, false, false, false, false, false] tm := fun _ => rfl
theorem fi24 : (env.funcs.find 24).i = UG.i := rfl
theorem ff24 : (env.funcs.find 24).f.beq 24 = true := rfl
theorem hk24 : ∀ args : List a9, bT env (evalW env) 24 args = aZ env (evalW env) 24 args := fun _ => rfl
theorem fg24 : ∀ tm : List a9, forget env 24 tm = aA [true, false, true, false, true, false, false, false, false, false] tm := fun _ => rfl
theorem fi25 : (env.funcs.find 25).i = UF.i := rfl
theorem ff25 : (env.funcs.find 25).f.beq 25 = true := rfl
theorem hk25 : ∀ args : List a9, bT env (evalW env) 25 args = aZ env (evalW env) 25 args := fun _ => rfl
theorem fg25 : ∀ tm : List a9, forget env 25 tm = aA [true, true, false, true, true, true, true, true, true, false, true, false, false, true, true, false, false, false, true, false, false, false] tm := fun _ => rfl
theorem fi26 : (env.funcs.find 26).i = UE.i := rfl
theorem ff26 : (env.funcs.find 26).f.beq 26 = true := rfl
theorem hk26 : ∀ args : List a9, bT env (evalW env) 26 args = aZ env (evalW env) 26 args := fun _ => rfl
theorem fg26 : ∀ tm : List a9, forget env 26 tm = aA [true, false, false, false] tm := fun _ => rfl
theorem fi27 : (env.funcs.find 27).i = UD.i := rfl
theorem ff27 : (env.funcs.find 27).f.beq 27 = true := rfl
theorem hk27 : ∀ args : List a9, bT env (evalW env) 27 args = aZ env (evalW env) 27 args := fun _ => rfl
theorem fg27 : ∀ tm : List a9, forget env 27 tm = aA [true, true, true, true, true, true, true, true, false, false, false, false, false, false, false, false, false, false, false, false, false, false, false, false, false, false, false, false, false, false, false, false, false, false, false, false, false, false, false, false, false, false, false, false, false, false, false, false, false, false, false, false] tm := fun _ => rfl
theorem fi28 : (env.funcs.find 28).i = UC.i := rfl
theorem ff28 : (env.funcs.find 28).f.beq 28 = true := rfl
theorem hk28 : ∀ args : List a9, bT env (evalW env) 28 args = aZ env (evalW env) 28 args := fun _ => rfl
theorem fg28 : ∀ tm : List a9, forget env 28 tm = aA [true, false, true, false, true, false, false, false, false, false, false, false, false, false, false, false, false] tm := fun _ => rfl
theorem fi32 : (env.funcs.find 32).i = UB.i := rfl
theorem ff32 : (env.funcs.find 32).f.beq 32 = true := rfl
theorem hk32 : ∀ args : List a9, bT env (evalW env) 32 args = aZ env (evalW env) 32 args := fun _ => rfl
theorem fg32 : ∀ tm : List a9, forget env 32 tm = aA [true, false, true, false, true, false, false, false, false, false, false] tm := fun _ => rfl
theorem fi33 : (env.funcs.find 33).i = UA.i := rfl
theorem ff33 : (env.funcs.find 33).f.beq 33 = true := rfl
theorem hk33 : ∀ args : List a9, bT env (evalW env) 33 args = aZ env (evalW env) 33 args := fun _ => rfl
theorem fg33 : ∀ tm : List a9, forget env 33 tm = aA [true, true, false, true, true, true, true, false, false, true, false, false, false, false, false, false, false, false, false, false, false, false, false, false, false, false, false, false, false, false, false, false, false, false, false, false, false, false, false, false, false, false, false, false, false, false, false, false, false] tm := fun _ => rfl
theorem fi34 : (env.funcs.find 34).i = U9.i := rfl
theorem ff34 : (env.funcs.find 34).f.beq 34 = true := rfl
theorem hk34 : ∀ args : List a9, bT env (evalW env) 34 args = aZ env (evalW env) 34 args := fun _ => rfl
theorem fg34 : ∀ tm : List a9, forget env 34 tm = aA [true, true, true, false, true, false, true, true, false, true, false, false, false, false, false, true, false, false, false, false, false, false, false, false, false, false] tm := fun _ => rfl
theorem fi35 : (env.funcs.find 35).i = NP.i := rfl
theorem ff35 : (env.funcs.find 35).f.beq 35 = true := rfl
theorem hk35 : ∀ args : List a9, bT env (evalW env) 35 args = aZ env (evalW env) 35 args := fun _ => rfl
theorem fg35 : ∀ tm : List a9, forget env 35 tm = aA [true, true, false, false, true, true, true, false, false, false, false, true, false, false, false, true, false, false, false, false, false, false, false, false, false, false, false, false, true] tm := fun _ => rfl
theorem fi36 : (env.funcs.find 36).i = U8.i := rfl
theorem ff36 : (env.funcs.find 36).f.beq 36 = true := rfl
theorem hk36 : ∀ args : List a9, bT env (evalW env) 36 args = aZ env (evalW env) 36 args := fun _ => rfl
theorem fg36 : ∀ tm : List a9, forget env 36 tm = aA [true, true, true, true, true, false, true, false, false, true, true, true, true, false, true, false, false, false, false, false, false, false, false, false, false, false, false, false, false, false, false, false, false, false, false, false, true, false, false, false, false, false, false, false, false, false, false, false] tm := fun _ => rfl
theorem fi37 : (env.funcs.find 37).i = U7.i := rfl
theorem ff37 : (env.funcs.find 37).f.beq 37 = true := rfl
theorem hk37 : ∀ args : List a9, bT env (evalW env) 37 args = aZ env (evalW env) 37 args := fun _ => rfl
theorem fg37 : ∀ tm : List a9, forget env 37 tm = aA [true, true, true, false, true, true, true, true, true, true, false, false, true, true, false, false, false, false, false, true, false, false, true, false, false, false, false, false] tm := fun _ => rfl
theorem fi38 : (env.funcs.find 38).i = U6.i := rfl
theorem ff38 : (env.funcs.find 38).f.beq 38 = true := rfl
theorem hk38 : ∀ args : List a9, bT env (evalW env) 38 args = aZ env (evalW env) 38 args := fun _ => rfl
theorem fg38 : ∀ tm : List a9, forget env 38 tm = aA [true, true, true, false, true, false, true, true, true, false, true, false, false, false, false, false, false, false, false, false, false, false, false, true, false, false, false, false, false, false, false, false, false, false] tm := fun _ => rfl
theorem fi40 : (env.funcs.find 40).i = U5.i := rfl
theorem ff40 : (env.funcs.find 40).f.beq 40 = true := rfl
theorem hk40 : ∀ args : List a9, bT env (evalW env) 40 args = aZ env (evalW env) 40 args := fun _ => rfl
theorem fg40 : ∀ tm : List a9, forget env 40 tm = aA [true, true, false, false, false, false, false, false, false, false, false, false, false] tm := fun _ => rfl
theorem fi41 : (env.funcs.find 41).i = U4.i := rfl
theorem ff41 : (env.funcs.find 41).f.beq 41 = true := rfl
theorem hk41 : ∀ args : List a9, bT env (evalW env) 41 args = aZ env (evalW env) 41 args := fun _ => rfl
theorem fg41 : ∀ tm : List a9, forget env 41 tm = aA [true, false, true, true, false, true, false, false, false, false, false, false, false, false, false, false, false, false, false, false, false, false, false, false, false, false, false, false] tm := fun _ => rfl
theorem fi42 : (env.funcs.find 42).i = U3.i := rfl
theorem ff42 : (env.funcs.find 42).f.beq 42 = true := rfl
theorem hk42 : ∀ args : List a9, bT env (evalW env) 42 args = aZ env (evalW env) 42 args := fun _ => rfl
theorem fg42 : ∀ tm : List a9, forget env 42 tm = aA [true, true, true, true, true, true, false, false, false, false, false, false, false, false, false, false, false, false, false, false, false, false, false, false, false, false, false, false, false, false, false, false, false, false, false, false, false, false, false, false, false, false, false, false, false, false, false, false, false, false, false, false, false, false, false, false, false] tm := fun _ => rfl
theorem fi43 : (env.funcs.find 43).i = U2.i := rfl
theorem ff43 : (env.funcs.find 43).f.beq 43 = true := rfl
theorem hk43 : ∀ args : List a9, bT env (evalW env) 43 args = aZ env (evalW env) 43 args := fun _ => rfl
theorem fg43 : ∀ tm : List a9, forget env 43 tm = aA [true, true, true, false, true, true, true, true, true, false, true, false, false, false, false, false, false, false, true, true, false, false, false, false, false, false, true, false, false, false, false, true, false, false, false, false, false, false, false, false] tm := fun _ => rfl
theorem fi57 : (env.funcs.find 57).i = U1.i := rfl
theorem ff57 : (env.funcs.find 57).f.beq 57 = true := rfl
theorem hk57 : ∀ args : List a9, bT env (evalW env) 57 args = aZ env (evalW env) 57 args := fun _ => rfl
theorem fg57 : ∀ tm : List a9, forget env 57 tm = aA [true, false, true, true, true, false, false, true, false, true, true, true, false, false, false, false, false, false, false, false, false, false, false, false, false, false, false, false, false, false, true, false, false, false, false, false, false, true, true, true, false, false, false, false, false, false, false, false, false, false, false, false, true, false, false] tm := fun _ => rfl
theorem fi58 : (env.funcs.find 58).i = U0.i := rfl
theorem ff58 : (env.funcs.find 58).f.beq 58 = true := rfl
theorem hk58 : ∀ args : List a9, bT env (evalW env) 58 args = aZ env (evalW env) 58 args := fun _ => rfl
theorem fg58 : ∀ tm : List a9, forget env 58 tm = aA [true, false, true, true, false, true, false, true, true, true, true, false, false, false, true, true, false, false, false, false, false, false, false, true, false, false, false, false, false, false, false] tm := fun _ => rfl
theorem fi59 : (env.funcs.find 59).i = TZ.i := rfl
theorem ff59 : (env.funcs.find 59).f.beq 59 = true := rfl
theorem hk59 : ∀ args : List a9, bT env (evalW env) 59 args = aZ env (evalW env) 59 args := fun _ => rfl
theorem fg59 : ∀ tm : List a9, forget env 59 tm = aA [true, true, true, false, true, true, true, false, false, false, false, true, false, false, false, false, false, true, true, true, false, false, false, false, false, false, false, false, false, false] tm := fun _ => rfl
theorem fi60 : (env.funcs.find 60).i = TY.i := rfl
theorem ff60 : (env.funcs.find 60).f.beq 60 = true := rfl
theorem hk60 : ∀ args : List a9, bT env (evalW env) 60 args = aZ env (evalW env) 60 args := fun _ => rfl
theorem fg60 : ∀ tm : List a9, forget env 60 tm = aA [true, true, true, false, false, false, true, true, false, true, true, false, true, false, false, false, false, false, false, false, true, false, false, false, false, false, false, false, true, true, true, true, false, false, false, false, false, false, false, false] tm := fun _ => rfl
theorem fi63 : (env.funcs.find 63).i = JU.i := rfl
theorem ff63 : (env.funcs.find 63).f.beq 63 = true := rfl
theorem hk63 : ∀ args : List a9, bT env (evalW env) 63 args = aZ env (evalW env) 63 args := fun _ => rfl
theorem fg63 : ∀ tm : List a9, forget env 63 tm = aA [true, false, true, true, false, true, true, true, true, true, false, false, false, false, true, false, false, false] tm := fun _ => rfl
theorem UN : (env.funcs.find 66).i = D4.i := rfl
theorem UP : (env.funcs.find 66).f.beq 66 = true := rfl
theorem T3 : ∀ args : List a9, bT env (evalW env) 66 args = aZ env (evalW env) 66 args := fun _ => rfl
theorem UO : ∀ tm : List a9, forget env 66 tm = aA [true, false, true, false, false, false, false, false, false, false, false, false] tm := fun _ => rfl
theorem fi67 : (env.funcs.find 67).i = TX.i := rfl
theorem ff67 : (env.funcs.find 67).f.beq 67 = true := rfl
theorem hk67 : ∀ args : List a9, bT env (evalW env) 67 args = aZ env (evalW env) 67 args := fun _ => rfl
theorem fg67 : ∀ tm : List a9, forget env 67 tm = aA [true, true, true, true, false, true, false, false, false, false, false, false, false, false, false, false, false, false, false, false, false, false, false, false, false, false, false, false, false, false, false, false, true, false, true, false, false, false, false, false, true, false, true] tm := fun _ => rfl
theorem fi68 : (env.funcs.find 68).i = TW.i := rfl
theorem ff68 : (env.funcs.find 68).f.beq 68 = true := rfl
theorem hk68 : ∀ args : List a9, bT env (evalW env) 68 args = aZ env (evalW env) 68 args := fun _ => rfl
theorem fg68 : ∀ tm : List a9, forget env 68 tm = aA [true, false, true, false, false, false, false, false, true, false, false, false, false, false, false, false, false, false, false, false, false, false] tm := fun _ => rfl
theorem fi69 : (env.funcs.find 69).i = TV.i := rfl
theorem ff69 : (env.funcs.find 69).f.beq 69 = true := rfl
theorem hk69 : ∀ args : List a9, bT env (evalW env) 69 args = aZ env (evalW env) 69 args := fun _ => rfl
theorem fg69 : ∀ tm : List a9, forget env 69 tm = aA [true, true, true, true, false, false, true, false, true, true, false, true, false, true, false, true, true, true, false, true, true, true, true, false, false, false, false, false, false, false, false, false, false, false, false, false, false, false, false, false, false, false, false, true, false, false, false, false, false, false, false, true, true, true, true, false, false, false, false, false, false, false, false, false, false, false, false, false, false, false, false, false, false, false, false, false, false, false, false, false, true, false, false, false, false, false, false, false] tm := fun _ => rfl
theorem fi70 : (env.funcs.find 70).i = TU.i := rfl
theorem ff70 : (env.funcs.find 70).f.beq 70 = true := rfl
theorem hk70 : ∀ args : List a9, bT env (evalW env) 70 args = aZ env (evalW env) 70 args := fun _ => rfl
theorem fg70 : ∀ tm : List a9, forget env 70 tm = aA [true, false, true, false, false, false, false, false, false] tm := fun _ => rfl
theorem fi71 : (env.funcs.find 71).i = TS.i := rfl
theorem ff71 : (env.funcs.find 71).f.beq 71 = true := rfl
theorem hk71 : ∀ args : List a9, bT env (evalW env) 71 args = aZ env (evalW env) 71 args := fun _ => rfl
theorem fg71 : ∀ tm : List a9, forget env 71 tm = aA [true, false, true, false, true, false, false, false] tm := fun _ => rfl
theorem fi72 : (env.funcs.find 72).i = TR.i := rfl
theorem ff72 : (env.funcs.find 72).f.beq 72 = true := rfl
theorem hk72 : ∀ args : List a9, bT env (evalW env) 72 args = aZ env (evalW env) 72 args := fun _ => rfl
theorem fg72 : ∀ tm : List a9, forget env 72 tm = aA [true, true, true, false] tm := fun _ => rfl
theorem fi73 : (env.funcs.find 73).i = TQ.i := rfl
theorem ff73 : (env.funcs.find 73).f.beq 73 = true := rfl
theorem hk73 : ∀ args : List a9, bT env (evalW env) 73 args = aZ env (evalW env) 73 args := fun _ => rfl
theorem fg73 : ∀ tm : List a9, forget env 73 tm = aA [true, false, true, false, false, false, false, false, false, false, false, false] tm := fun _ => rfl
theorem fi74 : (env.funcs.find 74).i = TP.i := rfl
theorem ff74 : (env.funcs.find 74).f.beq 74 = true := rfl
theorem hk74 : ∀ args : List a9, bT env (evalW env) 74 args = aZ env (evalW env) 74 args := fun _ => rfl
theorem fg74 : ∀ tm : List a9, forget env 74 tm = aA [true, true, false, false, true, true, false, true, true, true, true, true, false, false, false, false, true, false, false, false, false, false, false, false, false, false] tm := fun _ => rfl
theorem fi75 : (env.funcs.find 75).i = TO.i := rfl
theorem ff75 : (env.funcs.find 75).f.beq 75 = true := rfl
theorem hk75 : ∀ args : List a9, bT env (evalW env) 75 args = aZ env (evalW env) 75 args := fun _ => rfl
theorem fg75 : ∀ tm : List a9, forget env 75 tm = aA [false, false, true] tm := fun _ => rfl
theorem fi76 : (env.funcs.find 76).i = TN.i := rfl
theorem ff76 : (env.funcs.find 76).f.beq 76 = true := rfl
theorem hk76 : ∀ args : List a9, bT env (evalW env) 76 args = aZ env (evalW env) 76 args := fun _ => rfl
theorem fg76 : ∀ tm : List a9, forget env 76 tm = aA [true, true, true, false, true, false, true, true, true, false, false, false, false, false, false, false, false, false, false, false, false, true, false, false, false, false, false, false, false, false] tm := fun _ => rfl
theorem fi77 : (env.funcs.find 77).i = TL.i := rfl
theorem ff77 : (env.funcs.find 77).f.beq 77 = true := rfl
theorem hk77 : ∀ args : List a9, bT env (evalW env) 77 args = aZ env (evalW env) 77 args := fun _ => rfl
theorem fg77 : ∀ tm : List a9, forget env 77 tm = aA [true, true, true, false, false, false, false, false] tm := fun _ => rfl
theorem fi78 : (env.funcs.find 78).i = TK.i := rfl
theorem ff78 : (env.funcs.find 78).f.beq 78 = true := rfl
theorem hk78 : ∀ args : List a9, bT env (evalW env) 78 args = aZ env (evalW env) 78 args := fun _ => rfl
theorem fg78 : ∀ tm : List a9, forget env 78 tm = aA [true, true, false, false, true, false, false, false, false, false, false, false, false, false, false, false, false, false, false, false, false, false, false] tm := fun _ => rfl
theorem fi79 : (env.funcs.find 79).i = TJ.i := rfl
theorem ff79 : (env.funcs.find 79).f.beq 79 = true := rfl
theorem hk79 : ∀ args : List a9, bT env (evalW env) 79 args = aZ env (evalW env) 79 args := fun _ => rfl
theorem fg79 : ∀ tm : List a9, forget env 79 tm = aA [true, true, false, false, true, false, false, false, false, false, false, false, false, false, false, false, false, false, false, false, false, false, false] tm := fun _ => rfl
theorem fi80 : (env.funcs.find 80).i = TG.i := rfl
theorem ff80 : (env.funcs.find 80).f.beq 80 = true := rfl
theorem hk80 : ∀ args : List a9, bT env (evalW env) 80 args = aZ env (evalW env) 80 args := fun _ => rfl
theorem fg80 : ∀ tm : List a9, forget env 80 tm = aA [true, true, true, false, false, true, false, false, false, false, false, false, false, false, false, false, false, false, false, false, false, false, false, false] tm := fun _ => rfl
theorem fi81 : (env.funcs.find 81).i = TF.i := rfl
theorem ff81 : (env.funcs.find 81).f.beq 81 = true := rfl
theorem hk81 : ∀ args : List a9, bT env (evalW env) 81 args = aZ env (evalW env) 81 args := fun _ => rfl
theorem fg81 : ∀ tm : List a9, forget env 81 tm = aA [true, true, true, true, true, false] tm := fun _ => rfl
theorem fi82 : (env.funcs.find 82).i = TD.i := rfl
theorem ff82 : (env.funcs.find 82).f.beq 82 = true := rfl
theorem hk82 : ∀ args : List a9, bT env (evalW env) 82 args = aZ env (evalW env) 82 args := fun _ => rfl
theorem fg82 : ∀ tm : List a9, forget env 82 tm = aA [true, true, true, false, true, false, false, false, false, false, false, false, false, false, false, false, false, false, false, false] tm := fun _ => rfl
theorem fi84 : (env.funcs.find 84).i = TC.i := rfl
theorem ff84 : (env.funcs.find 84).f.beq 84 = true := rfl
theorem hk84 : ∀ args : List a9, bT env (evalW env) 84 args = aZ env (evalW env) 84 args := fun _ => rfl
theorem fg84 : ∀ tm : List a9, forget env 84 tm = aA [true, true, false, false, true, false, false, false, false, false, false, false] tm := fun _ => rfl
theorem fi85 : (env.funcs.find 85).i = TB.i := rfl
theorem ff85 : (env.funcs.find 85).f.beq 85 = true := rfl
theorem hk85 : ∀ args : List a9, bT env (evalW env) 85 args = aZ env (evalW env) 85 args := fun _ => rfl
theorem fg85 : ∀ tm : List a9, forget env 85 tm = aA [true, true, false, false, true, false, false, false, false, false, false, false, false, false, false, false, false, false, false] tm := fun _ => rfl
theorem fi86 : (env.funcs.find 86).i = TA.i := rfl
theorem ff86 : (env.funcs.find 86).f.beq 86 = true := rfl
theorem hk86 : ∀ args : List a9, bT env (evalW env) 86 args = aZ env (evalW env) 86 args := fun _ => rfl
theorem fg86 : ∀ tm : List a9, forget env 86 tm = aA [true, false, true, false, true, false, false, false] tm := fun _ => rfl
theorem fi87 : (env.funcs.find 87).i = T9.i := rfl
theorem ff87 : (env.funcs.find 87).f.beq 87 = true := rfl
theorem hk87 : ∀ args : List a9, bT env (evalW env) 87 args = aZ env (evalW env) 87 args := fun _ => rfl
theorem fg87 : ∀ tm : List a9, forget env 87 tm = aA [true, true, true, true, true, true, false, true, false, false, false, false, false, false, false, false, false, false, true, false, false, false, false, false, false, false, false, true, false, false, false, false, true, false, false, false, false, true] tm := fun _ => rfl
theorem fi88 : (env.funcs.find 88).i = T8.i := rfl
theorem ff88 : (env.funcs.find 88).f.beq 88 = true := rfl
theorem hk88 : ∀ args : List a9, bT env (evalW env) 88 args = aZ env (evalW env) 88 args := fun _ => rfl
theorem fg88 : ∀ tm : List a9, forget env 88 tm = aA [true, true, true, true, true, false] tm := fun _ => rfl
theorem fi89 : (env.funcs.find 89).i = T7.i := rfl
theorem ff89 : (env.funcs.find 89).f.beq 89 = true := rfl
theorem hk89 : ∀ args : List a9, bT env (evalW env) 89 args = aZ env (evalW env) 89 args := fun _ => rfl
theorem fg89 : ∀ tm : List a9, forget env 89 tm = aA [true, true, false, false, true, false, false, false, false, false] tm := fun _ => rfl
theorem fi90 : (env.funcs.find 90).i = T6.i := rfl
theorem ff90 : (env.funcs.find 90).f.beq 90 = true := rfl
theorem hk90 : ∀ args : List a9, bT env (evalW env) 90 args = aZ env (evalW env) 90 args := fun _ => rfl
theorem fg90 : ∀ tm : List a9, forget env 90 tm = aA [true, false, true, false, true, false, false, false] tm := fun _ => rfl
theorem fi96 : (env.funcs.find 96).i = T5.i := rfl
theorem ff96 : (env.funcs.find 96).f.beq 96 = true := rfl
theorem hk96 : ∀ args : List a9, bT env (evalW env) 96 args = aZ env (evalW env) 96 args := fun _ => rfl
theorem fg96 : ∀ tm : List a9, forget env 96 tm = aA [true, true, true, true, true, true, false, false, false, false, false, false, false, true, false, false, false, false, false, false, false, false, false, false, false, false, false, false, false, false, false, false, false, false, false, false, false, false] tm := fun _ => rfl
theorem fi99 : (env.funcs.find 99).i = NO.i := rfl
theorem ff99 : (env.funcs.find 99).f.beq 99 = true := rfl
theorem hk99 : ∀ args : List a9, bT env (evalW env) 99 args = aZ env (evalW env) 99 args := fun _ => rfl
theorem fg99 : ∀ tm : List a9, forget env 99 tm = aA [true, false, true, false, false, false, false, false, false] tm := fun _ => rfl
theorem Y9 : (env.funcs.find 100).i = EJ.i := rfl
theorem ZB : (env.funcs.find 100).f.beq 100 = true := rfl
theorem XR : ∀ args : List a9, bT env (evalW env) 100 args = aZ env (evalW env) 100 args := fun _ => rfl
theorem YU : ∀ tm : List a9, forget env 100 tm = aA [true, false, true, false, false, false, false, false, false] tm := fun _ => rfl
theorem Y8 : (env.funcs.find 101).i = K9.i := rfl
theorem ZA : (env.funcs.find 101).f.beq 101 = true := rfl
theorem XQ : ∀ args : List a9, bT env (evalW env) 101 args = aZ env (evalW env) 101 args := fun _ => rfl
theorem YT : ∀ tm : List a9, forget env 101 tm = aA [true, true, true, false] tm := fun _ => rfl
theorem Y7 : (env.funcs.find 102).i = K8.i := rfl
theorem Z9 : (env.funcs.find 102).f.beq 102 = true := rfl
theorem OW : ∀ args : List a9, bT env (evalW env) 102 args = aZ env (evalW env) 102 args := fun _ => rfl
theorem YS : ∀ tm : List a9, forget env 102 tm = aA [true, true, false, true, false, false, false, false, true, true, true, false, false, false, false, false, false, false, false, false, false, true, false] tm := fun _ => rfl
theorem Y6 : (env.funcs.find 103).i = K7.i := rfl
theorem Z8 : (env.funcs.find 103).f.beq 103 = true := rfl
theorem XP : ∀ args : List a9, bT env (evalW env) 103 args = aZ env (evalW env) 103 args := fun _ => rfl
theorem YR : ∀ tm : List a9, forget env 103 tm = aA [true, true, false, false, true, true, false, false, false, false, false, false, false, false, false, false, false, false] tm := fun _ => rfl
theorem Y5 : (env.funcs.find 105).i = K6.i := rfl
theorem Z7 : (env.funcs.find 105).f.beq 105 = true := rfl
theorem XO : ∀ args : List a9, bT env (evalW env) 105 args = aZ env (evalW env) 105 args := fun _ => rfl
theorem YP : ∀ tm : List a9, forget env 105 tm = aA [true, true, true, false, false, false, true, true, false, false, false, false, false, false, false, false, true, false, false, false, false, false, false, false, false, false, false, false, false, false, false, false, false] tm := fun _ => rfl
theorem Y4 : (env.funcs.find 106).i = K4.i := rfl
theorem Z6 : (env.funcs.find 106).f.beq 106 = true := rfl
theorem OV : ∀ args : List a9, bT env (evalW env) 106 args = aZ env (evalW env) 106 args := fun _ => rfl
theorem YO : ∀ tm : List a9, forget env 106 tm = aA [true, true, true, true, true, false, true, false, false, false, false, false, false, true, true, false, false, false, false, false, false, false, false, false, false, false, true] tm := fun _ => rfl
theorem Y3 : (env.funcs.find 107).i = K3.i := rfl
theorem Z5 : (env.funcs.find 107).f.beq 107 = true := rfl
theorem XN : ∀ args : List a9, bT env (evalW env) 107 args = aZ env (evalW env) 107 args := fun _ => rfl
theorem YN : ∀ tm : List a9, forget env 107 tm = aA [true, true, true, true, true, false, false, false, false, false, false, false, false, false, false, false, false] tm := fun _ => rfl
theorem Y1 : (env.funcs.find 109).i = K1.i := rfl
theorem Z3 : (env.funcs.find 109).f.beq 109 = true := rfl
theorem JQ : ∀ args : List a9, bT env (evalW env) 109 args = aZ env (evalW env) 109 args := fun _ => rfl
theorem YL : ∀ tm : List a9, forget env 109 tm = aA [true, true, true, false, true, false, false, true, false, false, false, false, false, false, false, false, false, false, false, true, true, true, true, false, false, false, false, false, true, false] tm := fun _ => rfl
theorem Y0 : (env.funcs.find 111).i = K0.i := rfl
theorem Z2 : (env.funcs.find 111).f.beq 111 = true := rfl
theorem XM : ∀ args : List a9, bT env (evalW env) 111 args = aZ env (evalW env) 111 args := fun _ => rfl
theorem YK : ∀ tm : List a9, forget env 111 tm = aA [true, false, true, true, false, false, false] tm := fun _ => rfl
theorem XZ : (env.funcs.find 113).i = JZ.i := rfl
theorem Z1 : (env.funcs.find 113).f.beq 113 = true := rfl
theorem OU : ∀ args : List a9, bT env (evalW env) 113 args = aZ env (evalW env) 113 args := fun _ => rfl
theorem YJ : ∀ tm : List a9, forget env 113 tm = aA [true, true, false, true, false, true, true, false, true, false, false, true, true, true, true, false, false, false, false, false, false, false, false, false, false, false, false, false, false, false, false, false, false, false, false, false, false, false, false, false, false, false, false, false, false, false, false, false, false, false, false, false, false, false, false, false, false, false, false, false, false, false, false, true, false, false, false, true, true, true, true, false, false, false, false, false, false, false, false, false, false, false, false, false, false, false, false, false, false, true, false] tm := fun _ => rfl
theorem XY : (env.funcs.find 114).i = JY.i := rfl
theorem Z0 : (env.funcs.find 114).f.beq 114 = true := rfl
theorem XL : ∀ args : List a9, bT env (evalW env) 114 args = aZ env (evalW env) 114 args := fun _ => rfl
theorem YI : ∀ tm : List a9, forget env 114 tm = aA [true, true, true, false, false, false, true, true, true, true, true, true, false, false, false, false, false, true, false, false, false, false, false, false, false, false, false, false, false, false, false, true, false, false, false, false, false, false, false, false, false, false, false, false, false, false, false, false, false] tm := fun _ => rfl
theorem fi116 : (env.funcs.find 116).i = P0.i := rfl
theorem ff116 : (env.funcs.find 116).f.beq 116 = true := rfl
theorem XK : ∀ args : List a9, bT env (evalW env) 116 args = aZ env (evalW env) 116 args := fun _ => rfl
theorem YH : ∀ tm : List a9, forget env 116 tm = aA [true, true, false, false, false, false, false, false, false, false] tm := fun _ => rfl
theorem XX : (env.funcs.find 117).i = JX.i := rfl
theorem YZ : (env.funcs.find 117).f.beq 117 = true := rfl
theorem XJ : ∀ args : List a9, bT env (evalW env) 117 args = aZ env (evalW env) 117 args := fun _ => rfl
theorem YG : ∀ tm : List a9, forget env 117 tm = aA [true, true, true, true, true, false, false, false, false, false, false, false, false, false, false, false, false] tm := fun _ => rfl
theorem XW : (env.funcs.find 118).i = EI.i := rfl
theorem YY : (env.funcs.find 118).f.beq 118 = true := rfl
theorem XI : ∀ args : List a9, bT env (evalW env) 118 args = aZ env (evalW env) 118 args := fun _ => rfl
theorem YF : ∀ tm : List a9, forget env 118 tm = aA [true, true, false, false, true, true, true, false, false, false, false, true, true, true, false, false, true, false, false, true] tm := fun _ => rfl
theorem fi120 : (env.funcs.find 120).i = OZ.i := rfl
theorem ff120 : (env.funcs.find 120).f.beq 120 = true := rfl
theorem XH : ∀ args : List a9, bT env (evalW env) 120 args = aZ env (evalW env) 120 args := fun _ => rfl
theorem YE : ∀ tm : List a9, forget env 120 tm = aA [true, true, false, false, false, false, false, false, false, false, false, false, false, false] tm := fun _ => rfl
theorem XV : (env.funcs.find 121).i = EH.i := rfl
theorem YX : (env.funcs.find 121).f.beq 121 = true := rfl
theorem XG : ∀ args : List a9, bT env (evalW env) 121 args = aZ env (evalW env) 121 args := fun _ => rfl
theorem YD : ∀ tm : List a9, forget env 121 tm = aA [true, true, false, false, true, true, true, false, false, false, false, true, true, true, false, false, true, false, false, true] tm := fun _ => rfl
theorem XU : (env.funcs.find 122).i = JW.i := rfl
theorem YW : (env.funcs.find 122).f.beq 122 = true := rfl
theorem XF : ∀ args : List a9, bT env (evalW env) 122 args = aZ env (evalW env) 122 args := fun _ => rfl
theorem YC : ∀ tm : List a9, forget env 122 tm = aA [true, false, true, false, false, false] tm := fun _ => rfl
theorem fi123 : (env.funcs.find 123).i = OY.i := rfl
theorem ff123 : (env.funcs.find 123).f.beq 123 = true := rfl
theorem XE : ∀ args : List a9, bT env (evalW env) 123 args = aZ env (evalW env) 123 args := fun _ => rfl
theorem YB : ∀ tm : List a9, forget env 123 tm = aA [true, false, true, true, false, false, false, false, false, true, false, false, false, false, false, false, false, false, false, false, false, false, false, false, false, false, false, false] tm := fun _ => rfl
theorem XT : (env.funcs.find 124).i = JV.i := rfl
theorem YV : (env.funcs.find 124).f.beq 124 = true := rfl
theorem XD : ∀ args : List a9, bT env (evalW env) 124 args = aZ env (evalW env) 124 args := fun _ => rfl
theorem YA : ∀ tm : List a9, forget env 124 tm = aA [true, false, true, false, false, false] tm := fun _ => rfl
theorem T4 : ∀ args : List a9, bT env (evalW env) 20 args = Ins.yL args := fun _ => rfl
theorem JS : ∀ args : List a9, bT env (evalW env) 104 args = (sM 128 nD.i) args := fun _ => rfl
theorem JR : ∀ args : List a9, bT env (evalW env) 108 args = cZ args := fun _ => rfl
theorem JP : ∀ args : List a9, bT env (evalW env) 112 args = cZ args := fun _ => rfl
theorem JO : ∀ args : List a9, bT env (evalW env) 115 args = (gD 128) args := fun _ => rfl
theorem JN : ∀ args : List a9, bT env (evalW env) 119 args = cZ args := fun _ => rfl
theorem bl9s : ∀ ts l, cI env (9 :: ts) (.str l) = M.pure (.int .i64 (l.length : Nat)) := fun _ _ => rfl
theorem ZV : ∀ ts l, cI env (10 :: ts) (.str l) = M.pure (.int .i64 (l.length : Nat)) := fun _ _ => rfl
theorem LM : ∀ ts v, cI env (24 :: ts) v = M.pure (.int .i64 32) := fun _ _ => rfl
theorem LL : ∀ ts v, cI env (25 :: ts) v = M.pure (.int .i64 32) := fun _ _ => rfl
theorem LK : ∀ ts id off len cap sz, cI env (29 :: ts) (.sl id off len cap sz) = M.pure (.int .i64 (len : Nat)) := fun _ _ _ _ _ _ => rfl
theorem LJ : ∀ ts g sz off len, cI env (29 :: ts) (.isl g sz off len) = M.pure (.int .i64 (len : Nat)) := fun _ _ _ _ _ => rfl
theorem LI : ∀ ts, cI env (29 :: ts) .nils = M.pure (.int .i64 0) := fun _ => rfl
theorem LH : ∀ ts, cI env (29 :: ts) .emp = M.pure (.int .i64 0) := fun _ => rfl
theorem LG : ∀ ts id off len cap sz, cI env (43 :: ts) (.sl id off len cap sz) = M.pure (.int .i64 (len : Nat)) := fun _ _ _ _ _ _ => rfl
theorem LF : ∀ ts g sz off len, cI env (43 :: ts) (.isl g sz off len) = M.pure (.int .i64 (len : Nat)) := fun _ _ _ _ _ => rfl
theorem LD : ∀ ts, cI env (43 :: ts) .nils = M.pure (.int .i64 0) := fun _ => rfl
theorem LC : ∀ ts, cI env (43 :: ts) .emp = M.pure (.int .i64 0) := fun _ => rfl
theorem LB : ∀ ts id off len cap sz, cI env (44 :: ts) (.sl id off len cap sz) = M.pure (.int .i64 (len : Nat)) := fun _ _ _ _ _ _ => rfl
theorem LA : ∀ ts g sz off len, cI env (44 :: ts) (.isl g sz off len) = M.pure (.int .i64 (len : Nat)) := fun _ _ _ _ _ => rfl
theorem L9 : ∀ ts, cI env (44 :: ts) .nils = M.pure (.int .i64 0) := fun _ => rfl
theorem L8 : ∀ ts, cI env (44 :: ts) .emp = M.pure (.int .i64 0) := fun _ => rfl
theorem L7 : ∀ ts id off len cap sz, cI env (57 :: ts) (.sl id off len cap sz) = M.pure (.int .i64 (len : Nat)) := fun _ _ _ _ _ _ => rfl
theorem L6 : ∀ ts g sz off len, cI env (57 :: ts) (.isl g sz off len) = M.pure (.int .i64 (len : Nat)) := fun _ _ _ _ _ => rfl
theorem L5 : ∀ ts, cI env (57 :: ts) .nils = M.pure (.int .i64 0) := fun _ => rfl
theorem L4 : ∀ ts, cI env (57 :: ts) .emp = M.pure (.int .i64 0) := fun _ => rfl
theorem ZU : ∀ ts id off len cap sz, cI env (81 :: ts) (.sl id off len cap sz) = M.pure (.int .i64 (len : Nat)) := fun _ _ _ _ _ _ => rfl
theorem ZT : ∀ ts g sz off len, cI env (81 :: ts) (.isl g sz off len) = M.pure (.int .i64 (len : Nat)) := fun _ _ _ _ _ => rfl
theorem ZS : ∀ ts, cI env (81 :: ts) .nils = M.pure (.int .i64 0) := fun _ => rfl
theorem ZR : ∀ ts, cI env (81 :: ts) .emp = M.pure (.int .i64 0) := fun _ => rfl
theorem KZ : ∀ ts id off len cap sz, cI env (95 :: ts) (.sl id off len cap sz) = M.pure (.int .i64 (len : Nat)) := fun _ _ _ _ _ _ => rfl
theorem KY : ∀ ts g sz off len, cI env (95 :: ts) (.isl g sz off len) = M.pure (.int .i64 (len : Nat)) := fun _ _ _ _ _ => rfl
theorem KX : ∀ ts, cI env (95 :: ts) .nils = M.pure (.int .i64 0) := fun _ => rfl
theorem KW : ∀ ts, cI env (95 :: ts) .emp = M.pure (.int .i64 0) := fun _ => rfl
theorem V9 : ∀ ts id off len cap sz, cI env (101 :: ts) (.sl id off len cap sz) = M.pure (.int .i64 (len : Nat)) := fun _ _ _ _ _ _ => rfl
theorem V8 : ∀ ts g sz off len, cI env (101 :: ts) (.isl g sz off len) = M.pure (.int .i64 (len : Nat)) := fun _ _ _ _ _ => rfl
theorem V7 : ∀ ts, cI env (101 :: ts) .nils = M.pure (.int .i64 0) := fun _ => rfl
theorem V6 : ∀ ts, cI env (101 :: ts) .emp = M.pure (.int .i64 0) := fun _ => rfl
theorem V5 : ∀ ts id off len cap sz, cI env (147 :: ts) (.sl id off len cap sz) = M.pure (.int .i64 (len : Nat)) := fun _ _ _ _ _ _ => rfl
theorem V4 : ∀ ts g sz off len, cI env (147 :: ts) (.isl g sz off len) = M.pure (.int .i64 (len : Nat)) := fun _ _ _ _ _ => rfl
theorem V3 : ∀ ts, cI env (147 :: ts) .nils = M.pure (.int .i64 0) := fun _ => rfl
theorem V2 : ∀ ts, cI env (147 :: ts) .emp = M.pure (.int .i64 0) := fun _ => rfl
noncomputable def CY : Code := (bO (Try.f10.body.getD .skip)).getD 0 .skip
noncomputable def CX : Code := (bO (Try.f10.body.getD .skip)).getD 1 .skip
noncomputable def CW : Code := (bO (Try.f22.body.getD .skip)).getD 0 .skip
noncomputable def IB : Code := ((cS (Try.f25.body.getD .skip)).getD 0 (.skip, .skip)).1
noncomputable def I7 : Code := ((cS (Try.f25.body.getD .skip)).getD 0 (.skip, .skip)).2
noncomputable def CV : Code := (bO (Try.f35.body.getD .skip)).getD 0 .skip
noncomputable def IA : Code := ((cS (Try.f37.body.getD .skip)).getD 0 (.skip, .skip)).1
noncomputable def I6 : Code := ((cS (Try.f37.body.getD .skip)).getD 0 (.skip, .skip)).2
noncomputable def I9 : Code := ((cS (Try.f43.body.getD .skip)).getD 0 (.skip, .skip)).1
noncomputable def I5 : Code := ((cS (Try.f43.body.getD .skip)).getD 0 (.skip, .skip)).2
noncomputable def CU : Code := (bO (Try.f57.body.getD .skip)).getD 0 .skip
noncomputable def CT : Code := (bO (Try.f57.body.getD .skip)).getD 1 .skip
noncomputable def CS : Code := (bO (Try.f58.body.getD .skip)).getD 0 .skip
noncomputable def CR : Code := (bO (Try.f59.body.getD .skip)).getD 0 .skip
noncomputable def CQ : Code := (bO (Try.f60.body.getD .skip)).getD 0 .skip
noncomputable def lp63_0 : Code := (bO (Try.f63.body.getD .skip)).getD 0 .skip
noncomputable def I8 : Code := ((cS (Try.f67.body.getD .skip)).getD 0 (.skip, .skip)).1
noncomputable def I4 : Code := ((cS (Try.f67.body.getD .skip)).getD 0 (.skip, .skip)).2
noncomputable def CP : Code := (bO (Try.f69.body.getD .skip)).getD 0 .skip
noncomputable def CO : Code := (bO (Try.f69.body.getD .skip)).getD 1 .skip
noncomputable def CN : Code := (bO (Try.f74.body.getD .skip)).getD 0 .skip
noncomputable def CM : Code := (bO (Try.f87.body.getD .skip)).getD 0 .skip
noncomputable def CL : Code := (bO (Try.f96.body.getD .skip)).getD 0 .skip
noncomputable def zI : Code := (bO (Try.f102.body.getD .skip)).getD 0 .skip
noncomputable def E5 : Code := ((cS (Try.f106.body.getD .skip)).getD 0 (.skip, .skip)).1
noncomputable def E4 : Code := ((cS (Try.f106.body.getD .skip)).getD 0 (.skip, .skip)).2
noncomputable def zH : Code := (bO (Try.f109.body.getD .skip)).getD 0 .skip
noncomputable def zG : Code := (bO (Try.f113.body.getD .skip)).getD 0 .skip
noncomputable def zF : Code := (bO (Try.f113.body.getD .skip)).getD 1 .skip
noncomputable def uB : Code := (bO (Try.f114.body.getD .skip)).getD 0 .skip
noncomputable def lp123_0 : Code := (bO (Try.f123.body.getD .skip)).getD 0 .skip
def tyr := (And.intro ti2 (And.intro ti3 (And.intro ti4 (And.intro ti5 (And.intro ti9 (And.intro ti10 (And.intro FC (And.intro QD (And.intro mR (And.intro nH (And.intro QC (And.intro j3 (And.intro tK (And.intro QB (And.intro eX (And.intro FB (And.intro ti35 (And.intro ti37 (And.intro sG (And.intro CA (And.intro QA (And.intro lO (And.intro Q9 (And.intro wS (And.intro pV (And.intro qL (And.intro Q8 (And.intro HL (And.intro Q7 (And.intro gJ (And.intro ti67 (And.intro ti69 (And.intro ti74 (And.intro ti77 (And.intro ti81 (And.intro ti86 (And.intro ti87 (And.intro pJ (And.intro FA (And.intro Q6 (And.intro Q5 (And.intro Q4 (And.intro E0 (And.intro WN (And.intro WM (And.intro HP (And.intro sY (And.intro WL (And.intro WK (And.intro WJ (And.intro WI (And.intro WH (And.intro WG (And.intro WE (And.intro iL (And.intro HO (And.intro WD (And.intro WC (And.intro WB (And.intro WA (And.intro W9 (And.intro W8 (And.intro HN (And.intro W7 (And.intro HM W6)))))))))))))))))))))))))))))))))))))))))))))))))))))))))))))))))
def blr := (And.intro bl9s (And.intro ZV (And.intro LM (And.intro LL (And.intro LK (And.intro LJ (And.intro LI (And.intro LH (And.intro LG (And.intro LF (And.intro LD (And.intro LC (And.intro LB (And.intro LA (And.intro L9 (And.intro L8 (And.intro L7 (And.intro L6 (And.intro L5 (And.intro L4 (And.intro ZU (And.intro ZT (And.intro ZS (And.intro ZR (And.intro KZ (And.intro KY (And.intro KX (And.intro KW (And.intro V9 (And.intro V8 (And.intro V7 (And.intro V6 (And.intro V5 (And.intro V4 (And.intro V3 V2)))))))))))))))))))))))))))))))))))
def fgr := (And.intro fg10 (And.intro fg14 (And.intro fg16 (And.intro fg19 (And.intro fg22 (And.intro fg24 (And.intro fg25 (And.intro fg26 (And.intro fg27 (And.intro fg28 (And.intro fg32 (And.intro fg33 (And.intro fg34 (And.intro fg35 (And.intro fg36 (And.intro fg37 (And.intro fg38 (And.intro fg40 (And.intro fg41 (And.intro fg42 (And.intro fg43 (And.intro fg57 (And.intro fg58 (And.intro fg59 (And.intro fg60 (And.intro fg63 (And.intro UO (And.intro fg67 (And.intro fg68 (And.intro fg69 (And.intro fg70 (And.intro fg71 (And.intro fg72 (And.intro fg73 (And.intro fg74 (And.intro fg75 (And.intro fg76 (And.intro fg77 (And.intro fg78 (And.intro fg79 (And.intro fg80 (And.intro fg81 (And.intro fg82 (And.intro fg84 (And.intro fg85 (And.intro fg86 (And.intro fg87 (And.intro fg88 (And.intro fg89 (And.intro fg90 (And.intro fg96 (And.intro fg99 (And.intro YU (And.intro YT (And.intro YS (And.intro YR (And.intro YP (And.intro YO (And.intro YN (And.intro YL (And.intro YK (And.intro YJ (And.intro YI (And.intro YH (And.intro YG (And.intro YF (And.intro YE (And.intro YD (And.intro YC (And.intro YB (And.intro YA (And.intro SG (And.intro SF (And.intro SE (And.intro SD (And.intro SB (And.intro SA (And.intro S9 (And.intro S8 (And.intro S7 (And.intro S6 (And.intro S5 (And.intro S4 (And.intro S3 (And.intro S2 (And.intro S0 (And.intro RZ (And.intro RY (And.intro RW (And.intro RU (And.intro RT (And.intro RS (And.intro RR (And.intro RQ (And.intro RM (And.intro RK (And.intro RJ (And.intro CI (And.intro RI (And.intro RH (And.intro RG (And.intro RE (And.intro RD (And.intro RC (And.intro RA (And.intro R9 (And.intro R8 (And.intro R7 (And.intro R6 (And.intro R5 (And.intro R4 (And.intro R3 (And.intro R2 (And.intro R1 (And.intro R0 (And.intro QZ (And.intro QY (And.intro QX (And.intro QW (And.intro QV (And.intro QU (And.intro QT (And.intro QS (And.intro N9 (And.intro N8 (And.intro N7 (And.intro N6 (And.intro N4 (And.intro N3 (And.intro N2 (And.intro N0 (And.intro MZ (And.intro MY (And.intro MX (And.intro MW (And.intro MV (And.intro MU (And.intro MT (And.intro MS (And.intro MR (And.intro MQ MP)))))))))))))))))))))))))))))))))))))))))))))))))))))))))))))))))))))))))))))))))))))))))))))))))))))))))))))))))))))))))))))))))))))))))))))
def hkr := (And.intro hk10 (And.intro hk14 (And.intro hk16 (And.intro hk19 (And.intro hk22 (And.intro hk24 (And.intro hk25 (And.intro hk26 (And.intro hk27 (And.intro hk28 (And.intro hk32 (And.intro hk33 (And.intro hk34 (And.intro hk35 (And.intro hk36 (And.intro hk37 (And.intro hk38 (And.intro hk40 (And.intro hk41 (And.intro hk42 (And.intro hk43 (And.intro hk57 (And.intro hk58 (And.intro hk59 (And.intro hk60 (And.intro hk63 (And.intro T3 (And.intro hk67 (And.intro hk68 (And.intro hk69 (And.intro hk70 (And.intro hk71 (And.intro hk72 (And.intro hk73 (And.intro hk74 (And.intro hk75 (And.intro hk76 (And.intro hk77 (And.intro hk78 (And.intro hk79 (And.intro hk80 (And.intro hk81 (And.intro hk82 (And.intro hk84 (And.intro hk85 (And.intro hk86 (And.intro hk87 (And.intro hk88 (And.intro hk89 (And.intro hk90 (And.intro hk96 (And.intro hk99 (And.intro XR (And.intro XQ (And.intro OW (And.intro XP (And.intro XO (And.intro OV (And.intro XN (And.intro JQ (And.intro XM (And.intro OU (And.intro XL (And.intro XK (And.intro XJ (And.intro XI (And.intro XH (And.intro XG (And.intro XF (And.intro XE (And.intro XD (And.intro T4 (And.intro JS (And.intro JR (And.intro JP (And.intro JO JN))))))))))))))))))))))))))))))))))))))))))))))))))))))))))))))))))))))))))))
end Go.Am.Ytlgebaofkolkoaa
