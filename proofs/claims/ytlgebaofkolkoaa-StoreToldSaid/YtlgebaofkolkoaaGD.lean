/- What the statement reaches, gone through; and the abstract machine that goes through it. -/
import Derived.Test.YtlgebaofkolkoaaGC
import Derived.KernelRfl
import Derived.Test.YtlgebaofkolkoaaProg
set_option maxRecDepth 100000
set_option linter.defProp false
namespace Go.Am.Ytlgebaofkolkoaa
open Go Go.Am Go.Proofs
noncomputable def ty2 : TE Try.prog := ⟨2, ⟨Try.t2.desc, 1, 8, .int .i64 (0)⟩, ⟨⟨Try.t2, _, rfl, rfl, rfl, rfl, rfl⟩, rfl, rfl, Try.underlying2⟩⟩
noncomputable def ty3 : TE Try.prog := ⟨3, ⟨Try.t3.desc, 1, 8, .int .i64 (0)⟩, ⟨⟨Try.t3, _, rfl, rfl, rfl, rfl, rfl⟩, rfl, rfl, Try.underlying3⟩⟩
noncomputable def ty4 : TE Try.prog := ⟨4, ⟨Try.t4.desc, 1, 1, .bool false⟩, ⟨⟨Try.t4, _, rfl, rfl, rfl, rfl, rfl⟩, rfl, rfl, Try.underlying4⟩⟩
noncomputable def ty5 : TE Try.prog := ⟨5, ⟨Try.t5.desc, 1, 1, .int .u8 (0)⟩, ⟨⟨Try.t5, _, rfl, rfl, rfl, rfl, rfl⟩, rfl, rfl, Try.underlying5⟩⟩
noncomputable def ty9 : TE Try.prog := ⟨9, ⟨Try.t9.desc, 1, 16, .str []⟩, ⟨⟨Try.t9, _, rfl, rfl, rfl, rfl, rfl⟩, rfl, rfl, Try.underlying9⟩⟩
noncomputable def ty12 : TE Try.prog := ⟨12, ⟨Try.t12.desc, 1, 8, .int .u64 (0)⟩, ⟨⟨Try.t12, _, rfl, rfl, rfl, rfl, rfl⟩, rfl, rfl, Try.underlying12⟩⟩
noncomputable def ty21 : TE Try.prog := ⟨21, ⟨Try.t21.desc, 1, 4, .int .i32 (0)⟩, ⟨⟨Try.t21, _, rfl, rfl, rfl, rfl, rfl⟩, rfl, rfl, Try.underlying21⟩⟩
noncomputable def QZ : TE Try.prog := ⟨22, ⟨Try.t22.desc, 1, 8, .eZ⟩, ⟨⟨Try.t22, _, rfl, rfl, rfl, rfl, rfl⟩, rfl, rfl, Try.underlying22⟩⟩
noncomputable def QY : TE Try.prog := ⟨24, ⟨Try.t24.desc, 32, 32, .agg [.int .u8 (0), .int .u8 (0), .int .u8 (0), .int .u8 (0), .int .u8 (0), .int .u8 (0), .int .u8 (0), .int .u8 (0), .int .u8 (0), .int .u8 (0), .int .u8 (0), .int .u8 (0), .int .u8 (0), .int .u8 (0), .int .u8 (0), .int .u8 (0), .int .u8 (0), .int .u8 (0), .int .u8 (0), .int .u8 (0), .int .u8 (0), .int .u8 (0), .int .u8 (0), .int .u8 (0), .int .u8 (0), .int .u8 (0), .int .u8 (0), .int .u8 (0), .int .u8 (0), .int .u8 (0), .int .u8 (0), .int .u8 (0)]⟩, ⟨⟨Try.t24, _, rfl, rfl, rfl, rfl, rfl⟩, rfl, rfl, Try.underlying24⟩⟩
noncomputable def QX : TE Try.prog := ⟨25, ⟨Try.t24.desc, 32, 32, .agg [.int .u8 (0), .int .u8 (0), .int .u8 (0), .int .u8 (0), .int .u8 (0), .int .u8 (0), .int .u8 (0), .int .u8 (0), .int .u8 (0), .int .u8 (0), .int .u8 (0), .int .u8 (0), .int .u8 (0), .int .u8 (0), .int .u8 (0), .int .u8 (0), .int .u8 (0), .int .u8 (0), .int .u8 (0), .int .u8 (0), .int .u8 (0), .int .u8 (0), .int .u8 (0), .int .u8 (0), .int .u8 (0), .int .u8 (0), .int .u8 (0), .int .u8 (0), .int .u8 (0), .int .u8 (0), .int .u8 (0), .int .u8 (0)]⟩, ⟨⟨Try.t25, _, rfl, rfl, rfl, rfl, rfl⟩, rfl, rfl, Try.underlying25⟩⟩
noncomputable def QW : TE Try.prog := ⟨26, ⟨Try.t26.desc, 1, 4, .int .u32 (0)⟩, ⟨⟨Try.t26, _, rfl, rfl, rfl, rfl, rfl⟩, rfl, rfl, Try.underlying26⟩⟩
noncomputable def QV : TE Try.prog := ⟨27, ⟨Try.t27.desc, 33, 36, .agg [.int .u8 (0), .int .u8 (0), .int .u8 (0), .int .u8 (0), .int .u8 (0), .int .u8 (0), .int .u8 (0), .int .u8 (0), .int .u8 (0), .int .u8 (0), .int .u8 (0), .int .u8 (0), .int .u8 (0), .int .u8 (0), .int .u8 (0), .int .u8 (0), .int .u8 (0), .int .u8 (0), .int .u8 (0), .int .u8 (0), .int .u8 (0), .int .u8 (0), .int .u8 (0), .int .u8 (0), .int .u8 (0), .int .u8 (0), .int .u8 (0), .int .u8 (0), .int .u8 (0), .int .u8 (0), .int .u8 (0), .int .u8 (0), .int .u32 (0)]⟩, ⟨⟨Try.t27, _, rfl, rfl, rfl, rfl, rfl⟩, rfl, rfl, Try.underlying27⟩⟩
noncomputable def G0 : TE Try.prog := ⟨28, ⟨Try.t27.desc, 33, 36, .agg [.int .u8 (0), .int .u8 (0), .int .u8 (0), .int .u8 (0), .int .u8 (0), .int .u8 (0), .int .u8 (0), .int .u8 (0), .int .u8 (0), .int .u8 (0), .int .u8 (0), .int .u8 (0), .int .u8 (0), .int .u8 (0), .int .u8 (0), .int .u8 (0), .int .u8 (0), .int .u8 (0), .int .u8 (0), .int .u8 (0), .int .u8 (0), .int .u8 (0), .int .u8 (0), .int .u8 (0), .int .u8 (0), .int .u8 (0), .int .u8 (0), .int .u8 (0), .int .u8 (0), .int .u8 (0), .int .u8 (0), .int .u8 (0), .int .u32 (0)]⟩, ⟨⟨Try.t28, _, rfl, rfl, rfl, rfl, rfl⟩, rfl, rfl, Try.underlying28⟩⟩
noncomputable def QU : TE Try.prog := ⟨29, ⟨Try.t29.desc, 1, 24, .aV⟩, ⟨⟨Try.t29, _, rfl, rfl, rfl, rfl, rfl⟩, rfl, rfl, Try.underlying29⟩⟩
noncomputable def QT : TE Try.prog := ⟨30, ⟨Try.t30.desc, 70, 128, .agg [.int .u8 (0), .int .u8 (0), .int .u8 (0), .int .u8 (0), .int .u8 (0), .int .u8 (0), .int .u8 (0), .int .u8 (0), .int .u8 (0), .int .u8 (0), .int .u8 (0), .int .u8 (0), .int .u8 (0), .int .u8 (0), .int .u8 (0), .int .u8 (0), .int .u8 (0), .int .u8 (0), .int .u8 (0), .int .u8 (0), .int .u8 (0), .int .u8 (0), .int .u8 (0), .int .u8 (0), .int .u8 (0), .int .u8 (0), .int .u8 (0), .int .u8 (0), .int .u8 (0), .int .u8 (0), .int .u8 (0), .int .u8 (0), .int .u32 (0), .int .i64 (0), .int .i64 (0), .aV, .bool false, .int .i64 (0), .int .u8 (0), .int .u8 (0), .int .u8 (0), .int .u8 (0), .int .u8 (0), .int .u8 (0), .int .u8 (0), .int .u8 (0), .int .u8 (0), .int .u8 (0), .int .u8 (0), .int .u8 (0), .int .u8 (0), .int .u8 (0), .int .u8 (0), .int .u8 (0), .int .u8 (0), .int .u8 (0), .int .u8 (0), .int .u8 (0), .int .u8 (0), .int .u8 (0), .int .u8 (0), .int .u8 (0), .int .u8 (0), .int .u8 (0), .int .u8 (0), .int .u8 (0), .int .u8 (0), .int .u8 (0), .int .u8 (0), .int .u8 (0)]⟩, ⟨⟨Try.t30, _, rfl, rfl, rfl, rfl, rfl⟩, rfl, rfl, Try.underlying30⟩⟩
noncomputable def fG : TE Try.prog := ⟨31, ⟨Try.t30.desc, 70, 128, .agg [.int .u8 (0), .int .u8 (0), .int .u8 (0), .int .u8 (0), .int .u8 (0), .int .u8 (0), .int .u8 (0), .int .u8 (0), .int .u8 (0), .int .u8 (0), .int .u8 (0), .int .u8 (0), .int .u8 (0), .int .u8 (0), .int .u8 (0), .int .u8 (0), .int .u8 (0), .int .u8 (0), .int .u8 (0), .int .u8 (0), .int .u8 (0), .int .u8 (0), .int .u8 (0), .int .u8 (0), .int .u8 (0), .int .u8 (0), .int .u8 (0), .int .u8 (0), .int .u8 (0), .int .u8 (0), .int .u8 (0), .int .u8 (0), .int .u32 (0), .int .i64 (0), .int .i64 (0), .aV, .bool false, .int .i64 (0), .int .u8 (0), .int .u8 (0), .int .u8 (0), .int .u8 (0), .int .u8 (0), .int .u8 (0), .int .u8 (0), .int .u8 (0), .int .u8 (0), .int .u8 (0), .int .u8 (0), .int .u8 (0), .int .u8 (0), .int .u8 (0), .int .u8 (0), .int .u8 (0), .int .u8 (0), .int .u8 (0), .int .u8 (0), .int .u8 (0), .int .u8 (0), .int .u8 (0), .int .u8 (0), .int .u8 (0), .int .u8 (0), .int .u8 (0), .int .u8 (0), .int .u8 (0), .int .u8 (0), .int .u8 (0), .int .u8 (0), .int .u8 (0)]⟩, ⟨⟨Try.t31, _, rfl, rfl, rfl, rfl, rfl⟩, rfl, rfl, Try.underlying31⟩⟩
noncomputable def ty32 : TE Try.prog := ⟨32, ⟨Try.t3.desc, 1, 8, .int .i64 (0)⟩, ⟨⟨Try.t32, _, rfl, rfl, rfl, rfl, rfl⟩, rfl, rfl, Try.underlying32⟩⟩
noncomputable def ty37 : TE Try.prog := ⟨37, ⟨Try.t37.desc, 1, 0, .tup [.aV, .int .i64 (0)]⟩, ⟨⟨Try.t37, _, rfl, rfl, rfl, rfl, rfl⟩, rfl, rfl, Try.underlying37⟩⟩
noncomputable def QS : TE Try.prog := ⟨43, ⟨Try.t43.desc, 1, 24, .aV⟩, ⟨⟨Try.t43, _, rfl, rfl, rfl, rfl, rfl⟩, rfl, rfl, Try.underlying43⟩⟩
noncomputable def QR : TE Try.prog := ⟨44, ⟨Try.t44.desc, 1, 24, .aV⟩, ⟨⟨Try.t44, _, rfl, rfl, rfl, rfl, rfl⟩, rfl, rfl, Try.underlying44⟩⟩
noncomputable def QQ : TE Try.prog := ⟨45, ⟨Try.t45.desc, 37, 104, .agg [.int .i64 (0), .int .u8 (0), .int .u8 (0), .int .u8 (0), .int .u8 (0), .int .u8 (0), .int .u8 (0), .int .u8 (0), .int .u8 (0), .int .u8 (0), .int .u8 (0), .int .u8 (0), .int .u8 (0), .int .u8 (0), .int .u8 (0), .int .u8 (0), .int .u8 (0), .int .u8 (0), .int .u8 (0), .int .u8 (0), .int .u8 (0), .int .u8 (0), .int .u8 (0), .int .u8 (0), .int .u8 (0), .int .u8 (0), .int .u8 (0), .int .u8 (0), .int .u8 (0), .int .u8 (0), .int .u8 (0), .int .u8 (0), .int .u8 (0), .aV, .aV, .int .i64 (0), .int .i64 (0)]⟩, ⟨⟨Try.t45, _, rfl, rfl, rfl, rfl, rfl⟩, rfl, rfl, Try.underlying45⟩⟩
noncomputable def QP : TE Try.prog := ⟨46, ⟨Try.t45.desc, 37, 104, .agg [.int .i64 (0), .int .u8 (0), .int .u8 (0), .int .u8 (0), .int .u8 (0), .int .u8 (0), .int .u8 (0), .int .u8 (0), .int .u8 (0), .int .u8 (0), .int .u8 (0), .int .u8 (0), .int .u8 (0), .int .u8 (0), .int .u8 (0), .int .u8 (0), .int .u8 (0), .int .u8 (0), .int .u8 (0), .int .u8 (0), .int .u8 (0), .int .u8 (0), .int .u8 (0), .int .u8 (0), .int .u8 (0), .int .u8 (0), .int .u8 (0), .int .u8 (0), .int .u8 (0), .int .u8 (0), .int .u8 (0), .int .u8 (0), .int .u8 (0), .aV, .aV, .int .i64 (0), .int .i64 (0)]⟩, ⟨⟨Try.t46, _, rfl, rfl, rfl, rfl, rfl⟩, rfl, rfl, Try.underlying46⟩⟩
noncomputable def QO : TE Try.prog := ⟨47, ⟨Try.t47.desc, 65, 68, .agg [.int .u8 (0), .int .u8 (0), .int .u8 (0), .int .u8 (0), .int .u8 (0), .int .u8 (0), .int .u8 (0), .int .u8 (0), .int .u8 (0), .int .u8 (0), .int .u8 (0), .int .u8 (0), .int .u8 (0), .int .u8 (0), .int .u8 (0), .int .u8 (0), .int .u8 (0), .int .u8 (0), .int .u8 (0), .int .u8 (0), .int .u8 (0), .int .u8 (0), .int .u8 (0), .int .u8 (0), .int .u8 (0), .int .u8 (0), .int .u8 (0), .int .u8 (0), .int .u8 (0), .int .u8 (0), .int .u8 (0), .int .u8 (0), .int .u32 (0), .int .u8 (0), .int .u8 (0), .int .u8 (0), .int .u8 (0), .int .u8 (0), .int .u8 (0), .int .u8 (0), .int .u8 (0), .int .u8 (0), .int .u8 (0), .int .u8 (0), .int .u8 (0), .int .u8 (0), .int .u8 (0), .int .u8 (0), .int .u8 (0), .int .u8 (0), .int .u8 (0), .int .u8 (0), .int .u8 (0), .int .u8 (0), .int .u8 (0), .int .u8 (0), .int .u8 (0), .int .u8 (0), .int .u8 (0), .int .u8 (0), .int .u8 (0), .int .u8 (0), .int .u8 (0), .int .u8 (0), .int .u8 (0)]⟩, ⟨⟨Try.t47, _, rfl, rfl, rfl, rfl, rfl⟩, rfl, rfl, Try.underlying47⟩⟩
noncomputable def zG : TE Try.prog := ⟨48, ⟨Try.t47.desc, 65, 68, .agg [.int .u8 (0), .int .u8 (0), .int .u8 (0), .int .u8 (0), .int .u8 (0), .int .u8 (0), .int .u8 (0), .int .u8 (0), .int .u8 (0), .int .u8 (0), .int .u8 (0), .int .u8 (0), .int .u8 (0), .int .u8 (0), .int .u8 (0), .int .u8 (0), .int .u8 (0), .int .u8 (0), .int .u8 (0), .int .u8 (0), .int .u8 (0), .int .u8 (0), .int .u8 (0), .int .u8 (0), .int .u8 (0), .int .u8 (0), .int .u8 (0), .int .u8 (0), .int .u8 (0), .int .u8 (0), .int .u8 (0), .int .u8 (0), .int .u32 (0), .int .u8 (0), .int .u8 (0), .int .u8 (0), .int .u8 (0), .int .u8 (0), .int .u8 (0), .int .u8 (0), .int .u8 (0), .int .u8 (0), .int .u8 (0), .int .u8 (0), .int .u8 (0), .int .u8 (0), .int .u8 (0), .int .u8 (0), .int .u8 (0), .int .u8 (0), .int .u8 (0), .int .u8 (0), .int .u8 (0), .int .u8 (0), .int .u8 (0), .int .u8 (0), .int .u8 (0), .int .u8 (0), .int .u8 (0), .int .u8 (0), .int .u8 (0), .int .u8 (0), .int .u8 (0), .int .u8 (0), .int .u8 (0)]⟩, ⟨⟨Try.t48, _, rfl, rfl, rfl, rfl, rfl⟩, rfl, rfl, Try.underlying48⟩⟩
noncomputable def ty49 : TE Try.prog := ⟨49, ⟨Try.t49.desc, 1, 8, .dI⟩, ⟨⟨Try.t49, _, rfl, rfl, rfl, rfl, rfl⟩, rfl, rfl, Try.underlying49⟩⟩
noncomputable def QN : TE Try.prog := ⟨56, ⟨Try.t56.desc, 1, 8, .eZ⟩, ⟨⟨Try.t56, _, rfl, rfl, rfl, rfl, rfl⟩, rfl, rfl, Try.underlying56⟩⟩
noncomputable def N2 : TE Try.prog := ⟨57, ⟨Try.t57.desc, 1, 24, .aV⟩, ⟨⟨Try.t57, _, rfl, rfl, rfl, rfl, rfl⟩, rfl, rfl, Try.underlying57⟩⟩
noncomputable def QM : TE Try.prog := ⟨58, ⟨Try.t58.desc, 2, 32, .agg [.eZ, .aV]⟩, ⟨⟨Try.t58, _, rfl, rfl, rfl, rfl, rfl⟩, rfl, rfl, Try.underlying58⟩⟩
noncomputable def QL : TE Try.prog := ⟨59, ⟨Try.t58.desc, 2, 32, .agg [.eZ, .aV]⟩, ⟨⟨Try.t59, _, rfl, rfl, rfl, rfl, rfl⟩, rfl, rfl, Try.underlying59⟩⟩
noncomputable def QK : TE Try.prog := ⟨60, ⟨Try.t60.desc, 37, 72, .agg [.int .i64 (0), .int .u8 (0), .int .u8 (0), .int .u8 (0), .int .u8 (0), .int .u8 (0), .int .u8 (0), .int .u8 (0), .int .u8 (0), .int .u8 (0), .int .u8 (0), .int .u8 (0), .int .u8 (0), .int .u8 (0), .int .u8 (0), .int .u8 (0), .int .u8 (0), .int .u8 (0), .int .u8 (0), .int .u8 (0), .int .u8 (0), .int .u8 (0), .int .u8 (0), .int .u8 (0), .int .u8 (0), .int .u8 (0), .int .u8 (0), .int .u8 (0), .int .u8 (0), .int .u8 (0), .int .u8 (0), .int .u8 (0), .int .u8 (0), .int .i64 (0), .int .i64 (0), .int .i64 (0), .int .i64 (0)]⟩, ⟨⟨Try.t60, _, rfl, rfl, rfl, rfl, rfl⟩, rfl, rfl, Try.underlying60⟩⟩
noncomputable def sW : TE Try.prog := ⟨61, ⟨Try.t60.desc, 37, 72, .agg [.int .i64 (0), .int .u8 (0), .int .u8 (0), .int .u8 (0), .int .u8 (0), .int .u8 (0), .int .u8 (0), .int .u8 (0), .int .u8 (0), .int .u8 (0), .int .u8 (0), .int .u8 (0), .int .u8 (0), .int .u8 (0), .int .u8 (0), .int .u8 (0), .int .u8 (0), .int .u8 (0), .int .u8 (0), .int .u8 (0), .int .u8 (0), .int .u8 (0), .int .u8 (0), .int .u8 (0), .int .u8 (0), .int .u8 (0), .int .u8 (0), .int .u8 (0), .int .u8 (0), .int .u8 (0), .int .u8 (0), .int .u8 (0), .int .u8 (0), .int .i64 (0), .int .i64 (0), .int .i64 (0), .int .i64 (0)]⟩, ⟨⟨Try.t61, _, rfl, rfl, rfl, rfl, rfl⟩, rfl, rfl, Try.underlying61⟩⟩
noncomputable def ty67 : TE Try.prog := ⟨67, ⟨Try.t67.desc, 1, 8, .dI⟩, ⟨⟨Try.t67, _, rfl, rfl, rfl, rfl, rfl⟩, rfl, rfl, Try.underlying67⟩⟩
noncomputable def ty69 : TE Try.prog := ⟨69, ⟨Try.t69.desc, 1, 8, .dI⟩, ⟨⟨Try.t69, _, rfl, rfl, rfl, rfl, rfl⟩, rfl, rfl, Try.underlying69⟩⟩
noncomputable def ty74 : TE Try.prog := ⟨74, ⟨Try.t74.desc, 1, 8, .dI⟩, ⟨⟨Try.t74, _, rfl, rfl, rfl, rfl, rfl⟩, rfl, rfl, Try.underlying74⟩⟩
noncomputable def ty77 : TE Try.prog := ⟨77, ⟨Try.t77.desc, 1, 8, .dI⟩, ⟨⟨Try.t77, _, rfl, rfl, rfl, rfl, rfl⟩, rfl, rfl, Try.underlying77⟩⟩
noncomputable def ty81 : TE Try.prog := ⟨81, ⟨Try.t81.desc, 1, 24, .aV⟩, ⟨⟨Try.t81, _, rfl, rfl, rfl, rfl, rfl⟩, rfl, rfl, Try.underlying81⟩⟩
noncomputable def ty86 : TE Try.prog := ⟨86, ⟨Try.t86.desc, 1, 24, .agg [.aV]⟩, ⟨⟨Try.t86, _, rfl, rfl, rfl, rfl, rfl⟩, rfl, rfl, Try.underlying86⟩⟩
noncomputable def ty87 : TE Try.prog := ⟨87, ⟨Try.t86.desc, 1, 24, .agg [.aV]⟩, ⟨⟨Try.t87, _, rfl, rfl, rfl, rfl, rfl⟩, rfl, rfl, Try.underlying87⟩⟩
noncomputable def QJ : TE Try.prog := ⟨95, ⟨Try.t95.desc, 1, 24, .aV⟩, ⟨⟨Try.t95, _, rfl, rfl, rfl, rfl, rfl⟩, rfl, rfl, Try.underlying95⟩⟩
noncomputable def QI : TE Try.prog := ⟨96, ⟨Try.t96.desc, 1, 8, .dI⟩, ⟨⟨Try.t96, _, rfl, rfl, rfl, rfl, rfl⟩, rfl, rfl, Try.underlying96⟩⟩
noncomputable def QH : TE Try.prog := ⟨97, ⟨Try.t97.desc, 2, 32, .agg [.aV, .dI]⟩, ⟨⟨Try.t97, _, rfl, rfl, rfl, rfl, rfl⟩, rfl, rfl, Try.underlying97⟩⟩
noncomputable def QG : TE Try.prog := ⟨98, ⟨Try.t97.desc, 2, 32, .agg [.aV, .dI]⟩, ⟨⟨Try.t98, _, rfl, rfl, rfl, rfl, rfl⟩, rfl, rfl, Try.underlying98⟩⟩
noncomputable def QF : TE Try.prog := ⟨99, ⟨Try.t99.desc, 5, 72, .agg [.bool false, .aV, .dI, .aV, .dI]⟩, ⟨⟨Try.t99, _, rfl, rfl, rfl, rfl, rfl⟩, rfl, rfl, Try.underlying99⟩⟩
noncomputable def I6 : TE Try.prog := ⟨100, ⟨Try.t99.desc, 5, 72, .agg [.bool false, .aV, .dI, .aV, .dI]⟩, ⟨⟨Try.t100, _, rfl, rfl, rfl, rfl, rfl⟩, rfl, rfl, Try.underlying100⟩⟩
noncomputable def XC : TE Try.prog := ⟨101, ⟨Try.t101.desc, 1, 24, .aV⟩, ⟨⟨Try.t101, _, rfl, rfl, rfl, rfl, rfl⟩, rfl, rfl, Try.underlying101⟩⟩
noncomputable def XB : TE Try.prog := ⟨102, ⟨Try.t102.desc, 1, 8, .dI⟩, ⟨⟨Try.t102, _, rfl, rfl, rfl, rfl, rfl⟩, rfl, rfl, Try.underlying102⟩⟩
noncomputable def I5 : TE Try.prog := ⟨104, ⟨Try.t104.desc, 40, 128, .agg [.int .i64 (0), .int .i64 (0), .int .u8 (0), .int .u8 (0), .int .u8 (0), .int .u8 (0), .int .u8 (0), .int .u8 (0), .int .u8 (0), .int .u8 (0), .int .u8 (0), .int .u8 (0), .int .u8 (0), .int .u8 (0), .int .u8 (0), .int .u8 (0), .int .u8 (0), .int .u8 (0), .int .u8 (0), .int .u8 (0), .int .u8 (0), .int .u8 (0), .int .u8 (0), .int .u8 (0), .int .u8 (0), .int .u8 (0), .int .u8 (0), .int .u8 (0), .int .u8 (0), .int .u8 (0), .int .u8 (0), .int .u8 (0), .int .u8 (0), .int .u8 (0), .aV, .aV, .int .i64 (0), .int .i64 (0), .bool false, .int .i64 (0)]⟩, ⟨⟨Try.t104, _, rfl, rfl, rfl, rfl, rfl⟩, rfl, rfl, Try.underlying104⟩⟩
noncomputable def XA : TE Try.prog := ⟨105, ⟨Try.t104.desc, 40, 128, .agg [.int .i64 (0), .int .i64 (0), .int .u8 (0), .int .u8 (0), .int .u8 (0), .int .u8 (0), .int .u8 (0), .int .u8 (0), .int .u8 (0), .int .u8 (0), .int .u8 (0), .int .u8 (0), .int .u8 (0), .int .u8 (0), .int .u8 (0), .int .u8 (0), .int .u8 (0), .int .u8 (0), .int .u8 (0), .int .u8 (0), .int .u8 (0), .int .u8 (0), .int .u8 (0), .int .u8 (0), .int .u8 (0), .int .u8 (0), .int .u8 (0), .int .u8 (0), .int .u8 (0), .int .u8 (0), .int .u8 (0), .int .u8 (0), .int .u8 (0), .int .u8 (0), .aV, .aV, .int .i64 (0), .int .i64 (0), .bool false, .int .i64 (0)]⟩, ⟨⟨Try.t105, _, rfl, rfl, rfl, rfl, rfl⟩, rfl, rfl, Try.underlying105⟩⟩
noncomputable def X9 : TE Try.prog := ⟨106, ⟨Try.t106.desc, 1, 8, .dI⟩, ⟨⟨Try.t106, _, rfl, rfl, rfl, rfl, rfl⟩, rfl, rfl, Try.underlying106⟩⟩
noncomputable def X8 : TE Try.prog := ⟨109, ⟨Try.t109.desc, 1, 8, .dI⟩, ⟨⟨Try.t109, _, rfl, rfl, rfl, rfl, rfl⟩, rfl, rfl, Try.underlying109⟩⟩
noncomputable def X7 : TE Try.prog := ⟨113, ⟨Try.t113.desc, 1, 8, .dI⟩, ⟨⟨Try.t113, _, rfl, rfl, rfl, rfl, rfl⟩, rfl, rfl, Try.underlying113⟩⟩
noncomputable def X6 : TE Try.prog := ⟨114, ⟨Try.t114.desc, 1, 8, .dI⟩, ⟨⟨Try.t114, _, rfl, rfl, rfl, rfl, rfl⟩, rfl, rfl, Try.underlying114⟩⟩
noncomputable def X5 : TE Try.prog := ⟨120, ⟨Try.t120.desc, 1, 8, .int .u64 (0)⟩, ⟨⟨Try.t120, _, rfl, rfl, rfl, rfl, rfl⟩, rfl, rfl, Try.underlying120⟩⟩
noncomputable def X4 : TE Try.prog := ⟨124, ⟨Try.t124.desc, 1, 8, .dI⟩, ⟨⟨Try.t124, _, rfl, rfl, rfl, rfl, rfl⟩, rfl, rfl, Try.underlying124⟩⟩
noncomputable def X3 : TE Try.prog := ⟨125, ⟨Try.t124.desc, 1, 8, .dI⟩, ⟨⟨Try.t125, _, rfl, rfl, rfl, rfl, rfl⟩, rfl, rfl, Try.underlying125⟩⟩
noncomputable def nX : TE Try.prog := ⟨128, ⟨Try.t128.desc, 1, 8, .eZ⟩, ⟨⟨Try.t128, _, rfl, rfl, rfl, rfl, rfl⟩, rfl, rfl, Try.underlying128⟩⟩
noncomputable def X2 : TE Try.prog := ⟨129, ⟨Try.t129.desc, 1, 8, .dI⟩, ⟨⟨Try.t129, _, rfl, rfl, rfl, rfl, rfl⟩, rfl, rfl, Try.underlying129⟩⟩
noncomputable def X1 : TE Try.prog := ⟨134, ⟨Try.t134.desc, 1, 8, .dI⟩, ⟨⟨Try.t134, _, rfl, rfl, rfl, rfl, rfl⟩, rfl, rfl, Try.underlying134⟩⟩
noncomputable def X0 : TE Try.prog := ⟨135, ⟨Try.t134.desc, 1, 8, .dI⟩, ⟨⟨Try.t135, _, rfl, rfl, rfl, rfl, rfl⟩, rfl, rfl, Try.underlying135⟩⟩
noncomputable def WZ : TE Try.prog := ⟨147, ⟨Try.t147.desc, 1, 24, .aV⟩, ⟨⟨Try.t147, _, rfl, rfl, rfl, rfl, rfl⟩, rfl, rfl, Try.underlying147⟩⟩
noncomputable def WY : TE Try.prog := ⟨150, ⟨Try.t150.desc, 1, 8, .dI⟩, ⟨⟨Try.t150, _, rfl, rfl, rfl, rfl, rfl⟩, rfl, rfl, Try.underlying150⟩⟩
noncomputable def WX : TE Try.prog := ⟨151, ⟨Try.t150.desc, 1, 8, .dI⟩, ⟨⟨Try.t151, _, rfl, rfl, rfl, rfl, rfl⟩, rfl, rfl, Try.underlying151⟩⟩
noncomputable def WW : TE Try.prog := ⟨153, ⟨Try.t153.desc, 1, 8, .dI⟩, ⟨⟨Try.t153, _, rfl, rfl, rfl, rfl, rfl⟩, rfl, rfl, Try.underlying153⟩⟩
noncomputable def WV : TE Try.prog := ⟨156, ⟨Try.t156.desc, 1, 8, .eZ⟩, ⟨⟨Try.t156, _, rfl, rfl, rfl, rfl, rfl⟩, rfl, rfl, Try.underlying156⟩⟩
noncomputable def WU : TE Try.prog := ⟨160, ⟨Try.t160.desc, 1, 8, .dI⟩, ⟨⟨Try.t160, _, rfl, rfl, rfl, rfl, rfl⟩, rfl, rfl, Try.underlying160⟩⟩
noncomputable def I4 : TE Try.prog := ⟨161, ⟨Try.t161.desc, 1, 8, .mT⟩, ⟨⟨Try.t161, _, rfl, rfl, rfl, rfl, rfl⟩, rfl, rfl, Try.underlying161⟩⟩
noncomputable def WT : TE Try.prog := ⟨166, ⟨Try.t166.desc, 1, 8, .int .u64 (0)⟩, ⟨⟨Try.t166, _, rfl, rfl, rfl, rfl, rfl⟩, rfl, rfl, Try.underlying166⟩⟩
noncomputable def VP : FE Try.prog := ⟨12, ⟨Try.f12.body.getD .skip, 139, [.tmp 4], some (rle true [2, 2, 4, 1, 8, 7, 1, 5, 1, 8, 4, 24, 1, 2, 1, 6, 1, 31, 1, 3, 1, 22, 1, 2])⟩, ⟨⟨Try.f12, Try.func12, rfl, rfl, rfl⟩, Try.call12⟩⟩
noncomputable def VO : FE Try.prog := ⟨14, ⟨Try.f14.body.getD .skip, 38, [.tmp 0], some (rle true [4, 32, 1, 1])⟩, ⟨⟨Try.f14, Try.func14, rfl, rfl, rfl⟩, Try.call14⟩⟩
noncomputable def VN : FE Try.prog := ⟨15, ⟨Try.f15.body.getD .skip, 37, [.cell 6 31, .tmp 7, .tmp 8], some (rle true [3, 1, 1, 1, 3, 1, 3, 7, 1, 16])⟩, ⟨⟨Try.f15, Try.func15, rfl, rfl, rfl⟩, Try.call15⟩⟩
noncomputable def VM : FE Try.prog := ⟨16, ⟨Try.f16.body.getD .skip, 5, [.cell 2 28], some (rle true [1, 1, 1, 2])⟩, ⟨⟨Try.f16, Try.func16, rfl, rfl, rfl⟩, Try.call16⟩⟩
noncomputable def VK : FE Try.prog := ⟨19, ⟨Try.f19.body.getD .skip, 100, [.tmp 4], some (rle true [2, 1, 9, 2, 1, 51, 1, 33])⟩, ⟨⟨Try.f19, Try.func19, rfl, rfl, rfl⟩, Try.call19⟩⟩
noncomputable def VI : FE Try.prog := ⟨21, ⟨Try.f21.body.getD .skip, 45, [.tmp 6, .tmp 7], some (rle true [3, 1, 1, 1, 2, 1, 2, 1, 1, 7, 1, 6, 4, 5, 1, 8])⟩, ⟨⟨Try.f21, Try.func21, rfl, rfl, rfl⟩, Try.call21⟩⟩
noncomputable def VH : FE Try.prog := ⟨22, ⟨Try.f22.body.getD .skip, 75, [.tmp 4], some (rle true [2, 2, 2, 1, 2, 2, 1, 14, 4, 2, 1, 10, 1, 31])⟩, ⟨⟨Try.f22, Try.func22, rfl, rfl, rfl⟩, Try.call22⟩⟩
noncomputable def VG : FE Try.prog := ⟨24, ⟨Try.f24.body.getD .skip, 10, [.tmp 2], some (rle true [1, 1, 1, 1, 1, 5])⟩, ⟨⟨Try.f24, Try.func24, rfl, rfl, rfl⟩, Try.call24⟩⟩
noncomputable def VF : FE Try.prog := ⟨25, ⟨Try.f25.body.getD .skip, 22, [.cell 4 61, .tmp 5], some (rle true [2, 1, 6, 1, 1, 2, 2, 3, 1, 3])⟩, ⟨⟨Try.f25, Try.func25, rfl, rfl, rfl⟩, Try.call25⟩⟩
noncomputable def VE : FE Try.prog := ⟨26, ⟨Try.f26.body.getD .skip, 4, [.tmp 0], some (rle true [1, 3])⟩, ⟨⟨Try.f26, Try.func26, rfl, rfl, rfl⟩, Try.call26⟩⟩
noncomputable def VD : FE Try.prog := ⟨27, ⟨Try.f27.body.getD .skip, 52, [.tmp 0], some (rle true [8, 44])⟩, ⟨⟨Try.f27, Try.func27, rfl, rfl, rfl⟩, Try.call27⟩⟩
noncomputable def VC : FE Try.prog := ⟨32, ⟨Try.f32.body.getD .skip, 11, [.tmp 2], some (rle true [1, 1, 1, 1, 1, 6])⟩, ⟨⟨Try.f32, Try.func32, rfl, rfl, rfl⟩, Try.call32⟩⟩
noncomputable def VB : FE Try.prog := ⟨33, ⟨Try.f33.body.getD .skip, 49, [.tmp 4], some (rle true [2, 1, 4, 2, 1, 39])⟩, ⟨⟨Try.f33, Try.func33, rfl, rfl, rfl⟩, Try.call33⟩⟩
noncomputable def VA : FE Try.prog := ⟨34, ⟨Try.f34.body.getD .skip, 26, [.tmp 6], some (rle true [3, 1, 1, 1, 2, 1, 1, 5, 1, 10])⟩, ⟨⟨Try.f34, Try.func34, rfl, rfl, rfl⟩, Try.call34⟩⟩
noncomputable def V9 : FE Try.prog := ⟨36, ⟨Try.f36.body.getD .skip, 48, [.tmp 10], some (rle true [5, 1, 1, 2, 4, 1, 1, 21, 1, 11])⟩, ⟨⟨Try.f36, Try.func36, rfl, rfl, rfl⟩, Try.call36⟩⟩
noncomputable def V8 : FE Try.prog := ⟨37, ⟨Try.f37.body.getD .skip, 28, [.cell 6 31, .tmp 7], some (rle true [3, 1, 6, 2, 2, 5, 1, 2, 1, 5])⟩, ⟨⟨Try.f37, Try.func37, rfl, rfl, rfl⟩, Try.call37⟩⟩
noncomputable def V7 : FE Try.prog := ⟨38, ⟨Try.f38.body.getD .skip, 34, [.tmp 6], some (rle true [3, 1, 1, 1, 3, 1, 1, 12, 1, 10])⟩, ⟨⟨Try.f38, Try.func38, rfl, rfl, rfl⟩, Try.call38⟩⟩
noncomputable def V6 : FE Try.prog := ⟨40, ⟨Try.f40.body.getD .skip, 13, [.tmp 0], some (rle true [2, 11])⟩, ⟨⟨Try.f40, Try.func40, rfl, rfl, rfl⟩, Try.call40⟩⟩
noncomputable def V5 : FE Try.prog := ⟨41, ⟨Try.f41.body.getD .skip, 28, [.tmp 2], some (rle true [1, 1, 2, 1, 1, 22])⟩, ⟨⟨Try.f41, Try.func41, rfl, rfl, rfl⟩, Try.call41⟩⟩
noncomputable def V4 : FE Try.prog := ⟨42, ⟨Try.f42.body.getD .skip, 57, [.tmp 4], some (rle true [6, 51])⟩, ⟨⟨Try.f42, Try.func42, rfl, rfl, rfl⟩, Try.call42⟩⟩
noncomputable def V3 : FE Try.prog := ⟨43, ⟨Try.f43.body.getD .skip, 40, [.tmp 6], some (rle true [3, 1, 5, 1, 1, 7, 2, 6, 1, 4, 1, 8])⟩, ⟨⟨Try.f43, Try.func43, rfl, rfl, rfl⟩, Try.call43⟩⟩
noncomputable def V2 : FE Try.prog := ⟨49, ⟨Try.f49.body.getD .skip, 19, [.tmp 4], some (rle true [2, 1, 4, 2, 2, 8])⟩, ⟨⟨Try.f49, Try.func49, rfl, rfl, rfl⟩, Try.call49⟩⟩
noncomputable def V1 : FE Try.prog := ⟨57, ⟨Try.f57.body.getD .skip, 55, [.tmp 2], some (rle true [1, 1, 3, 2, 1, 1, 3, 18, 1, 6, 3, 12, 1, 2])⟩, ⟨⟨Try.f57, Try.func57, rfl, rfl, rfl⟩, Try.call57⟩⟩
noncomputable def V0 : FE Try.prog := ⟨58, ⟨Try.f58.body.getD .skip, 31, [.tmp 2], some (rle true [1, 1, 2, 1, 1, 1, 4, 3, 2, 7, 1, 7])⟩, ⟨⟨Try.f58, Try.func58, rfl, rfl, rfl⟩, Try.call58⟩⟩
noncomputable def UZ : FE Try.prog := ⟨59, ⟨Try.f59.body.getD .skip, 30, [.cell 4 46], some (rle true [3, 1, 3, 4, 1, 5, 3, 10])⟩, ⟨⟨Try.f59, Try.func59, rfl, rfl, rfl⟩, Try.call59⟩⟩
noncomputable def UY : FE Try.prog := ⟨60, ⟨Try.f60.body.getD .skip, 40, [.tmp 6, .tmp 7], some (rle true [3, 3, 2, 1, 2, 1, 1, 7, 1, 7, 4, 8])⟩, ⟨⟨Try.f60, Try.func60, rfl, rfl, rfl⟩, Try.call60⟩⟩
noncomputable def UX : FE Try.prog := ⟨62, ⟨Try.f62.body.getD .skip, 13, [.cell 4 31], some (rle true [3, 1, 1, 3, 1, 4])⟩, ⟨⟨Try.f62, Try.func62, rfl, rfl, rfl⟩, Try.call62⟩⟩
noncomputable def KO : FE Try.prog := ⟨63, ⟨Try.f63.body.getD .skip, 18, [.tmp 2], some (rle true [1, 1, 2, 1, 5, 4, 1, 3])⟩, ⟨⟨Try.f63, Try.func63, rfl, rfl, rfl⟩, Try.call63⟩⟩
noncomputable def DQ : FE Try.prog := ⟨66, ⟨Try.f66.body.getD .skip, 12, [.tmp 2], some (rle true [1, 1, 1, 9])⟩, ⟨⟨Try.f66, Try.func66, rfl, rfl, rfl⟩, Try.call66⟩⟩
noncomputable def UW : FE Try.prog := ⟨67, ⟨Try.f67.body.getD .skip, 43, [.tmp 2], some (rle true [4, 1, 1, 26, 1, 1, 1, 5, 1, 1, 1])⟩, ⟨⟨Try.f67, Try.func67, rfl, rfl, rfl⟩, Try.call67⟩⟩
noncomputable def UU : FE Try.prog := ⟨68, ⟨Try.f68.body.getD .skip, 22, [.cell 2 61], some (rle true [1, 1, 1, 5, 1, 13])⟩, ⟨⟨Try.f68, Try.func68, rfl, rfl, rfl⟩, Try.call68⟩⟩
noncomputable def UT : FE Try.prog := ⟨69, ⟨Try.f69.body.getD .skip, 88, [.tmp 8, .tmp 9], some (rle true [4, 2, 1, 1, 2, 1, 1, 1, 1, 1, 3, 1, 4, 20, 1, 7, 4, 25, 1, 7])⟩, ⟨⟨Try.f69, Try.func69, rfl, rfl, rfl⟩, Try.call69⟩⟩
noncomputable def US : FE Try.prog := ⟨70, ⟨Try.f70.body.getD .skip, 9, [.tmp 2], some (rle true [1, 1, 1, 6])⟩, ⟨⟨Try.f70, Try.func70, rfl, rfl, rfl⟩, Try.call70⟩⟩
noncomputable def UR : FE Try.prog := ⟨71, ⟨Try.f71.body.getD .skip, 8, [.tmp 2], some (rle true [1, 1, 1, 1, 1, 3])⟩, ⟨⟨Try.f71, Try.func71, rfl, rfl, rfl⟩, Try.call71⟩⟩
noncomputable def UQ : FE Try.prog := ⟨72, ⟨Try.f72.body.getD .skip, 4, [.tmp 2], some (rle true [3, 1])⟩, ⟨⟨Try.f72, Try.func72, rfl, rfl, rfl⟩, Try.call72⟩⟩
noncomputable def UP : FE Try.prog := ⟨73, ⟨Try.f73.body.getD .skip, 12, [.tmp 2], some (rle true [1, 1, 1, 9])⟩, ⟨⟨Try.f73, Try.func73, rfl, rfl, rfl⟩, Try.call73⟩⟩
noncomputable def UO : FE Try.prog := ⟨74, ⟨Try.f74.body.getD .skip, 26, [.tmp 4], some (rle true [2, 2, 2, 1, 5, 4, 1, 9])⟩, ⟨⟨Try.f74, Try.func74, rfl, rfl, rfl⟩, Try.call74⟩⟩
noncomputable def UN : FE Try.prog := ⟨75, ⟨Try.f75.body.getD .skip, 3, [.tmp 2], some (rle true [0, 2, 1])⟩, ⟨⟨Try.f75, Try.func75, rfl, rfl, rfl⟩, Try.call75⟩⟩
noncomputable def UM : FE Try.prog := ⟨76, ⟨Try.f76.body.getD .skip, 30, [.tmp 6], some (rle true [3, 1, 1, 1, 3, 12, 1, 8])⟩, ⟨⟨Try.f76, Try.func76, rfl, rfl, rfl⟩, Try.call76⟩⟩
noncomputable def UL : FE Try.prog := ⟨77, ⟨Try.f77.body.getD .skip, 8, [.cell 2 31], some (rle true [3, 5])⟩, ⟨⟨Try.f77, Try.func77, rfl, rfl, rfl⟩, Try.call77⟩⟩
noncomputable def UK : FE Try.prog := ⟨78, ⟨Try.f78.body.getD .skip, 23, [], some (rle true [2, 2, 1, 18])⟩, ⟨⟨Try.f78, Try.func78, rfl, rfl, rfl⟩, Try.call78⟩⟩
noncomputable def UJ : FE Try.prog := ⟨79, ⟨Try.f79.body.getD .skip, 23, [], some (rle true [2, 2, 1, 18])⟩, ⟨⟨Try.f79, Try.func79, rfl, rfl, rfl⟩, Try.call79⟩⟩
noncomputable def UI : FE Try.prog := ⟨80, ⟨Try.f80.body.getD .skip, 24, [], some (rle true [3, 2, 1, 18])⟩, ⟨⟨Try.f80, Try.func80, rfl, rfl, rfl⟩, Try.call80⟩⟩
noncomputable def UH : FE Try.prog := ⟨81, ⟨Try.f81.body.getD .skip, 6, [.tmp 4], some (rle true [5, 1])⟩, ⟨⟨Try.f81, Try.func81, rfl, rfl, rfl⟩, Try.call81⟩⟩
noncomputable def UG : FE Try.prog := ⟨82, ⟨Try.f82.body.getD .skip, 20, [.tmp 4], some (rle true [3, 1, 1, 15])⟩, ⟨⟨Try.f82, Try.func82, rfl, rfl, rfl⟩, Try.call82⟩⟩
noncomputable def UF : FE Try.prog := ⟨84, ⟨Try.f84.body.getD .skip, 12, [.tmp 4], some (rle true [2, 2, 1, 7])⟩, ⟨⟨Try.f84, Try.func84, rfl, rfl, rfl⟩, Try.call84⟩⟩
noncomputable def UE : FE Try.prog := ⟨85, ⟨Try.f85.body.getD .skip, 19, [.tmp 4], some (rle true [2, 2, 1, 14])⟩, ⟨⟨Try.f85, Try.func85, rfl, rfl, rfl⟩, Try.call85⟩⟩
noncomputable def UD : FE Try.prog := ⟨86, ⟨Try.f86.body.getD .skip, 8, [.tmp 2], some (rle true [1, 1, 1, 1, 1, 3])⟩, ⟨⟨Try.f86, Try.func86, rfl, rfl, rfl⟩, Try.call86⟩⟩
noncomputable def UC : FE Try.prog := ⟨87, ⟨Try.f87.body.getD .skip, 38, [.tmp 4], some (rle true [6, 1, 1, 10, 1, 8, 1, 4, 1, 4, 1])⟩, ⟨⟨Try.f87, Try.func87, rfl, rfl, rfl⟩, Try.call87⟩⟩
noncomputable def UB : FE Try.prog := ⟨88, ⟨Try.f88.body.getD .skip, 6, [.tmp 4], some (rle true [5, 1])⟩, ⟨⟨Try.f88, Try.func88, rfl, rfl, rfl⟩, Try.call88⟩⟩
noncomputable def UA : FE Try.prog := ⟨89, ⟨Try.f89.body.getD .skip, 10, [.tmp 4], some (rle true [2, 2, 1, 5])⟩, ⟨⟨Try.f89, Try.func89, rfl, rfl, rfl⟩, Try.call89⟩⟩
noncomputable def U9 : FE Try.prog := ⟨90, ⟨Try.f90.body.getD .skip, 8, [.tmp 2], some (rle true [1, 1, 1, 1, 1, 3])⟩, ⟨⟨Try.f90, Try.func90, rfl, rfl, rfl⟩, Try.call90⟩⟩
noncomputable def U8 : FE Try.prog := ⟨96, ⟨Try.f96.body.getD .skip, 38, [.cell 2 46], some (rle true [6, 7, 1, 24])⟩, ⟨⟨Try.f96, Try.func96, rfl, rfl, rfl⟩, Try.call96⟩⟩
noncomputable def OP : FE Try.prog := ⟨99, ⟨Try.f99.body.getD .skip, 9, [.tmp 2], some (rle true [1, 1, 1, 6])⟩, ⟨⟨Try.f99, Try.func99, rfl, rfl, rfl⟩, Try.call99⟩⟩
noncomputable def FF : FE Try.prog := ⟨100, ⟨Try.f100.body.getD .skip, 9, [.tmp 2], some (rle true [1, 1, 1, 6])⟩, ⟨⟨Try.f100, Try.func100, rfl, rfl, rfl⟩, Try.call100⟩⟩
noncomputable def L6 : FE Try.prog := ⟨101, ⟨Try.f101.body.getD .skip, 4, [.tmp 2], some (rle true [3, 1])⟩, ⟨⟨Try.f101, Try.func101, rfl, rfl, rfl⟩, Try.call101⟩⟩
noncomputable def L5 : FE Try.prog := ⟨102, ⟨Try.f102.body.getD .skip, 23, [], some (rle true [2, 1, 1, 4, 3, 10, 1, 1])⟩, ⟨⟨Try.f102, Try.func102, rfl, rfl, rfl⟩, Try.call102⟩⟩
noncomputable def L4 : FE Try.prog := ⟨103, ⟨Try.f103.body.getD .skip, 18, [.tmp 4, .tmp 5], some (rle true [2, 2, 2, 12])⟩, ⟨⟨Try.f103, Try.func103, rfl, rfl, rfl⟩, Try.call103⟩⟩
noncomputable def KZ : FE Try.prog := ⟨105, ⟨Try.f105.body.getD .skip, 33, [.tmp 6], some (rle true [3, 3, 2, 8, 1, 16])⟩, ⟨⟨Try.f105, Try.func105, rfl, rfl, rfl⟩, Try.call105⟩⟩
noncomputable def KY : FE Try.prog := ⟨106, ⟨Try.f106.body.getD .skip, 27, [], some (rle true [5, 1, 1, 6, 2, 11, 1])⟩, ⟨⟨Try.f106, Try.func106, rfl, rfl, rfl⟩, Try.call106⟩⟩
noncomputable def KX : FE Try.prog := ⟨107, ⟨Try.f107.body.getD .skip, 17, [.tmp 4], some (rle true [5, 12])⟩, ⟨⟨Try.f107, Try.func107, rfl, rfl, rfl⟩, Try.call107⟩⟩
noncomputable def KV : FE Try.prog := ⟨109, ⟨Try.f109.body.getD .skip, 30, [], some (rle true [3, 1, 1, 2, 1, 11, 4, 5, 1, 1])⟩, ⟨⟨Try.f109, Try.func109, rfl, rfl, rfl⟩, Try.call109⟩⟩
noncomputable def KU : FE Try.prog := ⟨111, ⟨Try.f111.body.getD .skip, 7, [.tmp 2], some (rle true [1, 1, 2, 3])⟩, ⟨⟨Try.f111, Try.func111, rfl, rfl, rfl⟩, Try.call111⟩⟩
noncomputable def KT : FE Try.prog := ⟨113, ⟨Try.f113.body.getD .skip, 91, [], some (rle true [2, 1, 1, 1, 2, 1, 1, 2, 4, 48, 1, 3, 4, 18, 1, 1])⟩, ⟨⟨Try.f113, Try.func113, rfl, rfl, rfl⟩, Try.call113⟩⟩
noncomputable def KS : FE Try.prog := ⟨114, ⟨Try.f114.body.getD .skip, 49, [.tmp 6, .tmp 7], some (rle true [3, 3, 6, 5, 1, 13, 1, 17])⟩, ⟨⟨Try.f114, Try.func114, rfl, rfl, rfl⟩, Try.call114⟩⟩
noncomputable def PU : FE Try.prog := ⟨116, ⟨Try.f116.body.getD .skip, 10, [], some (rle true [2, 8])⟩, ⟨⟨Try.f116, Try.func116, rfl, rfl, rfl⟩, Try.call116⟩⟩
noncomputable def KR : FE Try.prog := ⟨117, ⟨Try.f117.body.getD .skip, 17, [.tmp 4], some (rle true [5, 12])⟩, ⟨⟨Try.f117, Try.func117, rfl, rfl, rfl⟩, Try.call117⟩⟩
noncomputable def FD : FE Try.prog := ⟨118, ⟨Try.f118.body.getD .skip, 20, [.tmp 4], some (rle true [2, 2, 3, 4, 3, 2, 1, 2, 1])⟩, ⟨⟨Try.f118, Try.func118, rfl, rfl, rfl⟩, Try.call118⟩⟩
noncomputable def PT : FE Try.prog := ⟨120, ⟨Try.f120.body.getD .skip, 14, [], some (rle true [2, 12])⟩, ⟨⟨Try.f120, Try.func120, rfl, rfl, rfl⟩, Try.call120⟩⟩
noncomputable def FC : FE Try.prog := ⟨121, ⟨Try.f121.body.getD .skip, 20, [.tmp 4], some (rle true [2, 2, 3, 4, 3, 2, 1, 2, 1])⟩, ⟨⟨Try.f121, Try.func121, rfl, rfl, rfl⟩, Try.call121⟩⟩
noncomputable def KQ : FE Try.prog := ⟨122, ⟨Try.f122.body.getD .skip, 6, [.tmp 2], some (rle true [1, 1, 1, 3])⟩, ⟨⟨Try.f122, Try.func122, rfl, rfl, rfl⟩, Try.call122⟩⟩
noncomputable def PS : FE Try.prog := ⟨123, ⟨Try.f123.body.getD .skip, 28, [], some (rle true [1, 1, 2, 5, 1, 18])⟩, ⟨⟨Try.f123, Try.func123, rfl, rfl, rfl⟩, Try.call123⟩⟩
noncomputable def KP : FE Try.prog := ⟨124, ⟨Try.f124.body.getD .skip, 6, [.tmp 2], some (rle true [1, 1, 1, 3])⟩, ⟨⟨Try.f124, Try.func124, rfl, rfl, rfl⟩, Try.call124⟩⟩
noncomputable def ho20 : tQ Try.prog := ⟨20, Ins.zB, Ins.XV⟩
noncomputable def YH : tQ Try.prog := ⟨104, (tF 128 nX.i), N9 Ins.N1 rfl⟩
noncomputable def YG : tQ Try.prog := ⟨108, dK, Ins.RI⟩
noncomputable def KE : tQ Try.prog := ⟨112, dK, lZ Try.func112 (by kernel_rfl) (by kernel_rfl) (by kernel_rfl) (by kernel_rfl)⟩
noncomputable def KD : tQ Try.prog := ⟨115, (gS 128), rF (tS := 95) (tR := 4) (e := 128) (size := 1) Try.func115 (by kernel_rfl) (by kernel_rfl) (by kernel_rfl) (by kernel_rfl) Try.underlying95 (fun w => nX.ok.dS) (fun h => TypeDesc.noConfusion (Option.some.inj (Try.underlying128.symm.trans h)))⟩
noncomputable def KC : tQ Try.prog := ⟨119, dK, lZ Try.func119 (by kernel_rfl) (by kernel_rfl) (by kernel_rfl) (by kernel_rfl)⟩
noncomputable def eqs : List (QE Try.prog) := [⟨25, by kernel_rfl, by kernel_rfl⟩, ⟨28, by kernel_rfl, by kernel_rfl⟩, ⟨61, by kernel_rfl, by kernel_rfl⟩]
noncomputable def env : Env := { P := Try.prog, mixed := by kernel_rfl, types := (.node 74 (.node 32 (.node 24 (.node 9 (.node 4 (.node 3 (.leaf ty2) (.leaf ty3)) (.node 5 (.leaf ty4) (.leaf ty5))) (.node 21 (.node 12 (.leaf ty9) (.leaf ty12)) (.node 22 (.leaf ty21) (.leaf QZ)))) (.node 28 (.node 26 (.node 25 (.leaf QY) (.leaf QX)) (.node 27 (.leaf QW) (.leaf QV))) (.node 30 (.node 29 (.leaf G0) (.leaf QU)) (.node 31 (.leaf QT) (.leaf fG))))) (.node 49 (.node 45 (.node 43 (.node 37 (.leaf ty32) (.leaf ty37)) (.node 44 (.leaf QS) (.leaf QR))) (.node 47 (.node 46 (.leaf QQ) (.leaf QP)) (.node 48 (.leaf QO) (.leaf zG)))) (.node 59 (.node 57 (.node 56 (.leaf ty49) (.leaf QN)) (.node 58 (.leaf N2) (.leaf QM))) (.node 61 (.node 60 (.leaf QL) (.leaf QK)) (.node 67 (.leaf sW) (.node 69 (.leaf ty67) (.leaf ty69))))))) (.node 113 (.node 98 (.node 87 (.node 81 (.node 77 (.leaf ty74) (.leaf ty77)) (.node 86 (.leaf ty81) (.leaf ty86))) (.node 96 (.node 95 (.leaf ty87) (.leaf QJ)) (.node 97 (.leaf QI) (.leaf QH)))) (.node 102 (.node 100 (.node 99 (.leaf QG) (.leaf QF)) (.node 101 (.leaf I6) (.leaf XC))) (.node 105 (.node 104 (.leaf XB) (.leaf I5)) (.node 106 (.leaf XA) (.node 109 (.leaf X9) (.leaf X8)))))) (.node 135 (.node 125 (.node 120 (.node 114 (.leaf X7) (.leaf X6)) (.node 124 (.leaf X5) (.leaf X4))) (.node 129 (.node 128 (.leaf X3) (.leaf nX)) (.node 134 (.leaf X2) (.leaf X1)))) (.node 153 (.node 150 (.node 147 (.leaf X0) (.leaf WZ)) (.node 151 (.leaf WY) (.leaf WX))) (.node 160 (.node 156 (.leaf WW) (.leaf WV)) (.node 161 (.leaf WU) (.node 166 (.leaf I4) (.leaf WT)))))))), funcs := (.node 74 (.node 41 (.node 26 (.node 19 (.node 15 (.node 14 (.leaf VP) (.leaf VO)) (.node 16 (.leaf VN) (.leaf VM))) (.node 22 (.node 21 (.leaf VK) (.leaf VI)) (.node 24 (.leaf VH) (.node 25 (.leaf VG) (.leaf VF))))) (.node 34 (.node 32 (.node 27 (.leaf VE) (.leaf VD)) (.node 33 (.leaf VC) (.leaf VB))) (.node 37 (.node 36 (.leaf VA) (.leaf V9)) (.node 38 (.leaf V8) (.node 40 (.leaf V7) (.leaf V6)))))) (.node 63 (.node 57 (.node 43 (.node 42 (.leaf V5) (.leaf V4)) (.node 49 (.leaf V3) (.leaf V2))) (.node 59 (.node 58 (.leaf V1) (.leaf V0)) (.node 60 (.leaf UZ) (.node 62 (.leaf UY) (.leaf UX))))) (.node 69 (.node 67 (.node 66 (.leaf KO) (.leaf DQ)) (.node 68 (.leaf UW) (.leaf UU))) (.node 71 (.node 70 (.leaf UT) (.leaf US)) (.node 72 (.leaf UR) (.node 73 (.leaf UQ) (.leaf UP))))))) (.node 100 (.node 84 (.node 78 (.node 76 (.node 75 (.leaf UO) (.leaf UN)) (.node 77 (.leaf UM) (.leaf UL))) (.node 80 (.node 79 (.leaf UK) (.leaf UJ)) (.node 81 (.leaf UI) (.node 82 (.leaf UH) (.leaf UG))))) (.node 88 (.node 86 (.node 85 (.leaf UF) (.leaf UE)) (.node 87 (.leaf UD) (.leaf UC))) (.node 90 (.node 89 (.leaf UB) (.leaf UA)) (.node 96 (.leaf U9) (.node 99 (.leaf U8) (.leaf OP)))))) (.node 113 (.node 105 (.node 102 (.node 101 (.leaf FF) (.leaf L6)) (.node 103 (.leaf L5) (.leaf L4))) (.node 107 (.node 106 (.leaf KZ) (.leaf KY)) (.node 109 (.leaf KX) (.node 111 (.leaf KV) (.leaf KU))))) (.node 120 (.node 116 (.node 114 (.leaf KT) (.leaf KS)) (.node 117 (.leaf PU) (.node 118 (.leaf KR) (.leaf FD)))) (.node 122 (.node 121 (.leaf PT) (.leaf FC)) (.node 123 (.leaf KQ) (.node 124 (.leaf PS) (.leaf KP)))))))), BJ := [ho20, YH, YG, KE, KD, KC], eqs := eqs, qP := [Ins.zN, Ins.rH] }
theorem TK : ∀ k, bV env.bW 12 k = true := fun _ => rfl
theorem TJ : ∀ k, bV env.bW 14 k = true := fun _ => rfl
theorem TG : ∀ k, bV env.bW 15 k = true := fun _ => rfl
theorem TF : ∀ k, bV env.bW 16 k = true := fun _ => rfl
theorem TD : ∀ k, bV env.bW 19 k = true := fun _ => rfl
theorem TB : ∀ k, bV env.bW 21 k = true := fun _ => rfl
theorem TA : ∀ k, bV env.bW 22 k = true := fun _ => rfl
theorem T9 : ∀ k, bV env.bW 24 k = true := fun _ => rfl
theorem T8 : ∀ k, bV env.bW 25 k = true := fun _ => rfl
theorem T7 : ∀ k, bV env.bW 26 k = true := fun _ => rfl
theorem T6 : ∀ k, bV env.bW 27 k = true := fun _ => rfl
theorem T5 : ∀ k, bV env.bW 32 k = true := fun _ => rfl
theorem T4 : ∀ k, bV env.bW 33 k = true := fun _ => rfl
theorem T3 : ∀ k, bV env.bW 34 k = true := fun _ => rfl
theorem T2 : ∀ k, bV env.bW 36 k = true := fun _ => rfl
theorem T1 : ∀ k, bV env.bW 37 k = true := fun _ => rfl
theorem T0 : ∀ k, bV env.bW 38 k = true := fun _ => rfl
theorem SZ : ∀ k, bV env.bW 40 k = true := fun _ => rfl
theorem SY : ∀ k, bV env.bW 41 k = true := fun _ => rfl
theorem SX : ∀ k, bV env.bW 42 k = true := fun _ => rfl
theorem SW : ∀ k, bV env.bW 43 k = true := fun _ => rfl
theorem SV : ∀ k, bV env.bW 49 k = true := fun _ => rfl
theorem SU : ∀ k, bV env.bW 57 k = true := fun _ => rfl
theorem SS : ∀ k, bV env.bW 58 k = true := fun _ => rfl
theorem SR : ∀ k, bV env.bW 59 k = true := fun _ => rfl
theorem SQ : ∀ k, bV env.bW 60 k = true := fun _ => rfl
theorem SP : ∀ k, bV env.bW 62 k = true := fun _ => rfl
theorem SO : ∀ k, bV env.bW 63 k = true := fun _ => rfl
theorem D7 : ∀ k, bV env.bW 66 k = true := fun _ => rfl
theorem SN : ∀ k, bV env.bW 67 k = true := fun _ => rfl
theorem SM : ∀ k, bV env.bW 68 k = true := fun _ => rfl
theorem SK : ∀ k, bV env.bW 69 k = true := fun _ => rfl
theorem SJ : ∀ k, bV env.bW 70 k = true := fun _ => rfl
theorem SI : ∀ k, bV env.bW 71 k = true := fun _ => rfl
theorem SH : ∀ k, bV env.bW 72 k = true := fun _ => rfl
theorem SG : ∀ k, bV env.bW 73 k = true := fun _ => rfl
theorem SF : ∀ k, bV env.bW 74 k = true := fun _ => rfl
theorem SE : ∀ k, bV env.bW 75 k = true := fun _ => rfl
theorem SD : ∀ k, bV env.bW 76 k = true := fun _ => rfl
theorem SC : ∀ k, bV env.bW 77 k = true := fun _ => rfl
theorem SB : ∀ k, bV env.bW 78 k = true := fun _ => rfl
theorem SA : ∀ k, bV env.bW 79 k = true := fun _ => rfl
theorem S9 : ∀ k, bV env.bW 80 k = true := fun _ => rfl
theorem S8 : ∀ k, bV env.bW 81 k = true := fun _ => rfl
theorem S7 : ∀ k, bV env.bW 82 k = true := fun _ => rfl
theorem S6 : ∀ k, bV env.bW 84 k = true := fun _ => rfl
theorem S5 : ∀ k, bV env.bW 85 k = true := fun _ => rfl
theorem S4 : ∀ k, bV env.bW 86 k = true := fun _ => rfl
theorem S3 : ∀ k, bV env.bW 87 k = true := fun _ => rfl
theorem S2 : ∀ k, bV env.bW 88 k = true := fun _ => rfl
theorem S0 : ∀ k, bV env.bW 89 k = true := fun _ => rfl
theorem RZ : ∀ k, bV env.bW 90 k = true := fun _ => rfl
theorem RY : ∀ k, bV env.bW 96 k = true := fun _ => rfl
theorem RW : ∀ k, bV env.bW 99 k = true := fun _ => rfl
theorem OA : ∀ k, bV env.bW 100 k = true := fun _ => rfl
theorem O9 : ∀ k, bV env.bW 101 k = true := fun _ => rfl
theorem O8 : ∀ k, bV env.bW 102 k = true := fun _ => rfl
theorem O7 : ∀ k, bV env.bW 103 k = true := fun _ => rfl
theorem O2 : ∀ k, bV env.bW 105 k = true := fun _ => rfl
theorem O0 : ∀ k, bV env.bW 106 k = true := fun _ => rfl
theorem NZ : ∀ k, bV env.bW 107 k = true := fun _ => rfl
theorem NX : ∀ k, bV env.bW 109 k = true := fun _ => rfl
theorem NW : ∀ k, bV env.bW 111 k = true := fun _ => rfl
theorem NV : ∀ k, bV env.bW 113 k = true := fun _ => rfl
theorem NU : ∀ k, bV env.bW 114 k = true := fun _ => rfl
theorem NT : ∀ k, bV env.bW 116 k = true := fun _ => rfl
theorem NS : ∀ k, bV env.bW 117 k = true := fun _ => rfl
theorem NR : ∀ k, bV env.bW 118 k = true := fun _ => rfl
theorem NQ : ∀ k, bV env.bW 120 k = true := fun _ => rfl
theorem NP : ∀ k, bV env.bW 121 k = true := fun _ => rfl
theorem NO : ∀ k, bV env.bW 122 k = true := fun _ => rfl
theorem NN : ∀ k, bV env.bW 123 k = true := fun _ => rfl
theorem NM : ∀ k, bV env.bW 124 k = true := fun _ => rfl
theorem ti2 : ti env 2 = M.pure ⟨Go.TypeDesc.int (Go.IntKind.i64), 1, 8, .int .i64 (0)⟩ := rfl
theorem ti3 : ti env 3 = M.pure ⟨Go.TypeDesc.int (Go.IntKind.i64), 1, 8, .int .i64 (0)⟩ := rfl
theorem ti4 : ti env 4 = M.pure ⟨Go.TypeDesc.bool, 1, 1, .bool false⟩ := rfl
theorem ti5 : ti env 5 = M.pure ⟨Go.TypeDesc.int (Go.IntKind.u8), 1, 1, .int .u8 (0)⟩ := rfl
theorem ti9 : ti env 9 = M.pure ⟨Go.TypeDesc.string, 1, 16, .str []⟩ := rfl
theorem ti12 : ti env 12 = M.pure ⟨Go.TypeDesc.int (Go.IntKind.u64), 1, 8, .int .u64 (0)⟩ := rfl
theorem ti21 : ti env 21 = M.pure ⟨Go.TypeDesc.int (Go.IntKind.i32), 1, 4, .int .i32 (0)⟩ := rfl
theorem G3 : ti env 22 = M.pure ⟨Go.TypeDesc.pointer 59, 1, 8, .eZ⟩ := rfl
theorem R9 : ti env 24 = M.pure ⟨Go.TypeDesc.array 32 5, 32, 32, .agg [.int .u8 (0), .int .u8 (0), .int .u8 (0), .int .u8 (0), .int .u8 (0), .int .u8 (0), .int .u8 (0), .int .u8 (0), .int .u8 (0), .int .u8 (0), .int .u8 (0), .int .u8 (0), .int .u8 (0), .int .u8 (0), .int .u8 (0), .int .u8 (0), .int .u8 (0), .int .u8 (0), .int .u8 (0), .int .u8 (0), .int .u8 (0), .int .u8 (0), .int .u8 (0), .int .u8 (0), .int .u8 (0), .int .u8 (0), .int .u8 (0), .int .u8 (0), .int .u8 (0), .int .u8 (0), .int .u8 (0), .int .u8 (0)]⟩ := rfl
theorem mM : ti env 25 = M.pure ⟨Go.TypeDesc.array 32 5, 32, 32, .agg [.int .u8 (0), .int .u8 (0), .int .u8 (0), .int .u8 (0), .int .u8 (0), .int .u8 (0), .int .u8 (0), .int .u8 (0), .int .u8 (0), .int .u8 (0), .int .u8 (0), .int .u8 (0), .int .u8 (0), .int .u8 (0), .int .u8 (0), .int .u8 (0), .int .u8 (0), .int .u8 (0), .int .u8 (0), .int .u8 (0), .int .u8 (0), .int .u8 (0), .int .u8 (0), .int .u8 (0), .int .u8 (0), .int .u8 (0), .int .u8 (0), .int .u8 (0), .int .u8 (0), .int .u8 (0), .int .u8 (0), .int .u8 (0)]⟩ := rfl
theorem oD : ti env 26 = M.pure ⟨Go.TypeDesc.int (Go.IntKind.u32), 1, 4, .int .u32 (0)⟩ := rfl
theorem R8 : ti env 27 = M.pure ⟨Go.TypeDesc.struct #[⟨"Tx", 25, 0, false, "", "", 0⟩, ⟨"N", 26, 32, false, "", "", 32⟩], 33, 36, .agg [.int .u8 (0), .int .u8 (0), .int .u8 (0), .int .u8 (0), .int .u8 (0), .int .u8 (0), .int .u8 (0), .int .u8 (0), .int .u8 (0), .int .u8 (0), .int .u8 (0), .int .u8 (0), .int .u8 (0), .int .u8 (0), .int .u8 (0), .int .u8 (0), .int .u8 (0), .int .u8 (0), .int .u8 (0), .int .u8 (0), .int .u8 (0), .int .u8 (0), .int .u8 (0), .int .u8 (0), .int .u8 (0), .int .u8 (0), .int .u8 (0), .int .u8 (0), .int .u8 (0), .int .u8 (0), .int .u8 (0), .int .u8 (0), .int .u32 (0)]⟩ := rfl
theorem iK : ti env 28 = M.pure ⟨Go.TypeDesc.struct #[⟨"Tx", 25, 0, false, "", "", 0⟩, ⟨"N", 26, 32, false, "", "", 32⟩], 33, 36, .agg [.int .u8 (0), .int .u8 (0), .int .u8 (0), .int .u8 (0), .int .u8 (0), .int .u8 (0), .int .u8 (0), .int .u8 (0), .int .u8 (0), .int .u8 (0), .int .u8 (0), .int .u8 (0), .int .u8 (0), .int .u8 (0), .int .u8 (0), .int .u8 (0), .int .u8 (0), .int .u8 (0), .int .u8 (0), .int .u8 (0), .int .u8 (0), .int .u8 (0), .int .u8 (0), .int .u8 (0), .int .u8 (0), .int .u8 (0), .int .u8 (0), .int .u8 (0), .int .u8 (0), .int .u8 (0), .int .u8 (0), .int .u8 (0), .int .u32 (0)]⟩ := rfl
theorem uC : ti env 29 = M.pure ⟨Go.TypeDesc.slice 5, 1, 24, .aV⟩ := rfl
theorem R7 : ti env 30 = M.pure ⟨Go.TypeDesc.struct #[⟨"Point", 28, 0, false, "", "", 0⟩, ⟨"Made", 3, 33, false, "", "", 40⟩, ⟨"Value", 2, 34, false, "", "", 48⟩, ⟨"Script", 29, 35, false, "", "", 56⟩, ⟨"Base", 4, 36, false, "", "", 80⟩, ⟨"Spent", 3, 37, false, "", "", 88⟩, ⟨"Spender", 25, 38, false, "", "", 96⟩], 70, 128, .agg [.int .u8 (0), .int .u8 (0), .int .u8 (0), .int .u8 (0), .int .u8 (0), .int .u8 (0), .int .u8 (0), .int .u8 (0), .int .u8 (0), .int .u8 (0), .int .u8 (0), .int .u8 (0), .int .u8 (0), .int .u8 (0), .int .u8 (0), .int .u8 (0), .int .u8 (0), .int .u8 (0), .int .u8 (0), .int .u8 (0), .int .u8 (0), .int .u8 (0), .int .u8 (0), .int .u8 (0), .int .u8 (0), .int .u8 (0), .int .u8 (0), .int .u8 (0), .int .u8 (0), .int .u8 (0), .int .u8 (0), .int .u8 (0), .int .u32 (0), .int .i64 (0), .int .i64 (0), .aV, .bool false, .int .i64 (0), .int .u8 (0), .int .u8 (0), .int .u8 (0), .int .u8 (0), .int .u8 (0), .int .u8 (0), .int .u8 (0), .int .u8 (0), .int .u8 (0), .int .u8 (0), .int .u8 (0), .int .u8 (0), .int .u8 (0), .int .u8 (0), .int .u8 (0), .int .u8 (0), .int .u8 (0), .int .u8 (0), .int .u8 (0), .int .u8 (0), .int .u8 (0), .int .u8 (0), .int .u8 (0), .int .u8 (0), .int .u8 (0), .int .u8 (0), .int .u8 (0), .int .u8 (0), .int .u8 (0), .int .u8 (0), .int .u8 (0), .int .u8 (0)]⟩ := rfl
theorem dY : ti env 31 = M.pure ⟨Go.TypeDesc.struct #[⟨"Point", 28, 0, false, "", "", 0⟩, ⟨"Made", 3, 33, false, "", "", 40⟩, ⟨"Value", 2, 34, false, "", "", 48⟩, ⟨"Script", 29, 35, false, "", "", 56⟩, ⟨"Base", 4, 36, false, "", "", 80⟩, ⟨"Spent", 3, 37, false, "", "", 88⟩, ⟨"Spender", 25, 38, false, "", "", 96⟩], 70, 128, .agg [.int .u8 (0), .int .u8 (0), .int .u8 (0), .int .u8 (0), .int .u8 (0), .int .u8 (0), .int .u8 (0), .int .u8 (0), .int .u8 (0), .int .u8 (0), .int .u8 (0), .int .u8 (0), .int .u8 (0), .int .u8 (0), .int .u8 (0), .int .u8 (0), .int .u8 (0), .int .u8 (0), .int .u8 (0), .int .u8 (0), .int .u8 (0), .int .u8 (0), .int .u8 (0), .int .u8 (0), .int .u8 (0), .int .u8 (0), .int .u8 (0), .int .u8 (0), .int .u8 (0), .int .u8 (0), .int .u8 (0), .int .u8 (0), .int .u32 (0), .int .i64 (0), .int .i64 (0), .aV, .bool false, .int .i64 (0), .int .u8 (0), .int .u8 (0), .int .u8 (0), .int .u8 (0), .int .u8 (0), .int .u8 (0), .int .u8 (0), .int .u8 (0), .int .u8 (0), .int .u8 (0), .int .u8 (0), .int .u8 (0), .int .u8 (0), .int .u8 (0), .int .u8 (0), .int .u8 (0), .int .u8 (0), .int .u8 (0), .int .u8 (0), .int .u8 (0), .int .u8 (0), .int .u8 (0), .int .u8 (0), .int .u8 (0), .int .u8 (0), .int .u8 (0), .int .u8 (0), .int .u8 (0), .int .u8 (0), .int .u8 (0), .int .u8 (0), .int .u8 (0)]⟩ := rfl
theorem G2 : ti env 32 = M.pure ⟨Go.TypeDesc.int (Go.IntKind.i64), 1, 8, .int .i64 (0)⟩ := rfl
theorem ti37 : ti env 37 = M.pure ⟨Go.TypeDesc.tuple #[36, 32], 1, 0, .tup [.aV, .int .i64 (0)]⟩ := rfl
theorem oC : ti env 43 = M.pure ⟨Go.TypeDesc.slice 31, 1, 24, .aV⟩ := rfl
theorem CW : ti env 44 = M.pure ⟨Go.TypeDesc.slice 48, 1, 24, .aV⟩ := rfl
theorem R6 : ti env 45 = M.pure ⟨Go.TypeDesc.struct #[⟨"Height", 3, 0, false, "", "", 0⟩, ⟨"Block", 25, 1, false, "", "", 8⟩, ⟨"Made", 43, 33, false, "", "", 40⟩, ⟨"Spends", 44, 34, false, "", "", 64⟩, ⟨"Burnt", 2, 35, false, "", "", 88⟩, ⟨"Left", 2, 36, false, "", "", 96⟩], 37, 104, .agg [.int .i64 (0), .int .u8 (0), .int .u8 (0), .int .u8 (0), .int .u8 (0), .int .u8 (0), .int .u8 (0), .int .u8 (0), .int .u8 (0), .int .u8 (0), .int .u8 (0), .int .u8 (0), .int .u8 (0), .int .u8 (0), .int .u8 (0), .int .u8 (0), .int .u8 (0), .int .u8 (0), .int .u8 (0), .int .u8 (0), .int .u8 (0), .int .u8 (0), .int .u8 (0), .int .u8 (0), .int .u8 (0), .int .u8 (0), .int .u8 (0), .int .u8 (0), .int .u8 (0), .int .u8 (0), .int .u8 (0), .int .u8 (0), .int .u8 (0), .aV, .aV, .int .i64 (0), .int .i64 (0)]⟩ := rfl
theorem lY : ti env 46 = M.pure ⟨Go.TypeDesc.struct #[⟨"Height", 3, 0, false, "", "", 0⟩, ⟨"Block", 25, 1, false, "", "", 8⟩, ⟨"Made", 43, 33, false, "", "", 40⟩, ⟨"Spends", 44, 34, false, "", "", 64⟩, ⟨"Burnt", 2, 35, false, "", "", 88⟩, ⟨"Left", 2, 36, false, "", "", 96⟩], 37, 104, .agg [.int .i64 (0), .int .u8 (0), .int .u8 (0), .int .u8 (0), .int .u8 (0), .int .u8 (0), .int .u8 (0), .int .u8 (0), .int .u8 (0), .int .u8 (0), .int .u8 (0), .int .u8 (0), .int .u8 (0), .int .u8 (0), .int .u8 (0), .int .u8 (0), .int .u8 (0), .int .u8 (0), .int .u8 (0), .int .u8 (0), .int .u8 (0), .int .u8 (0), .int .u8 (0), .int .u8 (0), .int .u8 (0), .int .u8 (0), .int .u8 (0), .int .u8 (0), .int .u8 (0), .int .u8 (0), .int .u8 (0), .int .u8 (0), .int .u8 (0), .aV, .aV, .int .i64 (0), .int .i64 (0)]⟩ := rfl
theorem R5 : ti env 47 = M.pure ⟨Go.TypeDesc.struct #[⟨"Point", 28, 0, false, "", "", 0⟩, ⟨"Spender", 25, 33, false, "", "", 36⟩], 65, 68, .agg [.int .u8 (0), .int .u8 (0), .int .u8 (0), .int .u8 (0), .int .u8 (0), .int .u8 (0), .int .u8 (0), .int .u8 (0), .int .u8 (0), .int .u8 (0), .int .u8 (0), .int .u8 (0), .int .u8 (0), .int .u8 (0), .int .u8 (0), .int .u8 (0), .int .u8 (0), .int .u8 (0), .int .u8 (0), .int .u8 (0), .int .u8 (0), .int .u8 (0), .int .u8 (0), .int .u8 (0), .int .u8 (0), .int .u8 (0), .int .u8 (0), .int .u8 (0), .int .u8 (0), .int .u8 (0), .int .u8 (0), .int .u8 (0), .int .u32 (0), .int .u8 (0), .int .u8 (0), .int .u8 (0), .int .u8 (0), .int .u8 (0), .int .u8 (0), .int .u8 (0), .int .u8 (0), .int .u8 (0), .int .u8 (0), .int .u8 (0), .int .u8 (0), .int .u8 (0), .int .u8 (0), .int .u8 (0), .int .u8 (0), .int .u8 (0), .int .u8 (0), .int .u8 (0), .int .u8 (0), .int .u8 (0), .int .u8 (0), .int .u8 (0), .int .u8 (0), .int .u8 (0), .int .u8 (0), .int .u8 (0), .int .u8 (0), .int .u8 (0), .int .u8 (0), .int .u8 (0), .int .u8 (0)]⟩ := rfl
theorem xI : ti env 48 = M.pure ⟨Go.TypeDesc.struct #[⟨"Point", 28, 0, false, "", "", 0⟩, ⟨"Spender", 25, 33, false, "", "", 36⟩], 65, 68, .agg [.int .u8 (0), .int .u8 (0), .int .u8 (0), .int .u8 (0), .int .u8 (0), .int .u8 (0), .int .u8 (0), .int .u8 (0), .int .u8 (0), .int .u8 (0), .int .u8 (0), .int .u8 (0), .int .u8 (0), .int .u8 (0), .int .u8 (0), .int .u8 (0), .int .u8 (0), .int .u8 (0), .int .u8 (0), .int .u8 (0), .int .u8 (0), .int .u8 (0), .int .u8 (0), .int .u8 (0), .int .u8 (0), .int .u8 (0), .int .u8 (0), .int .u8 (0), .int .u8 (0), .int .u8 (0), .int .u8 (0), .int .u8 (0), .int .u32 (0), .int .u8 (0), .int .u8 (0), .int .u8 (0), .int .u8 (0), .int .u8 (0), .int .u8 (0), .int .u8 (0), .int .u8 (0), .int .u8 (0), .int .u8 (0), .int .u8 (0), .int .u8 (0), .int .u8 (0), .int .u8 (0), .int .u8 (0), .int .u8 (0), .int .u8 (0), .int .u8 (0), .int .u8 (0), .int .u8 (0), .int .u8 (0), .int .u8 (0), .int .u8 (0), .int .u8 (0), .int .u8 (0), .int .u8 (0), .int .u8 (0), .int .u8 (0), .int .u8 (0), .int .u8 (0), .int .u8 (0), .int .u8 (0)]⟩ := rfl
theorem ti49 : ti env 49 = M.pure ⟨Go.TypeDesc.func #[] #[3] false, 1, 8, .dI⟩ := rfl
theorem qA : ti env 56 = M.pure ⟨Go.TypeDesc.pointer 100, 1, 8, .eZ⟩ := rfl
theorem sX : ti env 57 = M.pure ⟨Go.TypeDesc.slice 61, 1, 24, .aV⟩ := rfl
theorem R4 : ti env 58 = M.pure ⟨Go.TypeDesc.struct #[⟨"x", 56, 0, false, "", "purser/store", 0⟩, ⟨"levels", 57, 1, false, "", "purser/store", 8⟩], 2, 32, .agg [.eZ, .aV]⟩ := rfl
theorem N6 : ti env 59 = M.pure ⟨Go.TypeDesc.struct #[⟨"x", 56, 0, false, "", "purser/store", 0⟩, ⟨"levels", 57, 1, false, "", "purser/store", 8⟩], 2, 32, .agg [.eZ, .aV]⟩ := rfl
theorem R3 : ti env 60 = M.pure ⟨Go.TypeDesc.struct #[⟨"Height", 3, 0, false, "", "", 0⟩, ⟨"Block", 25, 1, false, "", "", 8⟩, ⟨"Coins", 3, 33, false, "", "", 40⟩, ⟨"Total", 2, 34, false, "", "", 48⟩, ⟨"Burnt", 2, 35, false, "", "", 56⟩, ⟨"Left", 2, 36, false, "", "", 64⟩], 37, 72, .agg [.int .i64 (0), .int .u8 (0), .int .u8 (0), .int .u8 (0), .int .u8 (0), .int .u8 (0), .int .u8 (0), .int .u8 (0), .int .u8 (0), .int .u8 (0), .int .u8 (0), .int .u8 (0), .int .u8 (0), .int .u8 (0), .int .u8 (0), .int .u8 (0), .int .u8 (0), .int .u8 (0), .int .u8 (0), .int .u8 (0), .int .u8 (0), .int .u8 (0), .int .u8 (0), .int .u8 (0), .int .u8 (0), .int .u8 (0), .int .u8 (0), .int .u8 (0), .int .u8 (0), .int .u8 (0), .int .u8 (0), .int .u8 (0), .int .u8 (0), .int .i64 (0), .int .i64 (0), .int .i64 (0), .int .i64 (0)]⟩ := rfl
theorem iI : ti env 61 = M.pure ⟨Go.TypeDesc.struct #[⟨"Height", 3, 0, false, "", "", 0⟩, ⟨"Block", 25, 1, false, "", "", 8⟩, ⟨"Coins", 3, 33, false, "", "", 40⟩, ⟨"Total", 2, 34, false, "", "", 48⟩, ⟨"Burnt", 2, 35, false, "", "", 56⟩, ⟨"Left", 2, 36, false, "", "", 64⟩], 37, 72, .agg [.int .i64 (0), .int .u8 (0), .int .u8 (0), .int .u8 (0), .int .u8 (0), .int .u8 (0), .int .u8 (0), .int .u8 (0), .int .u8 (0), .int .u8 (0), .int .u8 (0), .int .u8 (0), .int .u8 (0), .int .u8 (0), .int .u8 (0), .int .u8 (0), .int .u8 (0), .int .u8 (0), .int .u8 (0), .int .u8 (0), .int .u8 (0), .int .u8 (0), .int .u8 (0), .int .u8 (0), .int .u8 (0), .int .u8 (0), .int .u8 (0), .int .u8 (0), .int .u8 (0), .int .u8 (0), .int .u8 (0), .int .u8 (0), .int .u8 (0), .int .i64 (0), .int .i64 (0), .int .i64 (0), .int .i64 (0)]⟩ := rfl
theorem ti67 : ti env 67 = M.pure ⟨Go.TypeDesc.func #[65] #[56] false, 1, 8, .dI⟩ := rfl
theorem ti69 : ti env 69 = M.pure ⟨Go.TypeDesc.func #[28, 3] #[32] false, 1, 8, .dI⟩ := rfl
theorem ti74 : ti env 74 = M.pure ⟨Go.TypeDesc.func #[65, 31, 5] #[4] false, 1, 8, .dI⟩ := rfl
theorem ti77 : ti env 77 = M.pure ⟨Go.TypeDesc.func #[] #[56] false, 1, 8, .dI⟩ := rfl
theorem ti81 : ti env 81 = M.pure ⟨Go.TypeDesc.slice 29, 1, 24, .aV⟩ := rfl
theorem ti86 : ti env 86 = M.pure ⟨Go.TypeDesc.struct #[⟨"L", 43, 0, false, "", "", 0⟩], 1, 24, .agg [.aV]⟩ := rfl
theorem ti87 : ti env 87 = M.pure ⟨Go.TypeDesc.struct #[⟨"L", 43, 0, false, "", "", 0⟩], 1, 24, .agg [.aV]⟩ := rfl
theorem pZ : ti env 95 = M.pure ⟨Go.TypeDesc.slice 128, 1, 24, .aV⟩ := rfl
theorem G1 : ti env 96 = M.pure ⟨Go.TypeDesc.func #[128, 128] #[3] false, 1, 8, .dI⟩ := rfl
theorem R2 : ti env 97 = M.pure ⟨Go.TypeDesc.struct #[⟨"l", 95, 0, false, "", "purser/index", 0⟩, ⟨"order", 96, 1, false, "", "purser/index", 24⟩], 2, 32, .agg [.aV, .dI]⟩ := rfl
theorem R1 : ti env 98 = M.pure ⟨Go.TypeDesc.struct #[⟨"l", 95, 0, false, "", "purser/index", 0⟩, ⟨"order", 96, 1, false, "", "purser/index", 24⟩], 2, 32, .agg [.aV, .dI]⟩ := rfl
theorem R0 : ti env 99 = M.pure ⟨Go.TypeDesc.struct #[⟨"made", 4, 0, false, "", "purser/index", 0⟩, ⟨"points", 98, 1, false, "", "purser/index", 8⟩, ⟨"scripts", 98, 3, false, "", "purser/index", 40⟩], 5, 72, .agg [.bool false, .aV, .dI, .aV, .dI]⟩ := rfl
theorem EO : ti env 100 = M.pure ⟨Go.TypeDesc.struct #[⟨"made", 4, 0, false, "", "purser/index", 0⟩, ⟨"points", 98, 1, false, "", "purser/index", 8⟩, ⟨"scripts", 98, 3, false, "", "purser/index", 40⟩], 5, 72, .agg [.bool false, .aV, .dI, .aV, .dI]⟩ := rfl
theorem XU : ti env 101 = M.pure ⟨Go.TypeDesc.slice 105, 1, 24, .aV⟩ := rfl
theorem XT : ti env 102 = M.pure ⟨Go.TypeDesc.func #[101] #[3] false, 1, 8, .dI⟩ := rfl
theorem ID : ti env 104 = M.pure ⟨Go.TypeDesc.struct #[⟨"Kind", 3, 0, false, "", "", 0⟩, ⟨"A", 46, 1, false, "", "", 8⟩, ⟨"Next", 4, 38, false, "", "", 112⟩, ⟨"N", 3, 39, false, "", "", 120⟩], 40, 128, .agg [.int .i64 (0), .int .i64 (0), .int .u8 (0), .int .u8 (0), .int .u8 (0), .int .u8 (0), .int .u8 (0), .int .u8 (0), .int .u8 (0), .int .u8 (0), .int .u8 (0), .int .u8 (0), .int .u8 (0), .int .u8 (0), .int .u8 (0), .int .u8 (0), .int .u8 (0), .int .u8 (0), .int .u8 (0), .int .u8 (0), .int .u8 (0), .int .u8 (0), .int .u8 (0), .int .u8 (0), .int .u8 (0), .int .u8 (0), .int .u8 (0), .int .u8 (0), .int .u8 (0), .int .u8 (0), .int .u8 (0), .int .u8 (0), .int .u8 (0), .int .u8 (0), .aV, .aV, .int .i64 (0), .int .i64 (0), .bool false, .int .i64 (0)]⟩ := rfl
theorem xZ : ti env 105 = M.pure ⟨Go.TypeDesc.struct #[⟨"Kind", 3, 0, false, "", "", 0⟩, ⟨"A", 46, 1, false, "", "", 8⟩, ⟨"Next", 4, 38, false, "", "", 112⟩, ⟨"N", 3, 39, false, "", "", 120⟩], 40, 128, .agg [.int .i64 (0), .int .i64 (0), .int .u8 (0), .int .u8 (0), .int .u8 (0), .int .u8 (0), .int .u8 (0), .int .u8 (0), .int .u8 (0), .int .u8 (0), .int .u8 (0), .int .u8 (0), .int .u8 (0), .int .u8 (0), .int .u8 (0), .int .u8 (0), .int .u8 (0), .int .u8 (0), .int .u8 (0), .int .u8 (0), .int .u8 (0), .int .u8 (0), .int .u8 (0), .int .u8 (0), .int .u8 (0), .int .u8 (0), .int .u8 (0), .int .u8 (0), .int .u8 (0), .int .u8 (0), .int .u8 (0), .int .u8 (0), .int .u8 (0), .int .u8 (0), .aV, .aV, .int .i64 (0), .int .i64 (0), .bool false, .int .i64 (0)]⟩ := rfl
theorem XS : ti env 106 = M.pure ⟨Go.TypeDesc.func #[105, 3] #[46] false, 1, 8, .dI⟩ := rfl
theorem XR : ti env 109 = M.pure ⟨Go.TypeDesc.func #[29, 3] #[2, 32] false, 1, 8, .dI⟩ := rfl
theorem XQ : ti env 113 = M.pure ⟨Go.TypeDesc.func #[101, 28, 29, 5] #[4] false, 1, 8, .dI⟩ := rfl
theorem XP : ti env 114 = M.pure ⟨Go.TypeDesc.func #[31, 3] #[31] false, 1, 8, .dI⟩ := rfl
theorem XO : ti env 120 = M.pure ⟨Go.TypeDesc.int (Go.IntKind.u64), 1, 8, .int .u64 (0)⟩ := rfl
theorem XN : ti env 124 = M.pure ⟨Go.TypeDesc.func #[153] #[] false, 1, 8, .dI⟩ := rfl
theorem XM : ti env 125 = M.pure ⟨Go.TypeDesc.func #[153] #[] false, 1, 8, .dI⟩ := rfl
theorem iV : ti env 128 = M.pure ⟨Go.TypeDesc.pointer 31, 1, 8, .eZ⟩ := rfl
theorem IC : ti env 129 = M.pure ⟨Go.TypeDesc.func #[128] #[4] false, 1, 8, .dI⟩ := rfl
theorem XL : ti env 134 = M.pure ⟨Go.TypeDesc.func #[129] #[] false, 1, 8, .dI⟩ := rfl
theorem XK : ti env 135 = M.pure ⟨Go.TypeDesc.func #[129] #[] false, 1, 8, .dI⟩ := rfl
theorem XJ : ti env 147 = M.pure ⟨Go.TypeDesc.slice 3, 1, 24, .aV⟩ := rfl
theorem XI : ti env 150 = M.pure ⟨Go.TypeDesc.func #[160] #[] false, 1, 8, .dI⟩ := rfl
theorem XH : ti env 151 = M.pure ⟨Go.TypeDesc.func #[160] #[] false, 1, 8, .dI⟩ := rfl
theorem XG : ti env 153 = M.pure ⟨Go.TypeDesc.func #[61] #[4] false, 1, 8, .dI⟩ := rfl
theorem IB : ti env 156 = M.pure ⟨Go.TypeDesc.pointer 98, 1, 8, .eZ⟩ := rfl
theorem XF : ti env 160 = M.pure ⟨Go.TypeDesc.func #[28, 4] #[4] false, 1, 8, .dI⟩ := rfl
theorem IA : ti env 161 = M.pure ⟨Go.TypeDesc.map 28 3, 1, 8, .mT⟩ := rfl
theorem XE : ti env 166 = M.pure ⟨Go.TypeDesc.int (Go.IntKind.u64), 1, 8, .int .u64 (0)⟩ := rfl
theorem fi12 : (env.funcs.find 12).i = VP.i := rfl
theorem ff12 : (env.funcs.find 12).f.beq 12 = true := rfl
theorem hk12 : ∀ args : List a9, c9 env (evalW env) 12 args = bD env (evalW env) 12 args := fun _ => rfl
theorem fg12 : ∀ tm : List a9, forget env 12 tm = aB [T, T, F, F, T, T, T, T, F, T, T, T, T, T, T, T, T, F, F, F, F, F, F, F, T, F, F, F, F, F, T, F, F, F, F, F, F, F, F, T, T, T, T, F, F, F, F, F, F, F, F, F, F, F, F, F, F, F, F, F, F, F, F, F, F, F, F, T, F, F, T, F, F, F, F, F, F, T, F, F, F, F, F, F, F, F, F, F, F, F, F, F, F, F, F, F, F, F, F, F, F, F, F, F, F, F, F, F, F, T, F, F, F, T, F, F, F, F, F, F, F, F, F, F, F, F, F, F, F, F, F, F, F, F, F, F, T, F, F] tm := fun _ => rfl
theorem fi14 : (env.funcs.find 14).i = VO.i := rfl
theorem ff14 : (env.funcs.find 14).f.beq 14 = true := rfl
theorem hk14 : ∀ args : List a9, c9 env (evalW env) 14 args = bD env (evalW env) 14 args := fun _ => rfl
theorem fg14 : ∀ tm : List a9, forget env 14 tm = aB [T, T, T, T, F, F, F, F, F, F, F, F, F, F, F, F, F, F, F, F, F, F, F, F, F, F, F, F, F, F, F, F, F, F, F, F, T, F] tm := fun _ => rfl
theorem fi15 : (env.funcs.find 15).i = VN.i := rfl
theorem ff15 : (env.funcs.find 15).f.beq 15 = true := rfl
theorem hk15 : ∀ args : List a9, c9 env (evalW env) 15 args = bD env (evalW env) 15 args := fun _ => rfl
theorem fg15 : ∀ tm : List a9, forget env 15 tm = aB [T, T, T, F, T, F, T, T, T, F, T, T, T, F, F, F, F, F, F, F, T, F, F, F, F, F, F, F, F, F, F, F, F, F, F, F, F] tm := fun _ => rfl
theorem fi16 : (env.funcs.find 16).i = VM.i := rfl
theorem ff16 : (env.funcs.find 16).f.beq 16 = true := rfl
theorem hk16 : ∀ args : List a9, c9 env (evalW env) 16 args = bD env (evalW env) 16 args := fun _ => rfl
theorem fg16 : ∀ tm : List a9, forget env 16 tm = aB [T, F, T, F, F] tm := fun _ => rfl
theorem fi19 : (env.funcs.find 19).i = VK.i := rfl
theorem ff19 : (env.funcs.find 19).f.beq 19 = true := rfl
theorem hk19 : ∀ args : List a9, c9 env (evalW env) 19 args = bD env (evalW env) 19 args := fun _ => rfl
theorem fg19 : ∀ tm : List a9, forget env 19 tm = aB [T, T, F, T, T, T, T, T, T, T, T, T, F, F, T, F, F, F, F, F, F, F, F, F, F, F, F, F, F, F, F, F, F, F, F, F, F, F, F, F, F, F, F, F, F, F, F, F, F, F, F, F, F, F, F, F, F, F, F, F, F, F, F, F, F, F, T, F, F, F, F, F, F, F, F, F, F, F, F, F, F, F, F, F, F, F, F, F, F, F, F, F, F, F, F, F, F, F, F, F] tm := fun _ => rfl
theorem fi21 : (env.funcs.find 21).i = VI.i := rfl
theorem ff21 : (env.funcs.find 21).f.beq 21 = true := rfl
theorem hk21 : ∀ args : List a9, c9 env (evalW env) 21 args = bD env (evalW env) 21 args := fun _ => rfl
theorem fg21 : ∀ tm : List a9, forget env 21 tm = aB [T, T, T, F, T, F, T, T, F, T, T, F, T, F, F, F, F, F, F, F, T, F, F, F, F, F, F, T, T, T, T, F, F, F, F, F, T, F, F, F, F, F, F, F, F] tm := fun _ => rfl
theorem fi22 : (env.funcs.find 22).i = VH.i := rfl
theorem ff22 : (env.funcs.find 22).f.beq 22 = true := rfl
theorem hk22 : ∀ args : List a9, c9 env (evalW env) 22 args = bD env (evalW env) 22 args := fun _ => rfl
theorem fg22 : ∀ tm : List a9, forget env 22 tm = aB [T, T, F, F, T, T, F, T, T, F, F, T, F, F, F, F, F, F, F, F, F, F, F, F, F, F, T, T, T, T, F, F, T, F, F, F, F, F, F, F, F, F, F, T, F, F, F, F, F, F, F, F, F, F, F, F, F, F, F, F, F, F, F, F, F, F, F, F, F, F, F, F, F, F, F] tm := fun _ => rfl
theorem fi24 : (env.funcs.find 24).i = VG.i := rfl
theorem ff24 : (env.funcs.find 24).f.beq 24 = true := rfl
theorem hk24 : ∀ args : List a9, c9 env (evalW env) 24 args = bD env (evalW env) 24 args := fun _ => rfl
theorem fg24 : ∀ tm : List a9, forget env 24 tm = aB [T, F, T, F, T, F, F, F, F, F] tm := fun _ => rfl
theorem fi25 : (env.funcs.find 25).i = VF.i := rfl
theorem ff25 : (env.funcs.find 25).f.beq 25 = true := rfl
theorem hk25 : ∀ args : List a9, c9 env (evalW env) 25 args = bD env (evalW env) 25 args := fun _ => rfl
theorem fg25 : ∀ tm : List a9, forget env 25 tm = aB [T, T, F, T, T, T, T, T, T, F, T, F, F, T, T, F, F, F, T, F, F, F] tm := fun _ => rfl
theorem fi26 : (env.funcs.find 26).i = VE.i := rfl
theorem ff26 : (env.funcs.find 26).f.beq 26 = true := rfl
theorem hk26 : ∀ args : List a9, c9 env (evalW env) 26 args = bD env (evalW env) 26 args := fun _ => rfl
theorem fg26 : ∀ tm : List a9, forget env 26 tm = aB [T, F, F, F] tm := fun _ => rfl
theorem fi27 : (env.funcs.find 27).i = VD.i := rfl
theorem ff27 : (env.funcs.find 27).f.beq 27 = true := rfl
theorem hk27 : ∀ args : List a9, c9 env (evalW env) 27 args = bD env (evalW env) 27 args := fun _ => rfl
theorem fg27 : ∀ tm : List a9, forget env 27 tm = aB [T, T, T, T, T, T, T, T, F, F, F, F, F, F, F, F, F, F, F, F, F, F, F, F, F, F, F, F, F, F, F, F, F, F, F, F, F, F, F, F, F, F, F, F, F, F, F, F, F, F, F, F] tm := fun _ => rfl
theorem fi32 : (env.funcs.find 32).i = VC.i := rfl
theorem ff32 : (env.funcs.find 32).f.beq 32 = true := rfl
theorem hk32 : ∀ args : List a9, c9 env (evalW env) 32 args = bD env (evalW env) 32 args := fun _ => rfl
theorem fg32 : ∀ tm : List a9, forget env 32 tm = aB [T, F, T, F, T, F, F, F, F, F, F] tm := fun _ => rfl
theorem fi33 : (env.funcs.find 33).i = VB.i := rfl
theorem ff33 : (env.funcs.find 33).f.beq 33 = true := rfl
theorem hk33 : ∀ args : List a9, c9 env (evalW env) 33 args = bD env (evalW env) 33 args := fun _ => rfl
theorem fg33 : ∀ tm : List a9, forget env 33 tm = aB [T, T, F, T, T, T, T, F, F, T, F, F, F, F, F, F, F, F, F, F, F, F, F, F, F, F, F, F, F, F, F, F, F, F, F, F, F, F, F, F, F, F, F, F, F, F, F, F, F] tm := fun _ => rfl
theorem fi34 : (env.funcs.find 34).i = VA.i := rfl
theorem ff34 : (env.funcs.find 34).f.beq 34 = true := rfl
theorem hk34 : ∀ args : List a9, c9 env (evalW env) 34 args = bD env (evalW env) 34 args := fun _ => rfl
theorem fg34 : ∀ tm : List a9, forget env 34 tm = aB [T, T, T, F, T, F, T, T, F, T, F, F, F, F, F, T, F, F, F, F, F, F, F, F, F, F] tm := fun _ => rfl
theorem fi36 : (env.funcs.find 36).i = V9.i := rfl
theorem ff36 : (env.funcs.find 36).f.beq 36 = true := rfl
theorem hk36 : ∀ args : List a9, c9 env (evalW env) 36 args = bD env (evalW env) 36 args := fun _ => rfl
theorem fg36 : ∀ tm : List a9, forget env 36 tm = aB [T, T, T, T, T, F, T, F, F, T, T, T, T, F, T, F, F, F, F, F, F, F, F, F, F, F, F, F, F, F, F, F, F, F, F, F, T, F, F, F, F, F, F, F, F, F, F, F] tm := fun _ => rfl
theorem fi37 : (env.funcs.find 37).i = V8.i := rfl
theorem ff37 : (env.funcs.find 37).f.beq 37 = true := rfl
theorem hk37 : ∀ args : List a9, c9 env (evalW env) 37 args = bD env (evalW env) 37 args := fun _ => rfl
theorem fg37 : ∀ tm : List a9, forget env 37 tm = aB [T, T, T, F, T, T, T, T, T, T, F, F, T, T, F, F, F, F, F, T, F, F, T, F, F, F, F, F] tm := fun _ => rfl
theorem fi38 : (env.funcs.find 38).i = V7.i := rfl
theorem ff38 : (env.funcs.find 38).f.beq 38 = true := rfl
theorem hk38 : ∀ args : List a9, c9 env (evalW env) 38 args = bD env (evalW env) 38 args := fun _ => rfl
theorem fg38 : ∀ tm : List a9, forget env 38 tm = aB [T, T, T, F, T, F, T, T, T, F, T, F, F, F, F, F, F, F, F, F, F, F, F, T, F, F, F, F, F, F, F, F, F, F] tm := fun _ => rfl
theorem fi40 : (env.funcs.find 40).i = V6.i := rfl
theorem ff40 : (env.funcs.find 40).f.beq 40 = true := rfl
theorem hk40 : ∀ args : List a9, c9 env (evalW env) 40 args = bD env (evalW env) 40 args := fun _ => rfl
theorem fg40 : ∀ tm : List a9, forget env 40 tm = aB [T, T, F, F, F, F, F, F, F, F, F, F, F] tm := fun _ => rfl
theorem fi41 : (env.funcs.find 41).i = V5.i := rfl
theorem ff41 : (env.funcs.find 41).f.beq 41 = true := rfl
theorem hk41 : ∀ args : List a9, c9 env (evalW env) 41 args = bD env (evalW env) 41 args := fun _ => rfl
theorem fg41 : ∀ tm : List a9, forget env 41 tm = aB [T, F, T, T, F, T, F, F, F, F, F, F, F, F, F, F, F, F, F, F, F, F, F, F, F, F, F, F] tm := fun _ => rfl
theorem fi42 : (env.funcs.find 42).i = V4.i := rfl
theorem ff42 : (env.funcs.find 42).f.beq 42 = true := rfl
theorem hk42 : ∀ args : List a9, c9 env (evalW env) 42 args = bD env (evalW env) 42 args := fun _ => rfl
theorem fg42 : ∀ tm : List a9, forget env 42 tm = aB [T, T, T, T, T, T, F, F, F, F, F, F, F, F, F, F, F, F, F, F, F, F, F, F, F, F, F, F, F, F, F, F, F, F, F, F, F, F, F, F, F, F, F, F, F, F, F, F, F, F, F, F, F, F, F, F, F] tm := fun _ => rfl
theorem fi43 : (env.funcs.find 43).i = V3.i := rfl
theorem ff43 : (env.funcs.find 43).f.beq 43 = true := rfl
theorem hk43 : ∀ args : List a9, c9 env (evalW env) 43 args = bD env (evalW env) 43 args := fun _ => rfl
theorem fg43 : ∀ tm : List a9, forget env 43 tm = aB [T, T, T, F, T, T, T, T, T, F, T, F, F, F, F, F, F, F, T, T, F, F, F, F, F, F, T, F, F, F, F, T, F, F, F, F, F, F, F, F] tm := fun _ => rfl
theorem fi49 : (env.funcs.find 49).i = V2.i := rfl
theorem ff49 : (env.funcs.find 49).f.beq 49 = true := rfl
theorem hk49 : ∀ args : List a9, c9 env (evalW env) 49 args = bD env (evalW env) 49 args := fun _ => rfl
theorem fg49 : ∀ tm : List a9, forget env 49 tm = aB [T, T, F, T, T, T, T, F, F, T, T, F, F, F, F, F, F, F, F] tm := fun _ => rfl
theorem fi57 : (env.funcs.find 57).i = V1.i := rfl
theorem ff57 : (env.funcs.find 57).f.beq 57 = true := rfl
theorem hk57 : ∀ args : List a9, c9 env (evalW env) 57 args = bD env (evalW env) 57 args := fun _ => rfl
theorem fg57 : ∀ tm : List a9, forget env 57 tm = aB [T, F, T, T, T, F, F, T, F, T, T, T, F, F, F, F, F, F, F, F, F, F, F, F, F, F, F, F, F, F, T, F, F, F, F, F, F, T, T, T, F, F, F, F, F, F, F, F, F, F, F, F, T, F, F] tm := fun _ => rfl
theorem fi58 : (env.funcs.find 58).i = V0.i := rfl
theorem ff58 : (env.funcs.find 58).f.beq 58 = true := rfl
theorem hk58 : ∀ args : List a9, c9 env (evalW env) 58 args = bD env (evalW env) 58 args := fun _ => rfl
theorem fg58 : ∀ tm : List a9, forget env 58 tm = aB [T, F, T, T, F, T, F, T, T, T, T, F, F, F, T, T, F, F, F, F, F, F, F, T, F, F, F, F, F, F, F] tm := fun _ => rfl
theorem fi59 : (env.funcs.find 59).i = UZ.i := rfl
theorem ff59 : (env.funcs.find 59).f.beq 59 = true := rfl
theorem hk59 : ∀ args : List a9, c9 env (evalW env) 59 args = bD env (evalW env) 59 args := fun _ => rfl
theorem fg59 : ∀ tm : List a9, forget env 59 tm = aB [T, T, T, F, T, T, T, F, F, F, F, T, F, F, F, F, F, T, T, T, F, F, F, F, F, F, F, F, F, F] tm := fun _ => rfl
theorem fi60 : (env.funcs.find 60).i = UY.i := rfl
theorem ff60 : (env.funcs.find 60).f.beq 60 = true := rfl
theorem hk60 : ∀ args : List a9, c9 env (evalW env) 60 args = bD env (evalW env) 60 args := fun _ => rfl
theorem fg60 : ∀ tm : List a9, forget env 60 tm = aB [T, T, T, F, F, F, T, T, F, T, T, F, T, F, F, F, F, F, F, F, T, F, F, F, F, F, F, F, T, T, T, T, F, F, F, F, F, F, F, F] tm := fun _ => rfl
theorem fi62 : (env.funcs.find 62).i = UX.i := rfl
theorem ff62 : (env.funcs.find 62).f.beq 62 = true := rfl
theorem hk62 : ∀ args : List a9, c9 env (evalW env) 62 args = bD env (evalW env) 62 args := fun _ => rfl
theorem fg62 : ∀ tm : List a9, forget env 62 tm = aB [T, T, T, F, T, F, F, F, T, F, F, F, F] tm := fun _ => rfl
theorem fi63 : (env.funcs.find 63).i = KO.i := rfl
theorem ff63 : (env.funcs.find 63).f.beq 63 = true := rfl
theorem hk63 : ∀ args : List a9, c9 env (evalW env) 63 args = bD env (evalW env) 63 args := fun _ => rfl
theorem fg63 : ∀ tm : List a9, forget env 63 tm = aB [T, F, T, T, F, T, T, T, T, T, F, F, F, F, T, F, F, F] tm := fun _ => rfl
theorem VQ : (env.funcs.find 66).i = DQ.i := rfl
theorem VS : (env.funcs.find 66).f.beq 66 = true := rfl
theorem U6 : ∀ args : List a9, c9 env (evalW env) 66 args = bD env (evalW env) 66 args := fun _ => rfl
theorem VR : ∀ tm : List a9, forget env 66 tm = aB [T, F, T, F, F, F, F, F, F, F, F, F] tm := fun _ => rfl
theorem fi67 : (env.funcs.find 67).i = UW.i := rfl
theorem ff67 : (env.funcs.find 67).f.beq 67 = true := rfl
theorem hk67 : ∀ args : List a9, c9 env (evalW env) 67 args = bD env (evalW env) 67 args := fun _ => rfl
theorem fg67 : ∀ tm : List a9, forget env 67 tm = aB [T, T, T, T, F, T, F, F, F, F, F, F, F, F, F, F, F, F, F, F, F, F, F, F, F, F, F, F, F, F, F, F, T, F, T, F, F, F, F, F, T, F, T] tm := fun _ => rfl
theorem fi68 : (env.funcs.find 68).i = UU.i := rfl
theorem ff68 : (env.funcs.find 68).f.beq 68 = true := rfl
theorem hk68 : ∀ args : List a9, c9 env (evalW env) 68 args = bD env (evalW env) 68 args := fun _ => rfl
theorem fg68 : ∀ tm : List a9, forget env 68 tm = aB [T, F, T, F, F, F, F, F, T, F, F, F, F, F, F, F, F, F, F, F, F, F] tm := fun _ => rfl
theorem fi69 : (env.funcs.find 69).i = UT.i := rfl
theorem ff69 : (env.funcs.find 69).f.beq 69 = true := rfl
theorem hk69 : ∀ args : List a9, c9 env (evalW env) 69 args = bD env (evalW env) 69 args := fun _ => rfl
theorem fg69 : ∀ tm : List a9, forget env 69 tm = aB [T, T, T, T, F, F, T, F, T, T, F, T, F, T, F, T, T, T, F, T, T, T, T, F, F, F, F, F, F, F, F, F, F, F, F, F, F, F, F, F, F, F, F, T, F, F, F, F, F, F, F, T, T, T, T, F, F, F, F, F, F, F, F, F, F, F, F, F, F, F, F, F, F, F, F, F, F, F, F, F, T, F, F, F, F, F, F, F] tm := fun _ => rfl
theorem fi70 : (env.funcs.find 70).i = US.i := rfl
theorem ff70 : (env.funcs.find 70).f.beq 70 = true := rfl
theorem hk70 : ∀ args : List a9, c9 env (evalW env) 70 args = bD env (evalW env) 70 args := fun _ => rfl
theorem fg70 : ∀ tm : List a9, forget env 70 tm = aB [T, F, T, F, F, F, F, F, F] tm := fun _ => rfl
theorem fi71 : (env.funcs.find 71).i = UR.i := rfl
theorem ff71 : (env.funcs.find 71).f.beq 71 = true := rfl
theorem hk71 : ∀ args : List a9, c9 env (evalW env) 71 args = bD env (evalW env) 71 args := fun _ => rfl
theorem fg71 : ∀ tm : List a9, forget env 71 tm = aB [T, F, T, F, T, F, F, F] tm := fun _ => rfl
theorem fi72 : (env.funcs.find 72).i = UQ.i := rfl
theorem ff72 : (env.funcs.find 72).f.beq 72 = true := rfl
theorem hk72 : ∀ args : List a9, c9 env (evalW env) 72 args = bD env (evalW env) 72 args := fun _ => rfl
theorem fg72 : ∀ tm : List a9, forget env 72 tm = aB [T, T, T, F] tm := fun _ => rfl
theorem fi73 : (env.funcs.find 73).i = UP.i := rfl
theorem ff73 : (env.funcs.find 73).f.beq 73 = true := rfl
theorem hk73 : ∀ args : List a9, c9 env (evalW env) 73 args = bD env (evalW env) 73 args := fun _ => rfl
theorem fg73 : ∀ tm : List a9, forget env 73 tm = aB [T, F, T, F, F, F, F, F, F, F, F, F] tm := fun _ => rfl
theorem fi74 : (env.funcs.find 74).i = UO.i := rfl
theorem ff74 : (env.funcs.find 74).f.beq 74 = true := rfl
theorem hk74 : ∀ args : List a9, c9 env (evalW env) 74 args = bD env (evalW env) 74 args := fun _ => rfl
theorem fg74 : ∀ tm : List a9, forget env 74 tm = aB [T, T, F, F, T, T, F, T, T, T, T, T, F, F, F, F, T, F, F, F, F, F, F, F, F, F] tm := fun _ => rfl
theorem fi75 : (env.funcs.find 75).i = UN.i := rfl
theorem ff75 : (env.funcs.find 75).f.beq 75 = true := rfl
theorem hk75 : ∀ args : List a9, c9 env (evalW env) 75 args = bD env (evalW env) 75 args := fun _ => rfl
theorem fg75 : ∀ tm : List a9, forget env 75 tm = aB [F, F, T] tm := fun _ => rfl
theorem fi76 : (env.funcs.find 76).i = UM.i := rfl
theorem ff76 : (env.funcs.find 76).f.beq 76 = true := rfl
theorem hk76 : ∀ args : List a9, c9 env (evalW env) 76 args = bD env (evalW env) 76 args := fun _ => rfl
theorem fg76 : ∀ tm : List a9, forget env 76 tm = aB [T, T, T, F, T, F, T, T, T, F, F, F, F, F, F, F, F, F, F, F, F, T, F, F, F, F, F, F, F, F] tm := fun _ => rfl
theorem fi77 : (env.funcs.find 77).i = UL.i := rfl
theorem ff77 : (env.funcs.find 77).f.beq 77 = true := rfl
theorem hk77 : ∀ args : List a9, c9 env (evalW env) 77 args = bD env (evalW env) 77 args := fun _ => rfl
theorem fg77 : ∀ tm : List a9, forget env 77 tm = aB [T, T, T, F, F, F, F, F] tm := fun _ => rfl
theorem fi78 : (env.funcs.find 78).i = UK.i := rfl
theorem ff78 : (env.funcs.find 78).f.beq 78 = true := rfl
theorem hk78 : ∀ args : List a9, c9 env (evalW env) 78 args = bD env (evalW env) 78 args := fun _ => rfl
theorem fg78 : ∀ tm : List a9, forget env 78 tm = aB [T, T, F, F, T, F, F, F, F, F, F, F, F, F, F, F, F, F, F, F, F, F, F] tm := fun _ => rfl
theorem fi79 : (env.funcs.find 79).i = UJ.i := rfl
theorem ff79 : (env.funcs.find 79).f.beq 79 = true := rfl
theorem hk79 : ∀ args : List a9, c9 env (evalW env) 79 args = bD env (evalW env) 79 args := fun _ => rfl
theorem fg79 : ∀ tm : List a9, forget env 79 tm = aB [T, T, F, F, T, F, F, F, F, F, F, F, F, F, F, F, F, F, F, F, F, F, F] tm := fun _ => rfl
theorem fi80 : (env.funcs.find 80).i = UI.i := rfl
theorem ff80 : (env.funcs.find 80).f.beq 80 = true := rfl
theorem hk80 : ∀ args : List a9, c9 env (evalW env) 80 args = bD env (evalW env) 80 args := fun _ => rfl
theorem fg80 : ∀ tm : List a9, forget env 80 tm = aB [T, T, T, F, F, T, F, F, F, F, F, F, F, F, F, F, F, F, F, F, F, F, F, F] tm := fun _ => rfl
theorem fi81 : (env.funcs.find 81).i = UH.i := rfl
theorem ff81 : (env.funcs.find 81).f.beq 81 = true := rfl
theorem hk81 : ∀ args : List a9, c9 env (evalW env) 81 args = bD env (evalW env) 81 args := fun _ => rfl
theorem fg81 : ∀ tm : List a9, forget env 81 tm = aB [T, T, T, T, T, F] tm := fun _ => rfl
theorem fi82 : (env.funcs.find 82).i = UG.i := rfl
theorem ff82 : (env.funcs.find 82).f.beq 82 = true := rfl
theorem hk82 : ∀ args : List a9, c9 env (evalW env) 82 args = bD env (evalW env) 82 args := fun _ => rfl
theorem fg82 : ∀ tm : List a9, forget env 82 tm = aB [T, T, T, F, T, F, F, F, F, F, F, F, F, F, F, F, F, F, F, F] tm := fun _ => rfl
theorem fi84 : (env.funcs.find 84).i = UF.i := rfl
theorem ff84 : (env.funcs.find 84).f.beq 84 = true := rfl
theorem hk84 : ∀ args : List a9, c9 env (evalW env) 84 args = bD env (evalW env) 84 args := fun _ => rfl
theorem fg84 : ∀ tm : List a9, forget env 84 tm = aB [T, T, F, F, T, F, F, F, F, F, F, F] tm := fun _ => rfl
theorem fi85 : (env.funcs.find 85).i = UE.i := rfl
theorem ff85 : (env.funcs.find 85).f.beq 85 = true := rfl
theorem hk85 : ∀ args : List a9, c9 env (evalW env) 85 args = bD env (evalW env) 85 args := fun _ => rfl
theorem fg85 : ∀ tm : List a9, forget env 85 tm = aB [T, T, F, F, T, F, F, F, F, F, F, F, F, F, F, F, F, F, F] tm := fun _ => rfl
theorem fi86 : (env.funcs.find 86).i = UD.i := rfl
theorem ff86 : (env.funcs.find 86).f.beq 86 = true := rfl
theorem hk86 : ∀ args : List a9, c9 env (evalW env) 86 args = bD env (evalW env) 86 args := fun _ => rfl
theorem fg86 : ∀ tm : List a9, forget env 86 tm = aB [T, F, T, F, T, F, F, F] tm := fun _ => rfl
theorem fi87 : (env.funcs.find 87).i = UC.i := rfl
theorem ff87 : (env.funcs.find 87).f.beq 87 = true := rfl
theorem hk87 : ∀ args : List a9, c9 env (evalW env) 87 args = bD env (evalW env) 87 args := fun _ => rfl
theorem fg87 : ∀ tm : List a9, forget env 87 tm = aB [T, T, T, T, T, T, F, T, F, F, F, F, F, F, F, F, F, F, T, F, F, F, F, F, F, F, F, T, F, F, F, F, T, F, F, F, F, T] tm := fun _ => rfl
theorem fi88 : (env.funcs.find 88).i = UB.i := rfl
theorem ff88 : (env.funcs.find 88).f.beq 88 = true := rfl
theorem hk88 : ∀ args : List a9, c9 env (evalW env) 88 args = bD env (evalW env) 88 args := fun _ => rfl
theorem fg88 : ∀ tm : List a9, forget env 88 tm = aB [T, T, T, T, T, F] tm := fun _ => rfl
theorem fi89 : (env.funcs.find 89).i = UA.i := rfl
theorem ff89 : (env.funcs.find 89).f.beq 89 = true := rfl
theorem hk89 : ∀ args : List a9, c9 env (evalW env) 89 args = bD env (evalW env) 89 args := fun _ => rfl
theorem fg89 : ∀ tm : List a9, forget env 89 tm = aB [T, T, F, F, T, F, F, F, F, F] tm := fun _ => rfl
theorem fi90 : (env.funcs.find 90).i = U9.i := rfl
theorem ff90 : (env.funcs.find 90).f.beq 90 = true := rfl
theorem hk90 : ∀ args : List a9, c9 env (evalW env) 90 args = bD env (evalW env) 90 args := fun _ => rfl
theorem fg90 : ∀ tm : List a9, forget env 90 tm = aB [T, F, T, F, T, F, F, F] tm := fun _ => rfl
theorem fi96 : (env.funcs.find 96).i = U8.i := rfl
theorem ff96 : (env.funcs.find 96).f.beq 96 = true := rfl
theorem hk96 : ∀ args : List a9, c9 env (evalW env) 96 args = bD env (evalW env) 96 args := fun _ => rfl
theorem fg96 : ∀ tm : List a9, forget env 96 tm = aB [T, T, T, T, T, T, F, F, F, F, F, F, F, T, F, F, F, F, F, F, F, F, F, F, F, F, F, F, F, F, F, F, F, F, F, F, F, F] tm := fun _ => rfl
theorem fi99 : (env.funcs.find 99).i = OP.i := rfl
theorem ff99 : (env.funcs.find 99).f.beq 99 = true := rfl
theorem hk99 : ∀ args : List a9, c9 env (evalW env) 99 args = bD env (evalW env) 99 args := fun _ => rfl
theorem fg99 : ∀ tm : List a9, forget env 99 tm = aB [T, F, T, F, F, F, F, F, F] tm := fun _ => rfl
theorem ZE : (env.funcs.find 100).i = FF.i := rfl
theorem ab6 : (env.funcs.find 100).f.beq 100 = true := rfl
theorem YW : ∀ args : List a9, c9 env (evalW env) 100 args = bD env (evalW env) 100 args := fun _ => rfl
theorem ZZ : ∀ tm : List a9, forget env 100 tm = aB [T, F, T, F, F, F, F, F, F] tm := fun _ => rfl
theorem ZD : (env.funcs.find 101).i = L6.i := rfl
theorem ab5 : (env.funcs.find 101).f.beq 101 = true := rfl
theorem YV : ∀ args : List a9, c9 env (evalW env) 101 args = bD env (evalW env) 101 args := fun _ => rfl
theorem ZY : ∀ tm : List a9, forget env 101 tm = aB [T, T, T, F] tm := fun _ => rfl
theorem ZC : (env.funcs.find 102).i = L5.i := rfl
theorem ab4 : (env.funcs.find 102).f.beq 102 = true := rfl
theorem PQ : ∀ args : List a9, c9 env (evalW env) 102 args = bD env (evalW env) 102 args := fun _ => rfl
theorem ZX : ∀ tm : List a9, forget env 102 tm = aB [T, T, F, T, F, F, F, F, T, T, T, F, F, F, F, F, F, F, F, F, F, T, F] tm := fun _ => rfl
theorem ZB : (env.funcs.find 103).i = L4.i := rfl
theorem ab3 : (env.funcs.find 103).f.beq 103 = true := rfl
theorem YU : ∀ args : List a9, c9 env (evalW env) 103 args = bD env (evalW env) 103 args := fun _ => rfl
theorem ZW : ∀ tm : List a9, forget env 103 tm = aB [T, T, F, F, T, T, F, F, F, F, F, F, F, F, F, F, F, F] tm := fun _ => rfl
theorem ZA : (env.funcs.find 105).i = KZ.i := rfl
theorem ab2 : (env.funcs.find 105).f.beq 105 = true := rfl
theorem YT : ∀ args : List a9, c9 env (evalW env) 105 args = bD env (evalW env) 105 args := fun _ => rfl
theorem ZU : ∀ tm : List a9, forget env 105 tm = aB [T, T, T, F, F, F, T, T, F, F, F, F, F, F, F, F, T, F, F, F, F, F, F, F, F, F, F, F, F, F, F, F, F] tm := fun _ => rfl
theorem Z9 : (env.funcs.find 106).i = KY.i := rfl
theorem ab1 : (env.funcs.find 106).f.beq 106 = true := rfl
theorem KL : ∀ args : List a9, c9 env (evalW env) 106 args = bD env (evalW env) 106 args := fun _ => rfl
theorem ZT : ∀ tm : List a9, forget env 106 tm = aB [T, T, T, T, T, F, T, F, F, F, F, F, F, T, T, F, F, F, F, F, F, F, F, F, F, F, T] tm := fun _ => rfl
theorem Z8 : (env.funcs.find 107).i = KX.i := rfl
theorem ab0 : (env.funcs.find 107).f.beq 107 = true := rfl
theorem YS : ∀ args : List a9, c9 env (evalW env) 107 args = bD env (evalW env) 107 args := fun _ => rfl
theorem ZS : ∀ tm : List a9, forget env 107 tm = aB [T, T, T, T, T, F, F, F, F, F, F, F, F, F, F, F, F] tm := fun _ => rfl
theorem Z6 : (env.funcs.find 109).i = KV.i := rfl
theorem aa8 : (env.funcs.find 109).f.beq 109 = true := rfl
theorem KI : ∀ args : List a9, c9 env (evalW env) 109 args = bD env (evalW env) 109 args := fun _ => rfl
theorem ZQ : ∀ tm : List a9, forget env 109 tm = aB [T, T, T, F, T, F, F, T, F, F, F, F, F, F, F, F, F, F, F, T, T, T, T, F, F, F, F, F, T, F] tm := fun _ => rfl
theorem Z5 : (env.funcs.find 111).i = KU.i := rfl
theorem aa7 : (env.funcs.find 111).f.beq 111 = true := rfl
theorem YR : ∀ args : List a9, c9 env (evalW env) 111 args = bD env (evalW env) 111 args := fun _ => rfl
theorem ZP : ∀ tm : List a9, forget env 111 tm = aB [T, F, T, T, F, F, F] tm := fun _ => rfl
theorem Z4 : (env.funcs.find 113).i = KT.i := rfl
theorem aa6 : (env.funcs.find 113).f.beq 113 = true := rfl
theorem PO : ∀ args : List a9, c9 env (evalW env) 113 args = bD env (evalW env) 113 args := fun _ => rfl
theorem ZO : ∀ tm : List a9, forget env 113 tm = aB [T, T, F, T, F, T, T, F, T, F, F, T, T, T, T, F, F, F, F, F, F, F, F, F, F, F, F, F, F, F, F, F, F, F, F, F, F, F, F, F, F, F, F, F, F, F, F, F, F, F, F, F, F, F, F, F, F, F, F, F, F, F, F, T, F, F, F, T, T, T, T, F, F, F, F, F, F, F, F, F, F, F, F, F, F, F, F, F, F, T, F] tm := fun _ => rfl
theorem Z3 : (env.funcs.find 114).i = KS.i := rfl
theorem aa5 : (env.funcs.find 114).f.beq 114 = true := rfl
theorem YQ : ∀ args : List a9, c9 env (evalW env) 114 args = bD env (evalW env) 114 args := fun _ => rfl
theorem ZN : ∀ tm : List a9, forget env 114 tm = aB [T, T, T, F, F, F, T, T, T, T, T, T, F, F, F, F, F, T, F, F, F, F, F, F, F, F, F, F, F, F, F, T, F, F, F, F, F, F, F, F, F, F, F, F, F, F, F, F, F] tm := fun _ => rfl
theorem fi116 : (env.funcs.find 116).i = PU.i := rfl
theorem ff116 : (env.funcs.find 116).f.beq 116 = true := rfl
theorem YP : ∀ args : List a9, c9 env (evalW env) 116 args = bD env (evalW env) 116 args := fun _ => rfl
theorem ZM : ∀ tm : List a9, forget env 116 tm = aB [T, T, F, F, F, F, F, F, F, F] tm := fun _ => rfl
theorem Z2 : (env.funcs.find 117).i = KR.i := rfl
theorem aa4 : (env.funcs.find 117).f.beq 117 = true := rfl
theorem YO : ∀ args : List a9, c9 env (evalW env) 117 args = bD env (evalW env) 117 args := fun _ => rfl
theorem ZL : ∀ tm : List a9, forget env 117 tm = aB [T, T, T, T, T, F, F, F, F, F, F, F, F, F, F, F, F] tm := fun _ => rfl
theorem Z1 : (env.funcs.find 118).i = FD.i := rfl
theorem aa3 : (env.funcs.find 118).f.beq 118 = true := rfl
theorem YN : ∀ args : List a9, c9 env (evalW env) 118 args = bD env (evalW env) 118 args := fun _ => rfl
theorem ZK : ∀ tm : List a9, forget env 118 tm = aB [T, T, F, F, T, T, T, F, F, F, F, T, T, T, F, F, T, F, F, T] tm := fun _ => rfl
theorem fi120 : (env.funcs.find 120).i = PT.i := rfl
theorem ff120 : (env.funcs.find 120).f.beq 120 = true := rfl
theorem YM : ∀ args : List a9, c9 env (evalW env) 120 args = bD env (evalW env) 120 args := fun _ => rfl
theorem ZJ : ∀ tm : List a9, forget env 120 tm = aB [T, T, F, F, F, F, F, F, F, F, F, F, F, F] tm := fun _ => rfl
theorem Z0 : (env.funcs.find 121).i = FC.i := rfl
theorem aa2 : (env.funcs.find 121).f.beq 121 = true := rfl
theorem YL : ∀ args : List a9, c9 env (evalW env) 121 args = bD env (evalW env) 121 args := fun _ => rfl
theorem ZI : ∀ tm : List a9, forget env 121 tm = aB [T, T, F, F, T, T, T, F, F, F, F, T, T, T, F, F, T, F, F, T] tm := fun _ => rfl
theorem YZ : (env.funcs.find 122).i = KQ.i := rfl
theorem aa1 : (env.funcs.find 122).f.beq 122 = true := rfl
theorem YK : ∀ args : List a9, c9 env (evalW env) 122 args = bD env (evalW env) 122 args := fun _ => rfl
theorem ZH : ∀ tm : List a9, forget env 122 tm = aB [T, F, T, F, F, F] tm := fun _ => rfl
theorem fi123 : (env.funcs.find 123).i = PS.i := rfl
theorem ff123 : (env.funcs.find 123).f.beq 123 = true := rfl
theorem YJ : ∀ args : List a9, c9 env (evalW env) 123 args = bD env (evalW env) 123 args := fun _ => rfl
theorem ZG : ∀ tm : List a9, forget env 123 tm = aB [T, F, T, T, F, F, F, F, F, T, F, F, F, F, F, F, F, F, F, F, F, F, F, F, F, F, F, F] tm := fun _ => rfl
theorem YY : (env.funcs.find 124).i = KP.i := rfl
theorem aa0 : (env.funcs.find 124).f.beq 124 = true := rfl
theorem YI : ∀ args : List a9, c9 env (evalW env) 124 args = bD env (evalW env) 124 args := fun _ => rfl
theorem ZF : ∀ tm : List a9, forget env 124 tm = aB [T, F, T, F, F, F] tm := fun _ => rfl
theorem U7 : ∀ args : List a9, c9 env (evalW env) 20 args = Ins.zB args := fun _ => rfl
theorem KM : ∀ args : List a9, c9 env (evalW env) 104 args = (tF 128 nX.i) args := fun _ => rfl
theorem KJ : ∀ args : List a9, c9 env (evalW env) 108 args = dK args := fun _ => rfl
theorem KH : ∀ args : List a9, c9 env (evalW env) 112 args = dK args := fun _ => rfl
theorem KG : ∀ args : List a9, c9 env (evalW env) 115 args = (gS 128) args := fun _ => rfl
theorem KF : ∀ args : List a9, c9 env (evalW env) 119 args = dK args := fun _ => rfl
theorem bl9s : ∀ ts l, cY env (9 :: ts) (.str l) = M.pure (.int .i64 (l.length : Nat)) := fun _ _ => rfl
theorem MN : ∀ ts v, cY env (24 :: ts) v = M.pure (.int .i64 32) := fun _ _ => rfl
theorem MM : ∀ ts v, cY env (25 :: ts) v = M.pure (.int .i64 32) := fun _ _ => rfl
theorem ML : ∀ ts id off len cap sz, cY env (29 :: ts) (.sl id off len cap sz) = M.pure (.int .i64 (len : Nat)) := fun _ _ _ _ _ _ => rfl
theorem MK : ∀ ts g sz off len, cY env (29 :: ts) (.isl g sz off len) = M.pure (.int .i64 (len : Nat)) := fun _ _ _ _ _ => rfl
theorem MJ : ∀ ts, cY env (29 :: ts) .aV = M.pure (.int .i64 0) := fun _ => rfl
theorem MI : ∀ ts, cY env (29 :: ts) .emp = M.pure (.int .i64 0) := fun _ => rfl
theorem MH : ∀ ts id off len cap sz, cY env (43 :: ts) (.sl id off len cap sz) = M.pure (.int .i64 (len : Nat)) := fun _ _ _ _ _ _ => rfl
theorem MG : ∀ ts g sz off len, cY env (43 :: ts) (.isl g sz off len) = M.pure (.int .i64 (len : Nat)) := fun _ _ _ _ _ => rfl
theorem MF : ∀ ts, cY env (43 :: ts) .aV = M.pure (.int .i64 0) := fun _ => rfl
theorem MD : ∀ ts, cY env (43 :: ts) .emp = M.pure (.int .i64 0) := fun _ => rfl
theorem MC : ∀ ts id off len cap sz, cY env (44 :: ts) (.sl id off len cap sz) = M.pure (.int .i64 (len : Nat)) := fun _ _ _ _ _ _ => rfl
theorem MB : ∀ ts g sz off len, cY env (44 :: ts) (.isl g sz off len) = M.pure (.int .i64 (len : Nat)) := fun _ _ _ _ _ => rfl
theorem MA : ∀ ts, cY env (44 :: ts) .aV = M.pure (.int .i64 0) := fun _ => rfl
theorem M9 : ∀ ts, cY env (44 :: ts) .emp = M.pure (.int .i64 0) := fun _ => rfl
theorem M8 : ∀ ts id off len cap sz, cY env (57 :: ts) (.sl id off len cap sz) = M.pure (.int .i64 (len : Nat)) := fun _ _ _ _ _ _ => rfl
theorem M7 : ∀ ts g sz off len, cY env (57 :: ts) (.isl g sz off len) = M.pure (.int .i64 (len : Nat)) := fun _ _ _ _ _ => rfl
theorem M4 : ∀ ts, cY env (57 :: ts) .aV = M.pure (.int .i64 0) := fun _ => rfl
theorem M3 : ∀ ts, cY env (57 :: ts) .emp = M.pure (.int .i64 0) := fun _ => rfl
theorem ad3 : ∀ ts id off len cap sz, cY env (81 :: ts) (.sl id off len cap sz) = M.pure (.int .i64 (len : Nat)) := fun _ _ _ _ _ _ => rfl
theorem ad2 : ∀ ts g sz off len, cY env (81 :: ts) (.isl g sz off len) = M.pure (.int .i64 (len : Nat)) := fun _ _ _ _ _ => rfl
theorem ad1 : ∀ ts, cY env (81 :: ts) .aV = M.pure (.int .i64 0) := fun _ => rfl
theorem ad0 : ∀ ts, cY env (81 :: ts) .emp = M.pure (.int .i64 0) := fun _ => rfl
theorem LZ : ∀ ts id off len cap sz, cY env (95 :: ts) (.sl id off len cap sz) = M.pure (.int .i64 (len : Nat)) := fun _ _ _ _ _ _ => rfl
theorem LY : ∀ ts g sz off len, cY env (95 :: ts) (.isl g sz off len) = M.pure (.int .i64 (len : Nat)) := fun _ _ _ _ _ => rfl
theorem LX : ∀ ts, cY env (95 :: ts) .aV = M.pure (.int .i64 0) := fun _ => rfl
theorem LW : ∀ ts, cY env (95 :: ts) .emp = M.pure (.int .i64 0) := fun _ => rfl
theorem WD : ∀ ts id off len cap sz, cY env (101 :: ts) (.sl id off len cap sz) = M.pure (.int .i64 (len : Nat)) := fun _ _ _ _ _ _ => rfl
theorem WC : ∀ ts g sz off len, cY env (101 :: ts) (.isl g sz off len) = M.pure (.int .i64 (len : Nat)) := fun _ _ _ _ _ => rfl
theorem WB : ∀ ts, cY env (101 :: ts) .aV = M.pure (.int .i64 0) := fun _ => rfl
theorem WA : ∀ ts, cY env (101 :: ts) .emp = M.pure (.int .i64 0) := fun _ => rfl
theorem W9 : ∀ ts id off len cap sz, cY env (147 :: ts) (.sl id off len cap sz) = M.pure (.int .i64 (len : Nat)) := fun _ _ _ _ _ _ => rfl
theorem W8 : ∀ ts g sz off len, cY env (147 :: ts) (.isl g sz off len) = M.pure (.int .i64 (len : Nat)) := fun _ _ _ _ _ => rfl
theorem W7 : ∀ ts, cY env (147 :: ts) .aV = M.pure (.int .i64 0) := fun _ => rfl
theorem W6 : ∀ ts, cY env (147 :: ts) .emp = M.pure (.int .i64 0) := fun _ => rfl
noncomputable def DN : Code := (bS (Try.f12.body.getD .skip)).getD 0 .skip
noncomputable def DM : Code := (bS (Try.f12.body.getD .skip)).getD 1 .skip
noncomputable def DL : Code := (bS (Try.f21.body.getD .skip)).getD 0 .skip
noncomputable def DK : Code := (bS (Try.f22.body.getD .skip)).getD 0 .skip
noncomputable def J3 : Code := ((cQ (Try.f25.body.getD .skip)).getD 0 (.skip, .skip)).1
noncomputable def IY : Code := ((cQ (Try.f25.body.getD .skip)).getD 0 (.skip, .skip)).2
noncomputable def J2 : Code := ((cQ (Try.f37.body.getD .skip)).getD 0 (.skip, .skip)).1
noncomputable def IX : Code := ((cQ (Try.f37.body.getD .skip)).getD 0 (.skip, .skip)).2
noncomputable def J1 : Code := ((cQ (Try.f43.body.getD .skip)).getD 0 (.skip, .skip)).1
noncomputable def IW : Code := ((cQ (Try.f43.body.getD .skip)).getD 0 (.skip, .skip)).2
noncomputable def J0 : Code := ((cQ (Try.f49.body.getD .skip)).getD 0 (.skip, .skip)).1
noncomputable def IV : Code := ((cQ (Try.f49.body.getD .skip)).getD 0 (.skip, .skip)).2
noncomputable def DJ : Code := (bS (Try.f57.body.getD .skip)).getD 0 .skip
noncomputable def DI : Code := (bS (Try.f57.body.getD .skip)).getD 1 .skip
noncomputable def DH : Code := (bS (Try.f58.body.getD .skip)).getD 0 .skip
noncomputable def DG : Code := (bS (Try.f59.body.getD .skip)).getD 0 .skip
noncomputable def DF : Code := (bS (Try.f60.body.getD .skip)).getD 0 .skip
noncomputable def lp63_0 : Code := (bS (Try.f63.body.getD .skip)).getD 0 .skip
noncomputable def IZ : Code := ((cQ (Try.f67.body.getD .skip)).getD 0 (.skip, .skip)).1
noncomputable def IU : Code := ((cQ (Try.f67.body.getD .skip)).getD 0 (.skip, .skip)).2
noncomputable def DE : Code := (bS (Try.f69.body.getD .skip)).getD 0 .skip
noncomputable def DD : Code := (bS (Try.f69.body.getD .skip)).getD 1 .skip
noncomputable def DC : Code := (bS (Try.f74.body.getD .skip)).getD 0 .skip
noncomputable def DB : Code := (bS (Try.f87.body.getD .skip)).getD 0 .skip
noncomputable def DA : Code := (bS (Try.f96.body.getD .skip)).getD 0 .skip
noncomputable def A4 : Code := (bS (Try.f102.body.getD .skip)).getD 0 .skip
noncomputable def EV : Code := ((cQ (Try.f106.body.getD .skip)).getD 0 (.skip, .skip)).1
noncomputable def EU : Code := ((cQ (Try.f106.body.getD .skip)).getD 0 (.skip, .skip)).2
noncomputable def A3 : Code := (bS (Try.f109.body.getD .skip)).getD 0 .skip
noncomputable def A2 : Code := (bS (Try.f113.body.getD .skip)).getD 0 .skip
noncomputable def A1 : Code := (bS (Try.f113.body.getD .skip)).getD 1 .skip
noncomputable def uQ : Code := (bS (Try.f114.body.getD .skip)).getD 0 .skip
noncomputable def lp123_0 : Code := (bS (Try.f123.body.getD .skip)).getD 0 .skip
def tyr := (And.intro ti2 (And.intro ti3 (And.intro ti4 (And.intro ti5 (And.intro ti9 (And.intro ti12 (And.intro ti21 (And.intro G3 (And.intro R9 (And.intro mM (And.intro oD (And.intro R8 (And.intro iK (And.intro uC (And.intro R7 (And.intro dY (And.intro G2 (And.intro ti37 (And.intro oC (And.intro CW (And.intro R6 (And.intro lY (And.intro R5 (And.intro xI (And.intro ti49 (And.intro qA (And.intro sX (And.intro R4 (And.intro N6 (And.intro R3 (And.intro iI (And.intro ti67 (And.intro ti69 (And.intro ti74 (And.intro ti77 (And.intro ti81 (And.intro ti86 (And.intro ti87 (And.intro pZ (And.intro G1 (And.intro R2 (And.intro R1 (And.intro R0 (And.intro EO (And.intro XU (And.intro XT (And.intro ID (And.intro xZ (And.intro XS (And.intro XR (And.intro XQ (And.intro XP (And.intro XO (And.intro XN (And.intro XM (And.intro iV (And.intro IC (And.intro XL (And.intro XK (And.intro XJ (And.intro XI (And.intro XH (And.intro XG (And.intro IB (And.intro XF (And.intro IA XE))))))))))))))))))))))))))))))))))))))))))))))))))))))))))))))))))
def blr := (And.intro bl9s (And.intro MN (And.intro MM (And.intro ML (And.intro MK (And.intro MJ (And.intro MI (And.intro MH (And.intro MG (And.intro MF (And.intro MD (And.intro MC (And.intro MB (And.intro MA (And.intro M9 (And.intro M8 (And.intro M7 (And.intro M4 (And.intro M3 (And.intro ad3 (And.intro ad2 (And.intro ad1 (And.intro ad0 (And.intro LZ (And.intro LY (And.intro LX (And.intro LW (And.intro WD (And.intro WC (And.intro WB (And.intro WA (And.intro W9 (And.intro W8 (And.intro W7 W6))))))))))))))))))))))))))))))))))
def fgr := (And.intro fg12 (And.intro fg14 (And.intro fg15 (And.intro fg16 (And.intro fg19 (And.intro fg21 (And.intro fg22 (And.intro fg24 (And.intro fg25 (And.intro fg26 (And.intro fg27 (And.intro fg32 (And.intro fg33 (And.intro fg34 (And.intro fg36 (And.intro fg37 (And.intro fg38 (And.intro fg40 (And.intro fg41 (And.intro fg42 (And.intro fg43 (And.intro fg49 (And.intro fg57 (And.intro fg58 (And.intro fg59 (And.intro fg60 (And.intro fg62 (And.intro fg63 (And.intro VR (And.intro fg67 (And.intro fg68 (And.intro fg69 (And.intro fg70 (And.intro fg71 (And.intro fg72 (And.intro fg73 (And.intro fg74 (And.intro fg75 (And.intro fg76 (And.intro fg77 (And.intro fg78 (And.intro fg79 (And.intro fg80 (And.intro fg81 (And.intro fg82 (And.intro fg84 (And.intro fg85 (And.intro fg86 (And.intro fg87 (And.intro fg88 (And.intro fg89 (And.intro fg90 (And.intro fg96 (And.intro fg99 (And.intro ZZ (And.intro ZY (And.intro ZX (And.intro ZW (And.intro ZU (And.intro ZT (And.intro ZS (And.intro ZQ (And.intro ZP (And.intro ZO (And.intro ZN (And.intro ZM (And.intro ZL (And.intro ZK (And.intro ZJ (And.intro ZI (And.intro ZH (And.intro ZG (And.intro ZF (And.intro TK (And.intro TJ (And.intro TG (And.intro TF (And.intro TD (And.intro TB (And.intro TA (And.intro T9 (And.intro T8 (And.intro T7 (And.intro T6 (And.intro T5 (And.intro T4 (And.intro T3 (And.intro T2 (And.intro T1 (And.intro T0 (And.intro SZ (And.intro SY (And.intro SX (And.intro SW (And.intro SV (And.intro SU (And.intro SS (And.intro SR (And.intro SQ (And.intro SP (And.intro SO (And.intro D7 (And.intro SN (And.intro SM (And.intro SK (And.intro SJ (And.intro SI (And.intro SH (And.intro SG (And.intro SF (And.intro SE (And.intro SD (And.intro SC (And.intro SB (And.intro SA (And.intro S9 (And.intro S8 (And.intro S7 (And.intro S6 (And.intro S5 (And.intro S4 (And.intro S3 (And.intro S2 (And.intro S0 (And.intro RZ (And.intro RY (And.intro RW (And.intro OA (And.intro O9 (And.intro O8 (And.intro O7 (And.intro O2 (And.intro O0 (And.intro NZ (And.intro NX (And.intro NW (And.intro NV (And.intro NU (And.intro NT (And.intro NS (And.intro NR (And.intro NQ (And.intro NP (And.intro NO (And.intro NN NM)))))))))))))))))))))))))))))))))))))))))))))))))))))))))))))))))))))))))))))))))))))))))))))))))))))))))))))))))))))))))))))))))))))))))))))))))
def hkr := (And.intro hk12 (And.intro hk14 (And.intro hk15 (And.intro hk16 (And.intro hk19 (And.intro hk21 (And.intro hk22 (And.intro hk24 (And.intro hk25 (And.intro hk26 (And.intro hk27 (And.intro hk32 (And.intro hk33 (And.intro hk34 (And.intro hk36 (And.intro hk37 (And.intro hk38 (And.intro hk40 (And.intro hk41 (And.intro hk42 (And.intro hk43 (And.intro hk49 (And.intro hk57 (And.intro hk58 (And.intro hk59 (And.intro hk60 (And.intro hk62 (And.intro hk63 (And.intro U6 (And.intro hk67 (And.intro hk68 (And.intro hk69 (And.intro hk70 (And.intro hk71 (And.intro hk72 (And.intro hk73 (And.intro hk74 (And.intro hk75 (And.intro hk76 (And.intro hk77 (And.intro hk78 (And.intro hk79 (And.intro hk80 (And.intro hk81 (And.intro hk82 (And.intro hk84 (And.intro hk85 (And.intro hk86 (And.intro hk87 (And.intro hk88 (And.intro hk89 (And.intro hk90 (And.intro hk96 (And.intro hk99 (And.intro YW (And.intro YV (And.intro PQ (And.intro YU (And.intro YT (And.intro KL (And.intro YS (And.intro KI (And.intro YR (And.intro PO (And.intro YQ (And.intro YP (And.intro YO (And.intro YN (And.intro YM (And.intro YL (And.intro YK (And.intro YJ (And.intro YI (And.intro U7 (And.intro KM (And.intro KJ (And.intro KH (And.intro KG KF))))))))))))))))))))))))))))))))))))))))))))))))))))))))))))))))))))))))))))))
end Go.Am.Ytlgebaofkolkoaa
