/- What the statement reaches, gone through; and the abstract machine that goes through it. -/
import Derived.Test.YtlgebaofkolkoaaGC
import Derived.KernelRfl
import Derived.Test.YtlgebaofkolkoaaProg
set_option maxRecDepth 100000
set_option linter.defProp false
namespace Go.Am.Ytlgebaofkolkoaa
open Go Go.Am Go.Proofs
noncomputable def ty2 : TE Try.prog := ⟨2, ⟨Try.t2.desc, 1, 8, .int .i64 (0)⟩, ⟨⟨Try.t2, _, rfl, rfl, rfl, rfl, rfl⟩, rfl, rfl, Try.underlying2⟩⟩
noncomputable def ty3 : TE Try.prog := ⟨3, ⟨Try.t3.desc, 1, 8, .int .i64 (0)⟩, ⟨⟨Try.t3, _, rfl, rfl, rfl, rfl, rfl⟩, rfl, rfl, Try.underlying3⟩⟩
noncomputable def ty4 : TE Try.prog := ⟨4, ⟨Try.t4.desc, 1, 1, .bool false⟩, ⟨⟨Try.t4, _, rfl, rfl, rfl, rfl, rfl⟩, rfl, rfl, Try.underlying4⟩⟩
noncomputable def ty5 : TE Try.prog := ⟨5, ⟨Try.t5.desc, 1, 1, .int .u8 (0)⟩, ⟨⟨Try.t5, _, rfl, rfl, rfl, rfl, rfl⟩, rfl, rfl, Try.underlying5⟩⟩
noncomputable def ty9 : TE Try.prog := ⟨9, ⟨Try.t9.desc, 1, 16, .str []⟩, ⟨⟨Try.t9, _, rfl, rfl, rfl, rfl, rfl⟩, rfl, rfl, Try.underlying9⟩⟩
noncomputable def aA4 : TE Try.prog := ⟨11, ⟨Try.t9.desc, 1, 16, .str []⟩, ⟨⟨Try.t11, _, rfl, rfl, rfl, rfl, rfl⟩, rfl, rfl, Try.underlying11⟩⟩
noncomputable def W4 : TE Try.prog := ⟨12, ⟨Try.t12.desc, 1, 8, .int .u64 (0)⟩, ⟨⟨Try.t12, _, rfl, rfl, rfl, rfl, rfl⟩, rfl, rfl, Try.underlying12⟩⟩
noncomputable def W3 : TE Try.prog := ⟨17, ⟨Try.t17.desc, 1, 8, .cY⟩, ⟨⟨Try.t17, _, rfl, rfl, rfl, rfl, rfl⟩, rfl, rfl, Try.underlying17⟩⟩
noncomputable def aA3 : TE Try.prog := ⟨18, ⟨Try.t18.desc, 1, 8, .agg [.cY]⟩, ⟨⟨Try.t18, _, rfl, rfl, rfl, rfl, rfl⟩, rfl, rfl, Try.underlying18⟩⟩
noncomputable def W2 : TE Try.prog := ⟨21, ⟨Try.t21.desc, 1, 4, .int .i32 (0)⟩, ⟨⟨Try.t21, _, rfl, rfl, rfl, rfl, rfl⟩, rfl, rfl, Try.underlying21⟩⟩
noncomputable def W1 : TE Try.prog := ⟨22, ⟨Try.t22.desc, 1, 8, .cY⟩, ⟨⟨Try.t22, _, rfl, rfl, rfl, rfl, rfl⟩, rfl, rfl, Try.underlying22⟩⟩
noncomputable def W0 : TE Try.prog := ⟨24, ⟨Try.t24.desc, 32, 32, .agg [.int .u8 (0), .int .u8 (0), .int .u8 (0), .int .u8 (0), .int .u8 (0), .int .u8 (0), .int .u8 (0), .int .u8 (0), .int .u8 (0), .int .u8 (0), .int .u8 (0), .int .u8 (0), .int .u8 (0), .int .u8 (0), .int .u8 (0), .int .u8 (0), .int .u8 (0), .int .u8 (0), .int .u8 (0), .int .u8 (0), .int .u8 (0), .int .u8 (0), .int .u8 (0), .int .u8 (0), .int .u8 (0), .int .u8 (0), .int .u8 (0), .int .u8 (0), .int .u8 (0), .int .u8 (0), .int .u8 (0), .int .u8 (0)]⟩, ⟨⟨Try.t24, _, rfl, rfl, rfl, rfl, rfl⟩, rfl, rfl, Try.underlying24⟩⟩
noncomputable def VZ : TE Try.prog := ⟨25, ⟨Try.t24.desc, 32, 32, .agg [.int .u8 (0), .int .u8 (0), .int .u8 (0), .int .u8 (0), .int .u8 (0), .int .u8 (0), .int .u8 (0), .int .u8 (0), .int .u8 (0), .int .u8 (0), .int .u8 (0), .int .u8 (0), .int .u8 (0), .int .u8 (0), .int .u8 (0), .int .u8 (0), .int .u8 (0), .int .u8 (0), .int .u8 (0), .int .u8 (0), .int .u8 (0), .int .u8 (0), .int .u8 (0), .int .u8 (0), .int .u8 (0), .int .u8 (0), .int .u8 (0), .int .u8 (0), .int .u8 (0), .int .u8 (0), .int .u8 (0), .int .u8 (0)]⟩, ⟨⟨Try.t25, _, rfl, rfl, rfl, rfl, rfl⟩, rfl, rfl, Try.underlying25⟩⟩
noncomputable def VY : TE Try.prog := ⟨26, ⟨Try.t26.desc, 1, 4, .int .u32 (0)⟩, ⟨⟨Try.t26, _, rfl, rfl, rfl, rfl, rfl⟩, rfl, rfl, Try.underlying26⟩⟩
noncomputable def VX : TE Try.prog := ⟨27, ⟨Try.t27.desc, 33, 36, .agg [.int .u8 (0), .int .u8 (0), .int .u8 (0), .int .u8 (0), .int .u8 (0), .int .u8 (0), .int .u8 (0), .int .u8 (0), .int .u8 (0), .int .u8 (0), .int .u8 (0), .int .u8 (0), .int .u8 (0), .int .u8 (0), .int .u8 (0), .int .u8 (0), .int .u8 (0), .int .u8 (0), .int .u8 (0), .int .u8 (0), .int .u8 (0), .int .u8 (0), .int .u8 (0), .int .u8 (0), .int .u8 (0), .int .u8 (0), .int .u8 (0), .int .u8 (0), .int .u8 (0), .int .u8 (0), .int .u8 (0), .int .u8 (0), .int .u32 (0)]⟩, ⟨⟨Try.t27, _, rfl, rfl, rfl, rfl, rfl⟩, rfl, rfl, Try.underlying27⟩⟩
noncomputable def J0 : TE Try.prog := ⟨28, ⟨Try.t27.desc, 33, 36, .agg [.int .u8 (0), .int .u8 (0), .int .u8 (0), .int .u8 (0), .int .u8 (0), .int .u8 (0), .int .u8 (0), .int .u8 (0), .int .u8 (0), .int .u8 (0), .int .u8 (0), .int .u8 (0), .int .u8 (0), .int .u8 (0), .int .u8 (0), .int .u8 (0), .int .u8 (0), .int .u8 (0), .int .u8 (0), .int .u8 (0), .int .u8 (0), .int .u8 (0), .int .u8 (0), .int .u8 (0), .int .u8 (0), .int .u8 (0), .int .u8 (0), .int .u8 (0), .int .u8 (0), .int .u8 (0), .int .u8 (0), .int .u8 (0), .int .u32 (0)]⟩, ⟨⟨Try.t28, _, rfl, rfl, rfl, rfl, rfl⟩, rfl, rfl, Try.underlying28⟩⟩
noncomputable def VW : TE Try.prog := ⟨29, ⟨Try.t29.desc, 1, 24, .aL⟩, ⟨⟨Try.t29, _, rfl, rfl, rfl, rfl, rfl⟩, rfl, rfl, Try.underlying29⟩⟩
noncomputable def VV : TE Try.prog := ⟨30, ⟨Try.t30.desc, 70, 128, .agg [.int .u8 (0), .int .u8 (0), .int .u8 (0), .int .u8 (0), .int .u8 (0), .int .u8 (0), .int .u8 (0), .int .u8 (0), .int .u8 (0), .int .u8 (0), .int .u8 (0), .int .u8 (0), .int .u8 (0), .int .u8 (0), .int .u8 (0), .int .u8 (0), .int .u8 (0), .int .u8 (0), .int .u8 (0), .int .u8 (0), .int .u8 (0), .int .u8 (0), .int .u8 (0), .int .u8 (0), .int .u8 (0), .int .u8 (0), .int .u8 (0), .int .u8 (0), .int .u8 (0), .int .u8 (0), .int .u8 (0), .int .u8 (0), .int .u32 (0), .int .i64 (0), .int .i64 (0), .aL, .bool false, .int .i64 (0), .int .u8 (0), .int .u8 (0), .int .u8 (0), .int .u8 (0), .int .u8 (0), .int .u8 (0), .int .u8 (0), .int .u8 (0), .int .u8 (0), .int .u8 (0), .int .u8 (0), .int .u8 (0), .int .u8 (0), .int .u8 (0), .int .u8 (0), .int .u8 (0), .int .u8 (0), .int .u8 (0), .int .u8 (0), .int .u8 (0), .int .u8 (0), .int .u8 (0), .int .u8 (0), .int .u8 (0), .int .u8 (0), .int .u8 (0), .int .u8 (0), .int .u8 (0), .int .u8 (0), .int .u8 (0), .int .u8 (0), .int .u8 (0)]⟩, ⟨⟨Try.t30, _, rfl, rfl, rfl, rfl, rfl⟩, rfl, rfl, Try.underlying30⟩⟩
noncomputable def eQ : TE Try.prog := ⟨31, ⟨Try.t30.desc, 70, 128, .agg [.int .u8 (0), .int .u8 (0), .int .u8 (0), .int .u8 (0), .int .u8 (0), .int .u8 (0), .int .u8 (0), .int .u8 (0), .int .u8 (0), .int .u8 (0), .int .u8 (0), .int .u8 (0), .int .u8 (0), .int .u8 (0), .int .u8 (0), .int .u8 (0), .int .u8 (0), .int .u8 (0), .int .u8 (0), .int .u8 (0), .int .u8 (0), .int .u8 (0), .int .u8 (0), .int .u8 (0), .int .u8 (0), .int .u8 (0), .int .u8 (0), .int .u8 (0), .int .u8 (0), .int .u8 (0), .int .u8 (0), .int .u8 (0), .int .u32 (0), .int .i64 (0), .int .i64 (0), .aL, .bool false, .int .i64 (0), .int .u8 (0), .int .u8 (0), .int .u8 (0), .int .u8 (0), .int .u8 (0), .int .u8 (0), .int .u8 (0), .int .u8 (0), .int .u8 (0), .int .u8 (0), .int .u8 (0), .int .u8 (0), .int .u8 (0), .int .u8 (0), .int .u8 (0), .int .u8 (0), .int .u8 (0), .int .u8 (0), .int .u8 (0), .int .u8 (0), .int .u8 (0), .int .u8 (0), .int .u8 (0), .int .u8 (0), .int .u8 (0), .int .u8 (0), .int .u8 (0), .int .u8 (0), .int .u8 (0), .int .u8 (0), .int .u8 (0), .int .u8 (0)]⟩, ⟨⟨Try.t31, _, rfl, rfl, rfl, rfl, rfl⟩, rfl, rfl, Try.underlying31⟩⟩
noncomputable def VU : TE Try.prog := ⟨32, ⟨Try.t3.desc, 1, 8, .int .i64 (0)⟩, ⟨⟨Try.t32, _, rfl, rfl, rfl, rfl, rfl⟩, rfl, rfl, Try.underlying32⟩⟩
noncomputable def VT : TE Try.prog := ⟨36, ⟨Try.t36.desc, 1, 24, .aL⟩, ⟨⟨Try.t36, _, rfl, rfl, rfl, rfl, rfl⟩, rfl, rfl, Try.underlying36⟩⟩
noncomputable def aA2 : TE Try.prog := ⟨37, ⟨Try.t37.desc, 1, 0, .tup [.aL, .int .i64 (0)]⟩, ⟨⟨Try.t37, _, rfl, rfl, rfl, rfl, rfl⟩, rfl, rfl, Try.underlying37⟩⟩
noncomputable def VS : TE Try.prog := ⟨40, ⟨Try.t40.desc, 2, 32, .agg [.aL, .int .i64 (0)]⟩, ⟨⟨Try.t40, _, rfl, rfl, rfl, rfl, rfl⟩, rfl, rfl, Try.underlying40⟩⟩
noncomputable def RK : TE Try.prog := ⟨41, ⟨Try.t40.desc, 2, 32, .agg [.aL, .int .i64 (0)]⟩, ⟨⟨Try.t41, _, rfl, rfl, rfl, rfl, rfl⟩, rfl, rfl, Try.underlying41⟩⟩
noncomputable def VR : TE Try.prog := ⟨43, ⟨Try.t43.desc, 1, 24, .aL⟩, ⟨⟨Try.t43, _, rfl, rfl, rfl, rfl, rfl⟩, rfl, rfl, Try.underlying43⟩⟩
noncomputable def VQ : TE Try.prog := ⟨44, ⟨Try.t44.desc, 1, 24, .aL⟩, ⟨⟨Try.t44, _, rfl, rfl, rfl, rfl, rfl⟩, rfl, rfl, Try.underlying44⟩⟩
noncomputable def VP : TE Try.prog := ⟨45, ⟨Try.t45.desc, 37, 104, .agg [.int .i64 (0), .int .u8 (0), .int .u8 (0), .int .u8 (0), .int .u8 (0), .int .u8 (0), .int .u8 (0), .int .u8 (0), .int .u8 (0), .int .u8 (0), .int .u8 (0), .int .u8 (0), .int .u8 (0), .int .u8 (0), .int .u8 (0), .int .u8 (0), .int .u8 (0), .int .u8 (0), .int .u8 (0), .int .u8 (0), .int .u8 (0), .int .u8 (0), .int .u8 (0), .int .u8 (0), .int .u8 (0), .int .u8 (0), .int .u8 (0), .int .u8 (0), .int .u8 (0), .int .u8 (0), .int .u8 (0), .int .u8 (0), .int .u8 (0), .aL, .aL, .int .i64 (0), .int .i64 (0)]⟩, ⟨⟨Try.t45, _, rfl, rfl, rfl, rfl, rfl⟩, rfl, rfl, Try.underlying45⟩⟩
noncomputable def VO : TE Try.prog := ⟨46, ⟨Try.t45.desc, 37, 104, .agg [.int .i64 (0), .int .u8 (0), .int .u8 (0), .int .u8 (0), .int .u8 (0), .int .u8 (0), .int .u8 (0), .int .u8 (0), .int .u8 (0), .int .u8 (0), .int .u8 (0), .int .u8 (0), .int .u8 (0), .int .u8 (0), .int .u8 (0), .int .u8 (0), .int .u8 (0), .int .u8 (0), .int .u8 (0), .int .u8 (0), .int .u8 (0), .int .u8 (0), .int .u8 (0), .int .u8 (0), .int .u8 (0), .int .u8 (0), .int .u8 (0), .int .u8 (0), .int .u8 (0), .int .u8 (0), .int .u8 (0), .int .u8 (0), .int .u8 (0), .aL, .aL, .int .i64 (0), .int .i64 (0)]⟩, ⟨⟨Try.t46, _, rfl, rfl, rfl, rfl, rfl⟩, rfl, rfl, Try.underlying46⟩⟩
noncomputable def VN : TE Try.prog := ⟨47, ⟨Try.t47.desc, 65, 68, .agg [.int .u8 (0), .int .u8 (0), .int .u8 (0), .int .u8 (0), .int .u8 (0), .int .u8 (0), .int .u8 (0), .int .u8 (0), .int .u8 (0), .int .u8 (0), .int .u8 (0), .int .u8 (0), .int .u8 (0), .int .u8 (0), .int .u8 (0), .int .u8 (0), .int .u8 (0), .int .u8 (0), .int .u8 (0), .int .u8 (0), .int .u8 (0), .int .u8 (0), .int .u8 (0), .int .u8 (0), .int .u8 (0), .int .u8 (0), .int .u8 (0), .int .u8 (0), .int .u8 (0), .int .u8 (0), .int .u8 (0), .int .u8 (0), .int .u32 (0), .int .u8 (0), .int .u8 (0), .int .u8 (0), .int .u8 (0), .int .u8 (0), .int .u8 (0), .int .u8 (0), .int .u8 (0), .int .u8 (0), .int .u8 (0), .int .u8 (0), .int .u8 (0), .int .u8 (0), .int .u8 (0), .int .u8 (0), .int .u8 (0), .int .u8 (0), .int .u8 (0), .int .u8 (0), .int .u8 (0), .int .u8 (0), .int .u8 (0), .int .u8 (0), .int .u8 (0), .int .u8 (0), .int .u8 (0), .int .u8 (0), .int .u8 (0), .int .u8 (0), .int .u8 (0), .int .u8 (0), .int .u8 (0)]⟩, ⟨⟨Try.t47, _, rfl, rfl, rfl, rfl, rfl⟩, rfl, rfl, Try.underlying47⟩⟩
noncomputable def B8 : TE Try.prog := ⟨48, ⟨Try.t47.desc, 65, 68, .agg [.int .u8 (0), .int .u8 (0), .int .u8 (0), .int .u8 (0), .int .u8 (0), .int .u8 (0), .int .u8 (0), .int .u8 (0), .int .u8 (0), .int .u8 (0), .int .u8 (0), .int .u8 (0), .int .u8 (0), .int .u8 (0), .int .u8 (0), .int .u8 (0), .int .u8 (0), .int .u8 (0), .int .u8 (0), .int .u8 (0), .int .u8 (0), .int .u8 (0), .int .u8 (0), .int .u8 (0), .int .u8 (0), .int .u8 (0), .int .u8 (0), .int .u8 (0), .int .u8 (0), .int .u8 (0), .int .u8 (0), .int .u8 (0), .int .u32 (0), .int .u8 (0), .int .u8 (0), .int .u8 (0), .int .u8 (0), .int .u8 (0), .int .u8 (0), .int .u8 (0), .int .u8 (0), .int .u8 (0), .int .u8 (0), .int .u8 (0), .int .u8 (0), .int .u8 (0), .int .u8 (0), .int .u8 (0), .int .u8 (0), .int .u8 (0), .int .u8 (0), .int .u8 (0), .int .u8 (0), .int .u8 (0), .int .u8 (0), .int .u8 (0), .int .u8 (0), .int .u8 (0), .int .u8 (0), .int .u8 (0), .int .u8 (0), .int .u8 (0), .int .u8 (0), .int .u8 (0), .int .u8 (0)]⟩, ⟨⟨Try.t48, _, rfl, rfl, rfl, rfl, rfl⟩, rfl, rfl, Try.underlying48⟩⟩
noncomputable def VM : TE Try.prog := ⟨56, ⟨Try.t56.desc, 1, 8, .cY⟩, ⟨⟨Try.t56, _, rfl, rfl, rfl, rfl, rfl⟩, rfl, rfl, Try.underlying56⟩⟩
noncomputable def RJ : TE Try.prog := ⟨57, ⟨Try.t57.desc, 1, 24, .aL⟩, ⟨⟨Try.t57, _, rfl, rfl, rfl, rfl, rfl⟩, rfl, rfl, Try.underlying57⟩⟩
noncomputable def VK : TE Try.prog := ⟨58, ⟨Try.t58.desc, 2, 32, .agg [.cY, .aL]⟩, ⟨⟨Try.t58, _, rfl, rfl, rfl, rfl, rfl⟩, rfl, rfl, Try.underlying58⟩⟩
noncomputable def VJ : TE Try.prog := ⟨59, ⟨Try.t58.desc, 2, 32, .agg [.cY, .aL]⟩, ⟨⟨Try.t59, _, rfl, rfl, rfl, rfl, rfl⟩, rfl, rfl, Try.underlying59⟩⟩
noncomputable def VI : TE Try.prog := ⟨60, ⟨Try.t60.desc, 37, 72, .agg [.int .i64 (0), .int .u8 (0), .int .u8 (0), .int .u8 (0), .int .u8 (0), .int .u8 (0), .int .u8 (0), .int .u8 (0), .int .u8 (0), .int .u8 (0), .int .u8 (0), .int .u8 (0), .int .u8 (0), .int .u8 (0), .int .u8 (0), .int .u8 (0), .int .u8 (0), .int .u8 (0), .int .u8 (0), .int .u8 (0), .int .u8 (0), .int .u8 (0), .int .u8 (0), .int .u8 (0), .int .u8 (0), .int .u8 (0), .int .u8 (0), .int .u8 (0), .int .u8 (0), .int .u8 (0), .int .u8 (0), .int .u8 (0), .int .u8 (0), .int .i64 (0), .int .i64 (0), .int .i64 (0), .int .i64 (0)]⟩, ⟨⟨Try.t60, _, rfl, rfl, rfl, rfl, rfl⟩, rfl, rfl, Try.underlying60⟩⟩
noncomputable def uC : TE Try.prog := ⟨61, ⟨Try.t60.desc, 37, 72, .agg [.int .i64 (0), .int .u8 (0), .int .u8 (0), .int .u8 (0), .int .u8 (0), .int .u8 (0), .int .u8 (0), .int .u8 (0), .int .u8 (0), .int .u8 (0), .int .u8 (0), .int .u8 (0), .int .u8 (0), .int .u8 (0), .int .u8 (0), .int .u8 (0), .int .u8 (0), .int .u8 (0), .int .u8 (0), .int .u8 (0), .int .u8 (0), .int .u8 (0), .int .u8 (0), .int .u8 (0), .int .u8 (0), .int .u8 (0), .int .u8 (0), .int .u8 (0), .int .u8 (0), .int .u8 (0), .int .u8 (0), .int .u8 (0), .int .u8 (0), .int .i64 (0), .int .i64 (0), .int .i64 (0), .int .i64 (0)]⟩, ⟨⟨Try.t61, _, rfl, rfl, rfl, rfl, rfl⟩, rfl, rfl, Try.underlying61⟩⟩
noncomputable def aA1 : TE Try.prog := ⟨67, ⟨Try.t67.desc, 1, 8, .cE⟩, ⟨⟨Try.t67, _, rfl, rfl, rfl, rfl, rfl⟩, rfl, rfl, Try.underlying67⟩⟩
noncomputable def aA0 : TE Try.prog := ⟨69, ⟨Try.t69.desc, 1, 8, .cE⟩, ⟨⟨Try.t69, _, rfl, rfl, rfl, rfl, rfl⟩, rfl, rfl, Try.underlying69⟩⟩
noncomputable def az9 : TE Try.prog := ⟨74, ⟨Try.t74.desc, 1, 8, .cE⟩, ⟨⟨Try.t74, _, rfl, rfl, rfl, rfl, rfl⟩, rfl, rfl, Try.underlying74⟩⟩
noncomputable def az8 : TE Try.prog := ⟨77, ⟨Try.t77.desc, 1, 8, .cE⟩, ⟨⟨Try.t77, _, rfl, rfl, rfl, rfl, rfl⟩, rfl, rfl, Try.underlying77⟩⟩
noncomputable def az7 : TE Try.prog := ⟨81, ⟨Try.t81.desc, 1, 24, .aL⟩, ⟨⟨Try.t81, _, rfl, rfl, rfl, rfl, rfl⟩, rfl, rfl, Try.underlying81⟩⟩
noncomputable def VH : TE Try.prog := ⟨95, ⟨Try.t95.desc, 1, 24, .aL⟩, ⟨⟨Try.t95, _, rfl, rfl, rfl, rfl, rfl⟩, rfl, rfl, Try.underlying95⟩⟩
noncomputable def VG : TE Try.prog := ⟨96, ⟨Try.t96.desc, 1, 8, .cE⟩, ⟨⟨Try.t96, _, rfl, rfl, rfl, rfl, rfl⟩, rfl, rfl, Try.underlying96⟩⟩
noncomputable def VF : TE Try.prog := ⟨97, ⟨Try.t97.desc, 2, 32, .agg [.aL, .cE]⟩, ⟨⟨Try.t97, _, rfl, rfl, rfl, rfl, rfl⟩, rfl, rfl, Try.underlying97⟩⟩
noncomputable def VE : TE Try.prog := ⟨98, ⟨Try.t97.desc, 2, 32, .agg [.aL, .cE]⟩, ⟨⟨Try.t98, _, rfl, rfl, rfl, rfl, rfl⟩, rfl, rfl, Try.underlying98⟩⟩
noncomputable def VD : TE Try.prog := ⟨99, ⟨Try.t99.desc, 5, 72, .agg [.bool false, .aL, .cE, .aL, .cE]⟩, ⟨⟨Try.t99, _, rfl, rfl, rfl, rfl, rfl⟩, rfl, rfl, Try.underlying99⟩⟩
noncomputable def LK : TE Try.prog := ⟨100, ⟨Try.t99.desc, 5, 72, .agg [.bool false, .aL, .cE, .aL, .cE]⟩, ⟨⟨Try.t100, _, rfl, rfl, rfl, rfl, rfl⟩, rfl, rfl, Try.underlying100⟩⟩
noncomputable def aj7 : TE Try.prog := ⟨101, ⟨Try.t101.desc, 1, 24, .aL⟩, ⟨⟨Try.t101, _, rfl, rfl, rfl, rfl, rfl⟩, rfl, rfl, Try.underlying101⟩⟩
noncomputable def aj6 : TE Try.prog := ⟨102, ⟨Try.t102.desc, 1, 8, .cE⟩, ⟨⟨Try.t102, _, rfl, rfl, rfl, rfl, rfl⟩, rfl, rfl, Try.underlying102⟩⟩
noncomputable def LJ : TE Try.prog := ⟨104, ⟨Try.t104.desc, 40, 128, .agg [.int .i64 (0), .int .i64 (0), .int .u8 (0), .int .u8 (0), .int .u8 (0), .int .u8 (0), .int .u8 (0), .int .u8 (0), .int .u8 (0), .int .u8 (0), .int .u8 (0), .int .u8 (0), .int .u8 (0), .int .u8 (0), .int .u8 (0), .int .u8 (0), .int .u8 (0), .int .u8 (0), .int .u8 (0), .int .u8 (0), .int .u8 (0), .int .u8 (0), .int .u8 (0), .int .u8 (0), .int .u8 (0), .int .u8 (0), .int .u8 (0), .int .u8 (0), .int .u8 (0), .int .u8 (0), .int .u8 (0), .int .u8 (0), .int .u8 (0), .int .u8 (0), .aL, .aL, .int .i64 (0), .int .i64 (0), .bool false, .int .i64 (0)]⟩, ⟨⟨Try.t104, _, rfl, rfl, rfl, rfl, rfl⟩, rfl, rfl, Try.underlying104⟩⟩
noncomputable def aj5 : TE Try.prog := ⟨105, ⟨Try.t104.desc, 40, 128, .agg [.int .i64 (0), .int .i64 (0), .int .u8 (0), .int .u8 (0), .int .u8 (0), .int .u8 (0), .int .u8 (0), .int .u8 (0), .int .u8 (0), .int .u8 (0), .int .u8 (0), .int .u8 (0), .int .u8 (0), .int .u8 (0), .int .u8 (0), .int .u8 (0), .int .u8 (0), .int .u8 (0), .int .u8 (0), .int .u8 (0), .int .u8 (0), .int .u8 (0), .int .u8 (0), .int .u8 (0), .int .u8 (0), .int .u8 (0), .int .u8 (0), .int .u8 (0), .int .u8 (0), .int .u8 (0), .int .u8 (0), .int .u8 (0), .int .u8 (0), .int .u8 (0), .aL, .aL, .int .i64 (0), .int .i64 (0), .bool false, .int .i64 (0)]⟩, ⟨⟨Try.t105, _, rfl, rfl, rfl, rfl, rfl⟩, rfl, rfl, Try.underlying105⟩⟩
noncomputable def aj4 : TE Try.prog := ⟨106, ⟨Try.t106.desc, 1, 8, .cE⟩, ⟨⟨Try.t106, _, rfl, rfl, rfl, rfl, rfl⟩, rfl, rfl, Try.underlying106⟩⟩
noncomputable def aj3 : TE Try.prog := ⟨109, ⟨Try.t109.desc, 1, 8, .cE⟩, ⟨⟨Try.t109, _, rfl, rfl, rfl, rfl, rfl⟩, rfl, rfl, Try.underlying109⟩⟩
noncomputable def aj2 : TE Try.prog := ⟨113, ⟨Try.t113.desc, 1, 8, .cE⟩, ⟨⟨Try.t113, _, rfl, rfl, rfl, rfl, rfl⟩, rfl, rfl, Try.underlying113⟩⟩
noncomputable def aj1 : TE Try.prog := ⟨114, ⟨Try.t114.desc, 1, 8, .cE⟩, ⟨⟨Try.t114, _, rfl, rfl, rfl, rfl, rfl⟩, rfl, rfl, Try.underlying114⟩⟩
noncomputable def LI : TE Try.prog := ⟨115, ⟨Try.t115.desc, 1, 8, .kX⟩, ⟨⟨Try.t115, _, rfl, rfl, rfl, rfl, rfl⟩, rfl, rfl, Try.underlying115⟩⟩
noncomputable def aj0 : TE Try.prog := ⟨120, ⟨Try.t120.desc, 1, 8, .int .u64 (0)⟩, ⟨⟨Try.t120, _, rfl, rfl, rfl, rfl, rfl⟩, rfl, rfl, Try.underlying120⟩⟩
noncomputable def ai9 : TE Try.prog := ⟨124, ⟨Try.t124.desc, 1, 8, .cE⟩, ⟨⟨Try.t124, _, rfl, rfl, rfl, rfl, rfl⟩, rfl, rfl, Try.underlying124⟩⟩
noncomputable def ai8 : TE Try.prog := ⟨125, ⟨Try.t124.desc, 1, 8, .cE⟩, ⟨⟨Try.t125, _, rfl, rfl, rfl, rfl, rfl⟩, rfl, rfl, Try.underlying125⟩⟩
noncomputable def oK : TE Try.prog := ⟨128, ⟨Try.t128.desc, 1, 8, .cY⟩, ⟨⟨Try.t128, _, rfl, rfl, rfl, rfl, rfl⟩, rfl, rfl, Try.underlying128⟩⟩
noncomputable def ai7 : TE Try.prog := ⟨129, ⟨Try.t129.desc, 1, 8, .cE⟩, ⟨⟨Try.t129, _, rfl, rfl, rfl, rfl, rfl⟩, rfl, rfl, Try.underlying129⟩⟩
noncomputable def ai6 : TE Try.prog := ⟨134, ⟨Try.t134.desc, 1, 8, .cE⟩, ⟨⟨Try.t134, _, rfl, rfl, rfl, rfl, rfl⟩, rfl, rfl, Try.underlying134⟩⟩
noncomputable def ai5 : TE Try.prog := ⟨135, ⟨Try.t134.desc, 1, 8, .cE⟩, ⟨⟨Try.t135, _, rfl, rfl, rfl, rfl, rfl⟩, rfl, rfl, Try.underlying135⟩⟩
noncomputable def LH : TE Try.prog := ⟨147, ⟨Try.t147.desc, 1, 24, .aL⟩, ⟨⟨Try.t147, _, rfl, rfl, rfl, rfl, rfl⟩, rfl, rfl, Try.underlying147⟩⟩
noncomputable def ai4 : TE Try.prog := ⟨150, ⟨Try.t150.desc, 1, 8, .cE⟩, ⟨⟨Try.t150, _, rfl, rfl, rfl, rfl, rfl⟩, rfl, rfl, Try.underlying150⟩⟩
noncomputable def ai3 : TE Try.prog := ⟨151, ⟨Try.t150.desc, 1, 8, .cE⟩, ⟨⟨Try.t151, _, rfl, rfl, rfl, rfl, rfl⟩, rfl, rfl, Try.underlying151⟩⟩
noncomputable def ai2 : TE Try.prog := ⟨153, ⟨Try.t153.desc, 1, 8, .cE⟩, ⟨⟨Try.t153, _, rfl, rfl, rfl, rfl, rfl⟩, rfl, rfl, Try.underlying153⟩⟩
noncomputable def ai1 : TE Try.prog := ⟨156, ⟨Try.t156.desc, 1, 8, .cY⟩, ⟨⟨Try.t156, _, rfl, rfl, rfl, rfl, rfl⟩, rfl, rfl, Try.underlying156⟩⟩
noncomputable def ai0 : TE Try.prog := ⟨160, ⟨Try.t160.desc, 1, 8, .cE⟩, ⟨⟨Try.t160, _, rfl, rfl, rfl, rfl, rfl⟩, rfl, rfl, Try.underlying160⟩⟩
noncomputable def LG : TE Try.prog := ⟨161, ⟨Try.t161.desc, 1, 8, .kX⟩, ⟨⟨Try.t161, _, rfl, rfl, rfl, rfl, rfl⟩, rfl, rfl, Try.underlying161⟩⟩
noncomputable def ah9 : TE Try.prog := ⟨166, ⟨Try.t166.desc, 1, 8, .int .u64 (0)⟩, ⟨⟨Try.t166, _, rfl, rfl, rfl, rfl, rfl⟩, rfl, rfl, Try.underlying166⟩⟩
noncomputable def LF : TE Try.prog := ⟨176, ⟨Try.t5.desc, 1, 1, .int .u8 (0)⟩, ⟨⟨Try.t176, _, rfl, rfl, rfl, rfl, rfl⟩, rfl, rfl, Try.underlying176⟩⟩
noncomputable def LD : TE Try.prog := ⟨177, ⟨Try.t5.desc, 1, 1, .int .u8 (0)⟩, ⟨⟨Try.t177, _, rfl, rfl, rfl, rfl, rfl⟩, rfl, rfl, Try.underlying177⟩⟩
noncomputable def LC : TE Try.prog := ⟨178, ⟨Try.t178.desc, 1, 8, .cE⟩, ⟨⟨Try.t178, _, rfl, rfl, rfl, rfl, rfl⟩, rfl, rfl, Try.underlying178⟩⟩
noncomputable def LB : TE Try.prog := ⟨179, ⟨Try.t179.desc, 1, 8, .cY⟩, ⟨⟨Try.t179, _, rfl, rfl, rfl, rfl, rfl⟩, rfl, rfl, Try.underlying179⟩⟩
noncomputable def LA : TE Try.prog := ⟨180, ⟨Try.t21.desc, 1, 4, .int .i32 (0)⟩, ⟨⟨Try.t180, _, rfl, rfl, rfl, rfl, rfl⟩, rfl, rfl, Try.underlying180⟩⟩
noncomputable def L9 : TE Try.prog := ⟨181, ⟨Try.t21.desc, 1, 4, .int .i32 (0)⟩, ⟨⟨Try.t181, _, rfl, rfl, rfl, rfl, rfl⟩, rfl, rfl, Try.underlying181⟩⟩
noncomputable def L8 : TE Try.prog := ⟨182, ⟨Try.t182.desc, 11, 48, .agg [.int .u64 (0), .int .u64 (0), .int .u32 (0), .int .u8 (0), .int .u8 (0), .int .u8 (0), .int .u8 (0), .cE, .cY, .int .i32 (0), .int .i32 (0)]⟩, ⟨⟨Try.t182, _, rfl, rfl, rfl, rfl, rfl⟩, rfl, rfl, Try.underlying182⟩⟩
noncomputable def L7 : TE Try.prog := ⟨183, ⟨Try.t182.desc, 11, 48, .agg [.int .u64 (0), .int .u64 (0), .int .u32 (0), .int .u8 (0), .int .u8 (0), .int .u8 (0), .int .u8 (0), .cE, .cY, .int .i32 (0), .int .i32 (0)]⟩, ⟨⟨Try.t183, _, rfl, rfl, rfl, rfl, rfl⟩, rfl, rfl, Try.underlying183⟩⟩
noncomputable def ac9 : FE Try.prog := ⟨11, ⟨Try.f11.body.getD .skip, 158, [.tmp 2], some (rle true [1, 1, 14, 7, 1, 6, 1, 30, 1, 1, 3, 62, 1, 27, 1, 1])⟩, ⟨⟨Try.f11, Try.func11, rfl, rfl, rfl⟩, Try.call11⟩⟩
noncomputable def ac8 : FE Try.prog := ⟨14, ⟨Try.f14.body.getD .skip, 38, [.tmp 0], some (rle true [4, 32, 1, 1])⟩, ⟨⟨Try.f14, Try.func14, rfl, rfl, rfl⟩, Try.call14⟩⟩
noncomputable def ac7 : FE Try.prog := ⟨16, ⟨Try.f16.body.getD .skip, 5, [.cell 2 28], some (rle true [1, 1, 1, 2])⟩, ⟨⟨Try.f16, Try.func16, rfl, rfl, rfl⟩, Try.call16⟩⟩
noncomputable def K8 : FE Try.prog := ⟨17, ⟨Try.f17.body.getD .skip, 85, [.tmp 6, .tmp 7], some (rle true [3, 3, 2, 1, 2, 1, 6, 7, 1, 7, 4, 19, 1, 1, 1, 1, 1, 11, 1, 12])⟩, ⟨⟨Try.f17, Try.func17, rfl, rfl, rfl⟩, Try.call17⟩⟩
noncomputable def ac6 : FE Try.prog := ⟨18, ⟨Try.f18.body.getD .skip, 43, [.tmp 4], some (rle true [2, 2, 2, 4, 1, 3, 1, 27, 1])⟩, ⟨⟨Try.f18, Try.func18, rfl, rfl, rfl⟩, Try.call18⟩⟩
noncomputable def ac5 : FE Try.prog := ⟨19, ⟨Try.f19.body.getD .skip, 100, [.tmp 4], some (rle true [2, 1, 9, 2, 1, 51, 1, 33])⟩, ⟨⟨Try.f19, Try.func19, rfl, rfl, rfl⟩, Try.call19⟩⟩
noncomputable def ac3 : FE Try.prog := ⟨22, ⟨Try.f22.body.getD .skip, 75, [.tmp 4], some (rle true [2, 2, 2, 1, 2, 2, 1, 14, 4, 2, 1, 10, 1, 31])⟩, ⟨⟨Try.f22, Try.func22, rfl, rfl, rfl⟩, Try.call22⟩⟩
noncomputable def ac2 : FE Try.prog := ⟨25, ⟨Try.f25.body.getD .skip, 22, [.cell 4 61, .tmp 5], some (rle true [2, 1, 6, 1, 1, 2, 2, 3, 1, 3])⟩, ⟨⟨Try.f25, Try.func25, rfl, rfl, rfl⟩, Try.call25⟩⟩
noncomputable def ac1 : FE Try.prog := ⟨26, ⟨Try.f26.body.getD .skip, 4, [.tmp 0], some (rle true [1, 3])⟩, ⟨⟨Try.f26, Try.func26, rfl, rfl, rfl⟩, Try.call26⟩⟩
noncomputable def ac0 : FE Try.prog := ⟨27, ⟨Try.f27.body.getD .skip, 52, [.tmp 0], some (rle true [8, 44])⟩, ⟨⟨Try.f27, Try.func27, rfl, rfl, rfl⟩, Try.call27⟩⟩
noncomputable def ab9 : FE Try.prog := ⟨32, ⟨Try.f32.body.getD .skip, 11, [.tmp 2], some (rle true [1, 1, 1, 1, 1, 6])⟩, ⟨⟨Try.f32, Try.func32, rfl, rfl, rfl⟩, Try.call32⟩⟩
noncomputable def ab8 : FE Try.prog := ⟨33, ⟨Try.f33.body.getD .skip, 49, [.tmp 4], some (rle true [2, 1, 4, 2, 1, 39])⟩, ⟨⟨Try.f33, Try.func33, rfl, rfl, rfl⟩, Try.call33⟩⟩
noncomputable def ab7 : FE Try.prog := ⟨34, ⟨Try.f34.body.getD .skip, 26, [.tmp 6], some (rle true [3, 1, 1, 1, 2, 1, 1, 5, 1, 10])⟩, ⟨⟨Try.f34, Try.func34, rfl, rfl, rfl⟩, Try.call34⟩⟩
noncomputable def ab6 : FE Try.prog := ⟨36, ⟨Try.f36.body.getD .skip, 48, [.tmp 10], some (rle true [5, 1, 1, 2, 4, 1, 1, 21, 1, 11])⟩, ⟨⟨Try.f36, Try.func36, rfl, rfl, rfl⟩, Try.call36⟩⟩
noncomputable def ab5 : FE Try.prog := ⟨37, ⟨Try.f37.body.getD .skip, 28, [.cell 6 31, .tmp 7], some (rle true [3, 1, 6, 2, 2, 5, 1, 2, 1, 5])⟩, ⟨⟨Try.f37, Try.func37, rfl, rfl, rfl⟩, Try.call37⟩⟩
noncomputable def ab4 : FE Try.prog := ⟨38, ⟨Try.f38.body.getD .skip, 34, [.tmp 6], some (rle true [3, 1, 1, 1, 3, 1, 1, 12, 1, 10])⟩, ⟨⟨Try.f38, Try.func38, rfl, rfl, rfl⟩, Try.call38⟩⟩
noncomputable def ab3 : FE Try.prog := ⟨39, ⟨Try.f39.body.getD .skip, 14, [.tmp 4], some (rle true [2, 1, 2, 1, 1, 7])⟩, ⟨⟨Try.f39, Try.func39, rfl, rfl, rfl⟩, Try.call39⟩⟩
noncomputable def ab2 : FE Try.prog := ⟨40, ⟨Try.f40.body.getD .skip, 13, [.tmp 0], some (rle true [2, 11])⟩, ⟨⟨Try.f40, Try.func40, rfl, rfl, rfl⟩, Try.call40⟩⟩
noncomputable def ab1 : FE Try.prog := ⟨41, ⟨Try.f41.body.getD .skip, 28, [.tmp 2], some (rle true [1, 1, 2, 1, 1, 22])⟩, ⟨⟨Try.f41, Try.func41, rfl, rfl, rfl⟩, Try.call41⟩⟩
noncomputable def ab0 : FE Try.prog := ⟨43, ⟨Try.f43.body.getD .skip, 40, [.tmp 6], some (rle true [3, 1, 5, 1, 1, 7, 2, 6, 1, 4, 1, 8])⟩, ⟨⟨Try.f43, Try.func43, rfl, rfl, rfl⟩, Try.call43⟩⟩
noncomputable def aa9 : FE Try.prog := ⟨57, ⟨Try.f57.body.getD .skip, 55, [.tmp 2], some (rle true [1, 1, 3, 2, 1, 1, 3, 18, 1, 6, 3, 12, 1, 2])⟩, ⟨⟨Try.f57, Try.func57, rfl, rfl, rfl⟩, Try.call57⟩⟩
noncomputable def aa8 : FE Try.prog := ⟨58, ⟨Try.f58.body.getD .skip, 31, [.tmp 2], some (rle true [1, 1, 2, 1, 1, 1, 4, 3, 2, 7, 1, 7])⟩, ⟨⟨Try.f58, Try.func58, rfl, rfl, rfl⟩, Try.call58⟩⟩
noncomputable def aa7 : FE Try.prog := ⟨59, ⟨Try.f59.body.getD .skip, 30, [.cell 4 46], some (rle true [3, 1, 3, 4, 1, 5, 3, 10])⟩, ⟨⟨Try.f59, Try.func59, rfl, rfl, rfl⟩, Try.call59⟩⟩
noncomputable def aa6 : FE Try.prog := ⟨60, ⟨Try.f60.body.getD .skip, 40, [.tmp 6, .tmp 7], some (rle true [3, 3, 2, 1, 2, 1, 1, 7, 1, 7, 4, 8])⟩, ⟨⟨Try.f60, Try.func60, rfl, rfl, rfl⟩, Try.call60⟩⟩
noncomputable def xZ : FE Try.prog := ⟨63, ⟨Try.f63.body.getD .skip, 18, [.tmp 2], some (rle true [1, 1, 2, 1, 5, 4, 1, 3])⟩, ⟨⟨Try.f63, Try.func63, rfl, rfl, rfl⟩, Try.call63⟩⟩
noncomputable def E2 : FE Try.prog := ⟨64, ⟨Try.f64.body.getD .skip, 20, [.tmp 4], some (rle true [2, 2, 3, 4, 3, 2, 1, 2, 1])⟩, ⟨⟨Try.f64, Try.func64, rfl, rfl, rfl⟩, Try.call64⟩⟩
noncomputable def K7 : FE Try.prog := ⟨65, ⟨Try.f65.body.getD .skip, 8, [.tmp 4], some (rle true [2, 2, 1, 3])⟩, ⟨⟨Try.f65, Try.func65, rfl, rfl, rfl⟩, Try.call65⟩⟩
noncomputable def GB : FE Try.prog := ⟨66, ⟨Try.f66.body.getD .skip, 12, [.tmp 2], some (rle true [1, 1, 1, 9])⟩, ⟨⟨Try.f66, Try.func66, rfl, rfl, rfl⟩, Try.call66⟩⟩
noncomputable def aa5 : FE Try.prog := ⟨67, ⟨Try.f67.body.getD .skip, 43, [.tmp 2], some (rle true [4, 1, 1, 26, 1, 1, 1, 5, 1, 1, 1])⟩, ⟨⟨Try.f67, Try.func67, rfl, rfl, rfl⟩, Try.call67⟩⟩
noncomputable def aa4 : FE Try.prog := ⟨68, ⟨Try.f68.body.getD .skip, 22, [.cell 2 61], some (rle true [1, 1, 1, 5, 1, 13])⟩, ⟨⟨Try.f68, Try.func68, rfl, rfl, rfl⟩, Try.call68⟩⟩
noncomputable def aa3 : FE Try.prog := ⟨69, ⟨Try.f69.body.getD .skip, 88, [.tmp 8, .tmp 9], some (rle true [4, 2, 1, 1, 2, 1, 1, 1, 1, 1, 3, 1, 4, 20, 1, 7, 4, 25, 1, 7])⟩, ⟨⟨Try.f69, Try.func69, rfl, rfl, rfl⟩, Try.call69⟩⟩
noncomputable def aa2 : FE Try.prog := ⟨70, ⟨Try.f70.body.getD .skip, 9, [.tmp 2], some (rle true [1, 1, 1, 6])⟩, ⟨⟨Try.f70, Try.func70, rfl, rfl, rfl⟩, Try.call70⟩⟩
noncomputable def aa1 : FE Try.prog := ⟨71, ⟨Try.f71.body.getD .skip, 8, [.tmp 2], some (rle true [1, 1, 1, 1, 1, 3])⟩, ⟨⟨Try.f71, Try.func71, rfl, rfl, rfl⟩, Try.call71⟩⟩
noncomputable def aa0 : FE Try.prog := ⟨72, ⟨Try.f72.body.getD .skip, 4, [.tmp 2], some (rle true [3, 1])⟩, ⟨⟨Try.f72, Try.func72, rfl, rfl, rfl⟩, Try.call72⟩⟩
noncomputable def ZZ : FE Try.prog := ⟨73, ⟨Try.f73.body.getD .skip, 12, [.tmp 2], some (rle true [1, 1, 1, 9])⟩, ⟨⟨Try.f73, Try.func73, rfl, rfl, rfl⟩, Try.call73⟩⟩
noncomputable def ZY : FE Try.prog := ⟨74, ⟨Try.f74.body.getD .skip, 26, [.tmp 4], some (rle true [2, 2, 2, 1, 5, 4, 1, 9])⟩, ⟨⟨Try.f74, Try.func74, rfl, rfl, rfl⟩, Try.call74⟩⟩
noncomputable def ZX : FE Try.prog := ⟨75, ⟨Try.f75.body.getD .skip, 3, [.tmp 2], some (rle true [0, 2, 1])⟩, ⟨⟨Try.f75, Try.func75, rfl, rfl, rfl⟩, Try.call75⟩⟩
noncomputable def ZW : FE Try.prog := ⟨76, ⟨Try.f76.body.getD .skip, 30, [.tmp 6], some (rle true [3, 1, 1, 1, 3, 12, 1, 8])⟩, ⟨⟨Try.f76, Try.func76, rfl, rfl, rfl⟩, Try.call76⟩⟩
noncomputable def ZV : FE Try.prog := ⟨77, ⟨Try.f77.body.getD .skip, 8, [.cell 2 31], some (rle true [3, 5])⟩, ⟨⟨Try.f77, Try.func77, rfl, rfl, rfl⟩, Try.call77⟩⟩
noncomputable def ZU : FE Try.prog := ⟨78, ⟨Try.f78.body.getD .skip, 23, [], some (rle true [2, 2, 1, 18])⟩, ⟨⟨Try.f78, Try.func78, rfl, rfl, rfl⟩, Try.call78⟩⟩
noncomputable def ZT : FE Try.prog := ⟨79, ⟨Try.f79.body.getD .skip, 23, [], some (rle true [2, 2, 1, 18])⟩, ⟨⟨Try.f79, Try.func79, rfl, rfl, rfl⟩, Try.call79⟩⟩
noncomputable def ZS : FE Try.prog := ⟨80, ⟨Try.f80.body.getD .skip, 24, [], some (rle true [3, 2, 1, 18])⟩, ⟨⟨Try.f80, Try.func80, rfl, rfl, rfl⟩, Try.call80⟩⟩
noncomputable def ZR : FE Try.prog := ⟨81, ⟨Try.f81.body.getD .skip, 6, [.tmp 4], some (rle true [5, 1])⟩, ⟨⟨Try.f81, Try.func81, rfl, rfl, rfl⟩, Try.call81⟩⟩
noncomputable def ZQ : FE Try.prog := ⟨82, ⟨Try.f82.body.getD .skip, 20, [.tmp 4], some (rle true [3, 1, 1, 15])⟩, ⟨⟨Try.f82, Try.func82, rfl, rfl, rfl⟩, Try.call82⟩⟩
noncomputable def ZP : FE Try.prog := ⟨83, ⟨Try.f83.body.getD .skip, 9, [.tmp 3], some (rle true [2, 1, 1, 5])⟩, ⟨⟨Try.f83, Try.func83, rfl, rfl, rfl⟩, Try.call83⟩⟩
noncomputable def ZO : FE Try.prog := ⟨84, ⟨Try.f84.body.getD .skip, 12, [.tmp 4], some (rle true [2, 2, 1, 7])⟩, ⟨⟨Try.f84, Try.func84, rfl, rfl, rfl⟩, Try.call84⟩⟩
noncomputable def ZN : FE Try.prog := ⟨85, ⟨Try.f85.body.getD .skip, 19, [.tmp 4], some (rle true [2, 2, 1, 14])⟩, ⟨⟨Try.f85, Try.func85, rfl, rfl, rfl⟩, Try.call85⟩⟩
noncomputable def ZM : FE Try.prog := ⟨86, ⟨Try.f86.body.getD .skip, 8, [.tmp 2], some (rle true [1, 1, 1, 1, 1, 3])⟩, ⟨⟨Try.f86, Try.func86, rfl, rfl, rfl⟩, Try.call86⟩⟩
noncomputable def ZL : FE Try.prog := ⟨88, ⟨Try.f88.body.getD .skip, 6, [.tmp 4], some (rle true [5, 1])⟩, ⟨⟨Try.f88, Try.func88, rfl, rfl, rfl⟩, Try.call88⟩⟩
noncomputable def ZK : FE Try.prog := ⟨89, ⟨Try.f89.body.getD .skip, 10, [.tmp 4], some (rle true [2, 2, 1, 5])⟩, ⟨⟨Try.f89, Try.func89, rfl, rfl, rfl⟩, Try.call89⟩⟩
noncomputable def ZJ : FE Try.prog := ⟨90, ⟨Try.f90.body.getD .skip, 8, [.tmp 2], some (rle true [1, 1, 1, 1, 1, 3])⟩, ⟨⟨Try.f90, Try.func90, rfl, rfl, rfl⟩, Try.call90⟩⟩
noncomputable def ZI : FE Try.prog := ⟨96, ⟨Try.f96.body.getD .skip, 38, [.cell 2 46], some (rle true [6, 7, 1, 24])⟩, ⟨⟨Try.f96, Try.func96, rfl, rfl, rfl⟩, Try.call96⟩⟩
noncomputable def K6 : FE Try.prog := ⟨97, ⟨Try.f97.body.getD .skip, 6, [.tmp 2], some (rle true [1, 1, 1, 3])⟩, ⟨⟨Try.f97, Try.func97, rfl, rfl, rfl⟩, Try.call97⟩⟩
noncomputable def K4 : FE Try.prog := ⟨98, ⟨Try.f98.body.getD .skip, 8, [.tmp 4], some (rle true [2, 2, 1, 3])⟩, ⟨⟨Try.f98, Try.func98, rfl, rfl, rfl⟩, Try.call98⟩⟩
noncomputable def TD : FE Try.prog := ⟨99, ⟨Try.f99.body.getD .skip, 9, [.tmp 2], some (rle true [1, 1, 1, 6])⟩, ⟨⟨Try.f99, Try.func99, rfl, rfl, rfl⟩, Try.call99⟩⟩
noncomputable def ID : FE Try.prog := ⟨100, ⟨Try.f100.body.getD .skip, 9, [.tmp 2], some (rle true [1, 1, 1, 6])⟩, ⟨⟨Try.f100, Try.func100, rfl, rfl, rfl⟩, Try.call100⟩⟩
noncomputable def P4 : FE Try.prog := ⟨101, ⟨Try.f101.body.getD .skip, 4, [.tmp 2], some (rle true [3, 1])⟩, ⟨⟨Try.f101, Try.func101, rfl, rfl, rfl⟩, Try.call101⟩⟩
noncomputable def P3 : FE Try.prog := ⟨102, ⟨Try.f102.body.getD .skip, 23, [], some (rle true [2, 1, 1, 4, 3, 10, 1, 1])⟩, ⟨⟨Try.f102, Try.func102, rfl, rfl, rfl⟩, Try.call102⟩⟩
noncomputable def P2 : FE Try.prog := ⟨103, ⟨Try.f103.body.getD .skip, 18, [.tmp 4, .tmp 5], some (rle true [2, 2, 2, 12])⟩, ⟨⟨Try.f103, Try.func103, rfl, rfl, rfl⟩, Try.call103⟩⟩
noncomputable def P1 : FE Try.prog := ⟨105, ⟨Try.f105.body.getD .skip, 33, [.tmp 6], some (rle true [3, 3, 2, 8, 1, 16])⟩, ⟨⟨Try.f105, Try.func105, rfl, rfl, rfl⟩, Try.call105⟩⟩
noncomputable def P0 : FE Try.prog := ⟨106, ⟨Try.f106.body.getD .skip, 27, [], some (rle true [5, 1, 1, 6, 2, 11, 1])⟩, ⟨⟨Try.f106, Try.func106, rfl, rfl, rfl⟩, Try.call106⟩⟩
noncomputable def OZ : FE Try.prog := ⟨107, ⟨Try.f107.body.getD .skip, 17, [.tmp 4], some (rle true [5, 12])⟩, ⟨⟨Try.f107, Try.func107, rfl, rfl, rfl⟩, Try.call107⟩⟩
noncomputable def OX : FE Try.prog := ⟨109, ⟨Try.f109.body.getD .skip, 30, [], some (rle true [3, 1, 1, 2, 1, 11, 4, 5, 1, 1])⟩, ⟨⟨Try.f109, Try.func109, rfl, rfl, rfl⟩, Try.call109⟩⟩
noncomputable def OW : FE Try.prog := ⟨111, ⟨Try.f111.body.getD .skip, 7, [.tmp 2], some (rle true [1, 1, 2, 3])⟩, ⟨⟨Try.f111, Try.func111, rfl, rfl, rfl⟩, Try.call111⟩⟩
noncomputable def OV : FE Try.prog := ⟨113, ⟨Try.f113.body.getD .skip, 91, [], some (rle true [2, 1, 1, 1, 2, 1, 1, 2, 4, 48, 1, 3, 4, 18, 1, 1])⟩, ⟨⟨Try.f113, Try.func113, rfl, rfl, rfl⟩, Try.call113⟩⟩
noncomputable def OU : FE Try.prog := ⟨114, ⟨Try.f114.body.getD .skip, 49, [.tmp 6, .tmp 7], some (rle true [3, 3, 6, 5, 1, 13, 1, 17])⟩, ⟨⟨Try.f114, Try.func114, rfl, rfl, rfl⟩, Try.call114⟩⟩
noncomputable def UX : FE Try.prog := ⟨116, ⟨Try.f116.body.getD .skip, 10, [], some (rle true [2, 8])⟩, ⟨⟨Try.f116, Try.func116, rfl, rfl, rfl⟩, Try.call116⟩⟩
noncomputable def OT : FE Try.prog := ⟨117, ⟨Try.f117.body.getD .skip, 17, [.tmp 4], some (rle true [5, 12])⟩, ⟨⟨Try.f117, Try.func117, rfl, rfl, rfl⟩, Try.call117⟩⟩
noncomputable def IC : FE Try.prog := ⟨118, ⟨Try.f118.body.getD .skip, 20, [.tmp 4], some (rle true [2, 2, 3, 4, 3, 2, 1, 2, 1])⟩, ⟨⟨Try.f118, Try.func118, rfl, rfl, rfl⟩, Try.call118⟩⟩
noncomputable def UW : FE Try.prog := ⟨120, ⟨Try.f120.body.getD .skip, 14, [], some (rle true [2, 12])⟩, ⟨⟨Try.f120, Try.func120, rfl, rfl, rfl⟩, Try.call120⟩⟩
noncomputable def IB : FE Try.prog := ⟨121, ⟨Try.f121.body.getD .skip, 20, [.tmp 4], some (rle true [2, 2, 3, 4, 3, 2, 1, 2, 1])⟩, ⟨⟨Try.f121, Try.func121, rfl, rfl, rfl⟩, Try.call121⟩⟩
noncomputable def OS : FE Try.prog := ⟨122, ⟨Try.f122.body.getD .skip, 6, [.tmp 2], some (rle true [1, 1, 1, 3])⟩, ⟨⟨Try.f122, Try.func122, rfl, rfl, rfl⟩, Try.call122⟩⟩
noncomputable def UU : FE Try.prog := ⟨123, ⟨Try.f123.body.getD .skip, 28, [], some (rle true [1, 1, 2, 5, 1, 18])⟩, ⟨⟨Try.f123, Try.func123, rfl, rfl, rfl⟩, Try.call123⟩⟩
noncomputable def OR : FE Try.prog := ⟨124, ⟨Try.f124.body.getD .skip, 6, [.tmp 2], some (rle true [1, 1, 1, 3])⟩, ⟨⟨Try.f124, Try.func124, rfl, rfl, rfl⟩, Try.call124⟩⟩
noncomputable def aC1 : vB Try.prog := ⟨20, Ins.B3, Ins.al4⟩
noncomputable def an8 : vB Try.prog := ⟨104, (uP 128 oK.i), RY Ins.RI rfl⟩
noncomputable def an7 : vB Try.prog := ⟨108, cK, Ins.WS⟩
noncomputable def OJ : vB Try.prog := ⟨112, cK, mD Try.func112 (by kernel_rfl) (by kernel_rfl) (by kernel_rfl) (by kernel_rfl)⟩
noncomputable def OI : vB Try.prog := ⟨115, (gG 128), sO (tS := 95) (tR := 4) (e := 128) (size := 1) Try.func115 (by kernel_rfl) (by kernel_rfl) (by kernel_rfl) (by kernel_rfl) Try.underlying95 (fun w => oK.ok.cS) (fun h => TypeDesc.noConfusion (Option.some.inj (Try.underlying128.symm.trans h)))⟩
noncomputable def OH : vB Try.prog := ⟨119, cK, mD Try.func119 (by kernel_rfl) (by kernel_rfl) (by kernel_rfl) (by kernel_rfl)⟩
noncomputable def eqs : List (QE Try.prog) := [⟨25, by kernel_rfl, by kernel_rfl⟩, ⟨28, by kernel_rfl, by kernel_rfl⟩, ⟨61, by kernel_rfl, by kernel_rfl⟩]
noncomputable def env : Env := { P := Try.prog, I1 := by kernel_rfl, types := (.node 77 (.node 32 (.node 21 (.node 9 (.node 4 (.node 3 (.leaf ty2) (.leaf ty3)) (.node 5 (.leaf ty4) (.leaf ty5))) (.node 12 (.node 11 (.leaf ty9) (.leaf aA4)) (.node 17 (.leaf W4) (.node 18 (.leaf W3) (.leaf aA3))))) (.node 27 (.node 24 (.node 22 (.leaf W2) (.leaf W1)) (.node 25 (.leaf W0) (.node 26 (.leaf VZ) (.leaf VY)))) (.node 29 (.node 28 (.leaf VX) (.leaf J0)) (.node 30 (.leaf VW) (.node 31 (.leaf VV) (.leaf eQ)))))) (.node 48 (.node 43 (.node 37 (.node 36 (.leaf VU) (.leaf VT)) (.node 40 (.leaf aA2) (.node 41 (.leaf VS) (.leaf RK)))) (.node 45 (.node 44 (.leaf VR) (.leaf VQ)) (.node 46 (.leaf VP) (.node 47 (.leaf VO) (.leaf VN))))) (.node 60 (.node 57 (.node 56 (.leaf B8) (.leaf VM)) (.node 58 (.leaf RJ) (.node 59 (.leaf VK) (.leaf VJ)))) (.node 67 (.node 61 (.leaf VI) (.leaf uC)) (.node 69 (.leaf aA1) (.node 74 (.leaf aA0) (.leaf az9))))))) (.node 128 (.node 104 (.node 98 (.node 95 (.node 81 (.leaf az8) (.leaf az7)) (.node 96 (.leaf VH) (.node 97 (.leaf VG) (.leaf VF)))) (.node 100 (.node 99 (.leaf VE) (.leaf VD)) (.node 101 (.leaf LK) (.node 102 (.leaf aj7) (.leaf aj6))))) (.node 114 (.node 106 (.node 105 (.leaf LJ) (.leaf aj5)) (.node 109 (.leaf aj4) (.node 113 (.leaf aj3) (.leaf aj2)))) (.node 120 (.node 115 (.leaf aj1) (.leaf LI)) (.node 124 (.leaf aj0) (.node 125 (.leaf ai9) (.leaf ai8)))))) (.node 161 (.node 150 (.node 134 (.node 129 (.leaf oK) (.leaf ai7)) (.node 135 (.leaf ai6) (.node 147 (.leaf ai5) (.leaf LH)))) (.node 153 (.node 151 (.leaf ai4) (.leaf ai3)) (.node 156 (.leaf ai2) (.node 160 (.leaf ai1) (.leaf ai0))))) (.node 179 (.node 176 (.node 166 (.leaf LG) (.leaf ah9)) (.node 177 (.leaf LF) (.node 178 (.leaf LD) (.leaf LC)))) (.node 181 (.node 180 (.leaf LB) (.leaf LA)) (.node 182 (.leaf L9) (.node 183 (.leaf L8) (.leaf L7)))))))), funcs := (.node 76 (.node 41 (.node 27 (.node 18 (.node 16 (.node 14 (.leaf ac9) (.leaf ac8)) (.node 17 (.leaf ac7) (.leaf K8))) (.node 22 (.node 19 (.leaf ac6) (.leaf ac5)) (.node 25 (.leaf ac3) (.node 26 (.leaf ac2) (.leaf ac1))))) (.node 36 (.node 33 (.node 32 (.leaf ac0) (.leaf ab9)) (.node 34 (.leaf ab8) (.leaf ab7))) (.node 38 (.node 37 (.leaf ab6) (.leaf ab5)) (.node 39 (.leaf ab4) (.node 40 (.leaf ab3) (.leaf ab2)))))) (.node 66 (.node 59 (.node 57 (.node 43 (.leaf ab1) (.leaf ab0)) (.node 58 (.leaf aa9) (.leaf aa8))) (.node 63 (.node 60 (.leaf aa7) (.leaf aa6)) (.node 64 (.leaf xZ) (.node 65 (.leaf E2) (.leaf K7))))) (.node 71 (.node 68 (.node 67 (.leaf GB) (.leaf aa5)) (.node 69 (.leaf aa4) (.node 70 (.leaf aa3) (.leaf aa2)))) (.node 73 (.node 72 (.leaf aa1) (.leaf aa0)) (.node 74 (.leaf ZZ) (.node 75 (.leaf ZY) (.leaf ZX))))))) (.node 100 (.node 85 (.node 80 (.node 78 (.node 77 (.leaf ZW) (.leaf ZV)) (.node 79 (.leaf ZU) (.leaf ZT))) (.node 82 (.node 81 (.leaf ZS) (.leaf ZR)) (.node 83 (.leaf ZQ) (.node 84 (.leaf ZP) (.leaf ZO))))) (.node 90 (.node 88 (.node 86 (.leaf ZN) (.leaf ZM)) (.node 89 (.leaf ZL) (.leaf ZK))) (.node 97 (.node 96 (.leaf ZJ) (.leaf ZI)) (.node 98 (.leaf K6) (.node 99 (.leaf K4) (.leaf TD)))))) (.node 113 (.node 105 (.node 102 (.node 101 (.leaf ID) (.leaf P4)) (.node 103 (.leaf P3) (.leaf P2))) (.node 107 (.node 106 (.leaf P1) (.leaf P0)) (.node 109 (.leaf OZ) (.node 111 (.leaf OX) (.leaf OW))))) (.node 120 (.node 116 (.node 114 (.leaf OV) (.leaf OU)) (.node 117 (.leaf UX) (.node 118 (.leaf OT) (.leaf IC)))) (.node 122 (.node 121 (.leaf UW) (.leaf IB)) (.node 123 (.leaf OS) (.node 124 (.leaf UU) (.leaf OR)))))))), DW := [aC1, an8, an7, OJ, OI, OH], eqs := eqs, rP := [Ins.BE, Ins.sS], bE := [Ins.WV] }
theorem YI : ∀ k, bF env.bE 11 k = true := fun _ => rfl
theorem YH : ∀ k, bF env.bE 14 k = true := fun _ => rfl
theorem YG : ∀ k, bF env.bE 16 k = true := fun _ => rfl
theorem NN : bF env.bE 17 0 = true := rfl
theorem NM : bF env.bE 17 1 = true := rfl
theorem NL : bF env.bE 17 2 = true := rfl
theorem NK : bF env.bE 17 3 = true := rfl
theorem NJ : bF env.bE 17 5 = true := rfl
theorem YE : ∀ k, bF env.bE 18 k = true := fun _ => rfl
theorem YD : ∀ k, bF env.bE 19 k = true := fun _ => rfl
theorem YB : ∀ k, bF env.bE 22 k = true := fun _ => rfl
theorem YA : ∀ k, bF env.bE 25 k = true := fun _ => rfl
theorem Y9 : ∀ k, bF env.bE 26 k = true := fun _ => rfl
theorem Y8 : ∀ k, bF env.bE 27 k = true := fun _ => rfl
theorem Y7 : ∀ k, bF env.bE 32 k = true := fun _ => rfl
theorem Y6 : ∀ k, bF env.bE 33 k = true := fun _ => rfl
theorem Y5 : ∀ k, bF env.bE 34 k = true := fun _ => rfl
theorem Y4 : ∀ k, bF env.bE 36 k = true := fun _ => rfl
theorem Y3 : ∀ k, bF env.bE 37 k = true := fun _ => rfl
theorem Y2 : ∀ k, bF env.bE 38 k = true := fun _ => rfl
theorem Y1 : ∀ k, bF env.bE 39 k = true := fun _ => rfl
theorem Y0 : ∀ k, bF env.bE 40 k = true := fun _ => rfl
theorem XZ : ∀ k, bF env.bE 41 k = true := fun _ => rfl
theorem XY : ∀ k, bF env.bE 43 k = true := fun _ => rfl
theorem XX : ∀ k, bF env.bE 57 k = true := fun _ => rfl
theorem XW : ∀ k, bF env.bE 58 k = true := fun _ => rfl
theorem XV : ∀ k, bF env.bE 59 k = true := fun _ => rfl
theorem XU : ∀ k, bF env.bE 60 k = true := fun _ => rfl
theorem FP : ∀ k, bF env.bE 63 k = true := fun _ => rfl
theorem FO : ∀ k, bF env.bE 64 k = true := fun _ => rfl
theorem FN : ∀ k, bF env.bE 65 k = true := fun _ => rfl
theorem FM : ∀ k, bF env.bE 66 k = true := fun _ => rfl
theorem XT : ∀ k, bF env.bE 67 k = true := fun _ => rfl
theorem XS : ∀ k, bF env.bE 68 k = true := fun _ => rfl
theorem XR : ∀ k, bF env.bE 69 k = true := fun _ => rfl
theorem XQ : ∀ k, bF env.bE 70 k = true := fun _ => rfl
theorem XP : ∀ k, bF env.bE 71 k = true := fun _ => rfl
theorem XO : ∀ k, bF env.bE 72 k = true := fun _ => rfl
theorem XN : ∀ k, bF env.bE 73 k = true := fun _ => rfl
theorem XM : ∀ k, bF env.bE 74 k = true := fun _ => rfl
theorem XL : ∀ k, bF env.bE 75 k = true := fun _ => rfl
theorem XK : ∀ k, bF env.bE 76 k = true := fun _ => rfl
theorem XJ : ∀ k, bF env.bE 77 k = true := fun _ => rfl
theorem XI : ∀ k, bF env.bE 78 k = true := fun _ => rfl
theorem XH : ∀ k, bF env.bE 79 k = true := fun _ => rfl
theorem XG : ∀ k, bF env.bE 80 k = true := fun _ => rfl
theorem XF : ∀ k, bF env.bE 81 k = true := fun _ => rfl
theorem XE : ∀ k, bF env.bE 82 k = true := fun _ => rfl
theorem XD : ∀ k, bF env.bE 83 k = true := fun _ => rfl
theorem XC : ∀ k, bF env.bE 84 k = true := fun _ => rfl
theorem XB : ∀ k, bF env.bE 85 k = true := fun _ => rfl
theorem XA : ∀ k, bF env.bE 86 k = true := fun _ => rfl
theorem X9 : ∀ k, bF env.bE 88 k = true := fun _ => rfl
theorem X8 : ∀ k, bF env.bE 89 k = true := fun _ => rfl
theorem X7 : ∀ k, bF env.bE 90 k = true := fun _ => rfl
theorem X6 : ∀ k, bF env.bE 96 k = true := fun _ => rfl
theorem FL : ∀ k, bF env.bE 97 k = true := fun _ => rfl
theorem FK : ∀ k, bF env.bE 98 k = true := fun _ => rfl
theorem X5 : ∀ k, bF env.bE 99 k = true := fun _ => rfl
theorem SX : ∀ k, bF env.bE 100 k = true := fun _ => rfl
theorem SW : ∀ k, bF env.bE 101 k = true := fun _ => rfl
theorem SV : ∀ k, bF env.bE 102 k = true := fun _ => rfl
theorem SU : ∀ k, bF env.bE 103 k = true := fun _ => rfl
theorem SR : ∀ k, bF env.bE 105 k = true := fun _ => rfl
theorem SQ : ∀ k, bF env.bE 106 k = true := fun _ => rfl
theorem SP : ∀ k, bF env.bE 107 k = true := fun _ => rfl
theorem SN : ∀ k, bF env.bE 109 k = true := fun _ => rfl
theorem SM : ∀ k, bF env.bE 111 k = true := fun _ => rfl
theorem SK : ∀ k, bF env.bE 113 k = true := fun _ => rfl
theorem SJ : ∀ k, bF env.bE 114 k = true := fun _ => rfl
theorem SI : ∀ k, bF env.bE 116 k = true := fun _ => rfl
theorem SH : ∀ k, bF env.bE 117 k = true := fun _ => rfl
theorem SG : ∀ k, bF env.bE 118 k = true := fun _ => rfl
theorem SF : ∀ k, bF env.bE 120 k = true := fun _ => rfl
theorem SE : ∀ k, bF env.bE 121 k = true := fun _ => rfl
theorem SD : ∀ k, bF env.bE 122 k = true := fun _ => rfl
theorem SC : ∀ k, bF env.bE 123 k = true := fun _ => rfl
theorem SB : ∀ k, bF env.bE 124 k = true := fun _ => rfl
theorem ti2 : ti env 2 = M.pure ⟨Go.TypeDesc.int (Go.IntKind.i64), 1, 8, .int .i64 (0)⟩ := rfl
theorem ti3 : ti env 3 = M.pure ⟨Go.TypeDesc.int (Go.IntKind.i64), 1, 8, .int .i64 (0)⟩ := rfl
theorem ti4 : ti env 4 = M.pure ⟨Go.TypeDesc.bool, 1, 1, .bool false⟩ := rfl
theorem ti5 : ti env 5 = M.pure ⟨Go.TypeDesc.int (Go.IntKind.u8), 1, 1, .int .u8 (0)⟩ := rfl
theorem ti9 : ti env 9 = M.pure ⟨Go.TypeDesc.string, 1, 16, .str []⟩ := rfl
theorem aB2 : ti env 11 = M.pure ⟨Go.TypeDesc.string, 1, 16, .str []⟩ := rfl
theorem WK : ti env 12 = M.pure ⟨Go.TypeDesc.int (Go.IntKind.u64), 1, 8, .int .u64 (0)⟩ := rfl
theorem WJ : ti env 17 = M.pure ⟨Go.TypeDesc.pointer 183, 1, 8, .cY⟩ := rfl
theorem aB1 : ti env 18 = M.pure ⟨Go.TypeDesc.struct #[⟨"typ", 17, 0, false, "", "internal/runtime/maps", 0⟩], 1, 8, .agg [.cY]⟩ := rfl
theorem WI : ti env 21 = M.pure ⟨Go.TypeDesc.int (Go.IntKind.i32), 1, 4, .int .i32 (0)⟩ := rfl
theorem J2 : ti env 22 = M.pure ⟨Go.TypeDesc.pointer 59, 1, 8, .cY⟩ := rfl
theorem WH : ti env 24 = M.pure ⟨Go.TypeDesc.array 32 5, 32, 32, .agg [.int .u8 (0), .int .u8 (0), .int .u8 (0), .int .u8 (0), .int .u8 (0), .int .u8 (0), .int .u8 (0), .int .u8 (0), .int .u8 (0), .int .u8 (0), .int .u8 (0), .int .u8 (0), .int .u8 (0), .int .u8 (0), .int .u8 (0), .int .u8 (0), .int .u8 (0), .int .u8 (0), .int .u8 (0), .int .u8 (0), .int .u8 (0), .int .u8 (0), .int .u8 (0), .int .u8 (0), .int .u8 (0), .int .u8 (0), .int .u8 (0), .int .u8 (0), .int .u8 (0), .int .u8 (0), .int .u8 (0), .int .u8 (0)]⟩ := rfl
theorem nK : ti env 25 = M.pure ⟨Go.TypeDesc.array 32 5, 32, 32, .agg [.int .u8 (0), .int .u8 (0), .int .u8 (0), .int .u8 (0), .int .u8 (0), .int .u8 (0), .int .u8 (0), .int .u8 (0), .int .u8 (0), .int .u8 (0), .int .u8 (0), .int .u8 (0), .int .u8 (0), .int .u8 (0), .int .u8 (0), .int .u8 (0), .int .u8 (0), .int .u8 (0), .int .u8 (0), .int .u8 (0), .int .u8 (0), .int .u8 (0), .int .u8 (0), .int .u8 (0), .int .u8 (0), .int .u8 (0), .int .u8 (0), .int .u8 (0), .int .u8 (0), .int .u8 (0), .int .u8 (0), .int .u8 (0)]⟩ := rfl
theorem uG : ti env 26 = M.pure ⟨Go.TypeDesc.int (Go.IntKind.u32), 1, 4, .int .u32 (0)⟩ := rfl
theorem WG : ti env 27 = M.pure ⟨Go.TypeDesc.struct #[⟨"Tx", 25, 0, false, "", "", 0⟩, ⟨"N", 26, 32, false, "", "", 32⟩], 33, 36, .agg [.int .u8 (0), .int .u8 (0), .int .u8 (0), .int .u8 (0), .int .u8 (0), .int .u8 (0), .int .u8 (0), .int .u8 (0), .int .u8 (0), .int .u8 (0), .int .u8 (0), .int .u8 (0), .int .u8 (0), .int .u8 (0), .int .u8 (0), .int .u8 (0), .int .u8 (0), .int .u8 (0), .int .u8 (0), .int .u8 (0), .int .u8 (0), .int .u8 (0), .int .u8 (0), .int .u8 (0), .int .u8 (0), .int .u8 (0), .int .u8 (0), .int .u8 (0), .int .u8 (0), .int .u8 (0), .int .u8 (0), .int .u8 (0), .int .u32 (0)]⟩ := rfl
theorem jJ : ti env 28 = M.pure ⟨Go.TypeDesc.struct #[⟨"Tx", 25, 0, false, "", "", 0⟩, ⟨"N", 26, 32, false, "", "", 32⟩], 33, 36, .agg [.int .u8 (0), .int .u8 (0), .int .u8 (0), .int .u8 (0), .int .u8 (0), .int .u8 (0), .int .u8 (0), .int .u8 (0), .int .u8 (0), .int .u8 (0), .int .u8 (0), .int .u8 (0), .int .u8 (0), .int .u8 (0), .int .u8 (0), .int .u8 (0), .int .u8 (0), .int .u8 (0), .int .u8 (0), .int .u8 (0), .int .u8 (0), .int .u8 (0), .int .u8 (0), .int .u8 (0), .int .u8 (0), .int .u8 (0), .int .u8 (0), .int .u8 (0), .int .u8 (0), .int .u8 (0), .int .u8 (0), .int .u8 (0), .int .u32 (0)]⟩ := rfl
theorem vP : ti env 29 = M.pure ⟨Go.TypeDesc.slice 5, 1, 24, .aL⟩ := rfl
theorem WE : ti env 30 = M.pure ⟨Go.TypeDesc.struct #[⟨"Point", 28, 0, false, "", "", 0⟩, ⟨"Made", 3, 33, false, "", "", 40⟩, ⟨"Value", 2, 34, false, "", "", 48⟩, ⟨"Script", 29, 35, false, "", "", 56⟩, ⟨"Base", 4, 36, false, "", "", 80⟩, ⟨"Spent", 3, 37, false, "", "", 88⟩, ⟨"Spender", 25, 38, false, "", "", 96⟩], 70, 128, .agg [.int .u8 (0), .int .u8 (0), .int .u8 (0), .int .u8 (0), .int .u8 (0), .int .u8 (0), .int .u8 (0), .int .u8 (0), .int .u8 (0), .int .u8 (0), .int .u8 (0), .int .u8 (0), .int .u8 (0), .int .u8 (0), .int .u8 (0), .int .u8 (0), .int .u8 (0), .int .u8 (0), .int .u8 (0), .int .u8 (0), .int .u8 (0), .int .u8 (0), .int .u8 (0), .int .u8 (0), .int .u8 (0), .int .u8 (0), .int .u8 (0), .int .u8 (0), .int .u8 (0), .int .u8 (0), .int .u8 (0), .int .u8 (0), .int .u32 (0), .int .i64 (0), .int .i64 (0), .aL, .bool false, .int .i64 (0), .int .u8 (0), .int .u8 (0), .int .u8 (0), .int .u8 (0), .int .u8 (0), .int .u8 (0), .int .u8 (0), .int .u8 (0), .int .u8 (0), .int .u8 (0), .int .u8 (0), .int .u8 (0), .int .u8 (0), .int .u8 (0), .int .u8 (0), .int .u8 (0), .int .u8 (0), .int .u8 (0), .int .u8 (0), .int .u8 (0), .int .u8 (0), .int .u8 (0), .int .u8 (0), .int .u8 (0), .int .u8 (0), .int .u8 (0), .int .u8 (0), .int .u8 (0), .int .u8 (0), .int .u8 (0), .int .u8 (0), .int .u8 (0)]⟩ := rfl
theorem eR : ti env 31 = M.pure ⟨Go.TypeDesc.struct #[⟨"Point", 28, 0, false, "", "", 0⟩, ⟨"Made", 3, 33, false, "", "", 40⟩, ⟨"Value", 2, 34, false, "", "", 48⟩, ⟨"Script", 29, 35, false, "", "", 56⟩, ⟨"Base", 4, 36, false, "", "", 80⟩, ⟨"Spent", 3, 37, false, "", "", 88⟩, ⟨"Spender", 25, 38, false, "", "", 96⟩], 70, 128, .agg [.int .u8 (0), .int .u8 (0), .int .u8 (0), .int .u8 (0), .int .u8 (0), .int .u8 (0), .int .u8 (0), .int .u8 (0), .int .u8 (0), .int .u8 (0), .int .u8 (0), .int .u8 (0), .int .u8 (0), .int .u8 (0), .int .u8 (0), .int .u8 (0), .int .u8 (0), .int .u8 (0), .int .u8 (0), .int .u8 (0), .int .u8 (0), .int .u8 (0), .int .u8 (0), .int .u8 (0), .int .u8 (0), .int .u8 (0), .int .u8 (0), .int .u8 (0), .int .u8 (0), .int .u8 (0), .int .u8 (0), .int .u8 (0), .int .u32 (0), .int .i64 (0), .int .i64 (0), .aL, .bool false, .int .i64 (0), .int .u8 (0), .int .u8 (0), .int .u8 (0), .int .u8 (0), .int .u8 (0), .int .u8 (0), .int .u8 (0), .int .u8 (0), .int .u8 (0), .int .u8 (0), .int .u8 (0), .int .u8 (0), .int .u8 (0), .int .u8 (0), .int .u8 (0), .int .u8 (0), .int .u8 (0), .int .u8 (0), .int .u8 (0), .int .u8 (0), .int .u8 (0), .int .u8 (0), .int .u8 (0), .int .u8 (0), .int .u8 (0), .int .u8 (0), .int .u8 (0), .int .u8 (0), .int .u8 (0), .int .u8 (0), .int .u8 (0), .int .u8 (0)]⟩ := rfl
theorem CY : ti env 32 = M.pure ⟨Go.TypeDesc.int (Go.IntKind.i64), 1, 8, .int .i64 (0)⟩ := rfl
theorem WD : ti env 36 = M.pure ⟨Go.TypeDesc.slice 41, 1, 24, .aL⟩ := rfl
theorem aB0 : ti env 37 = M.pure ⟨Go.TypeDesc.tuple #[36, 32], 1, 0, .tup [.aL, .int .i64 (0)]⟩ := rfl
theorem WC : ti env 40 = M.pure ⟨Go.TypeDesc.struct #[⟨"Script", 29, 0, false, "", "", 0⟩, ⟨"Balance", 2, 1, false, "", "", 24⟩], 2, 32, .agg [.aL, .int .i64 (0)]⟩ := rfl
theorem LN : ti env 41 = M.pure ⟨Go.TypeDesc.struct #[⟨"Script", 29, 0, false, "", "", 0⟩, ⟨"Balance", 2, 1, false, "", "", 24⟩], 2, 32, .agg [.aL, .int .i64 (0)]⟩ := rfl
theorem uF : ti env 43 = M.pure ⟨Go.TypeDesc.slice 31, 1, 24, .aL⟩ := rfl
theorem FB : ti env 44 = M.pure ⟨Go.TypeDesc.slice 48, 1, 24, .aL⟩ := rfl
theorem WB : ti env 45 = M.pure ⟨Go.TypeDesc.struct #[⟨"Height", 3, 0, false, "", "", 0⟩, ⟨"Block", 25, 1, false, "", "", 8⟩, ⟨"Made", 43, 33, false, "", "", 40⟩, ⟨"Spends", 44, 34, false, "", "", 64⟩, ⟨"Burnt", 2, 35, false, "", "", 88⟩, ⟨"Left", 2, 36, false, "", "", 96⟩], 37, 104, .agg [.int .i64 (0), .int .u8 (0), .int .u8 (0), .int .u8 (0), .int .u8 (0), .int .u8 (0), .int .u8 (0), .int .u8 (0), .int .u8 (0), .int .u8 (0), .int .u8 (0), .int .u8 (0), .int .u8 (0), .int .u8 (0), .int .u8 (0), .int .u8 (0), .int .u8 (0), .int .u8 (0), .int .u8 (0), .int .u8 (0), .int .u8 (0), .int .u8 (0), .int .u8 (0), .int .u8 (0), .int .u8 (0), .int .u8 (0), .int .u8 (0), .int .u8 (0), .int .u8 (0), .int .u8 (0), .int .u8 (0), .int .u8 (0), .int .u8 (0), .aL, .aL, .int .i64 (0), .int .i64 (0)]⟩ := rfl
theorem mA : ti env 46 = M.pure ⟨Go.TypeDesc.struct #[⟨"Height", 3, 0, false, "", "", 0⟩, ⟨"Block", 25, 1, false, "", "", 8⟩, ⟨"Made", 43, 33, false, "", "", 40⟩, ⟨"Spends", 44, 34, false, "", "", 64⟩, ⟨"Burnt", 2, 35, false, "", "", 88⟩, ⟨"Left", 2, 36, false, "", "", 96⟩], 37, 104, .agg [.int .i64 (0), .int .u8 (0), .int .u8 (0), .int .u8 (0), .int .u8 (0), .int .u8 (0), .int .u8 (0), .int .u8 (0), .int .u8 (0), .int .u8 (0), .int .u8 (0), .int .u8 (0), .int .u8 (0), .int .u8 (0), .int .u8 (0), .int .u8 (0), .int .u8 (0), .int .u8 (0), .int .u8 (0), .int .u8 (0), .int .u8 (0), .int .u8 (0), .int .u8 (0), .int .u8 (0), .int .u8 (0), .int .u8 (0), .int .u8 (0), .int .u8 (0), .int .u8 (0), .int .u8 (0), .int .u8 (0), .int .u8 (0), .int .u8 (0), .aL, .aL, .int .i64 (0), .int .i64 (0)]⟩ := rfl
theorem WA : ti env 47 = M.pure ⟨Go.TypeDesc.struct #[⟨"Point", 28, 0, false, "", "", 0⟩, ⟨"Spender", 25, 33, false, "", "", 36⟩], 65, 68, .agg [.int .u8 (0), .int .u8 (0), .int .u8 (0), .int .u8 (0), .int .u8 (0), .int .u8 (0), .int .u8 (0), .int .u8 (0), .int .u8 (0), .int .u8 (0), .int .u8 (0), .int .u8 (0), .int .u8 (0), .int .u8 (0), .int .u8 (0), .int .u8 (0), .int .u8 (0), .int .u8 (0), .int .u8 (0), .int .u8 (0), .int .u8 (0), .int .u8 (0), .int .u8 (0), .int .u8 (0), .int .u8 (0), .int .u8 (0), .int .u8 (0), .int .u8 (0), .int .u8 (0), .int .u8 (0), .int .u8 (0), .int .u8 (0), .int .u32 (0), .int .u8 (0), .int .u8 (0), .int .u8 (0), .int .u8 (0), .int .u8 (0), .int .u8 (0), .int .u8 (0), .int .u8 (0), .int .u8 (0), .int .u8 (0), .int .u8 (0), .int .u8 (0), .int .u8 (0), .int .u8 (0), .int .u8 (0), .int .u8 (0), .int .u8 (0), .int .u8 (0), .int .u8 (0), .int .u8 (0), .int .u8 (0), .int .u8 (0), .int .u8 (0), .int .u8 (0), .int .u8 (0), .int .u8 (0), .int .u8 (0), .int .u8 (0), .int .u8 (0), .int .u8 (0), .int .u8 (0), .int .u8 (0)]⟩ := rfl
theorem z6 : ti env 48 = M.pure ⟨Go.TypeDesc.struct #[⟨"Point", 28, 0, false, "", "", 0⟩, ⟨"Spender", 25, 33, false, "", "", 36⟩], 65, 68, .agg [.int .u8 (0), .int .u8 (0), .int .u8 (0), .int .u8 (0), .int .u8 (0), .int .u8 (0), .int .u8 (0), .int .u8 (0), .int .u8 (0), .int .u8 (0), .int .u8 (0), .int .u8 (0), .int .u8 (0), .int .u8 (0), .int .u8 (0), .int .u8 (0), .int .u8 (0), .int .u8 (0), .int .u8 (0), .int .u8 (0), .int .u8 (0), .int .u8 (0), .int .u8 (0), .int .u8 (0), .int .u8 (0), .int .u8 (0), .int .u8 (0), .int .u8 (0), .int .u8 (0), .int .u8 (0), .int .u8 (0), .int .u8 (0), .int .u32 (0), .int .u8 (0), .int .u8 (0), .int .u8 (0), .int .u8 (0), .int .u8 (0), .int .u8 (0), .int .u8 (0), .int .u8 (0), .int .u8 (0), .int .u8 (0), .int .u8 (0), .int .u8 (0), .int .u8 (0), .int .u8 (0), .int .u8 (0), .int .u8 (0), .int .u8 (0), .int .u8 (0), .int .u8 (0), .int .u8 (0), .int .u8 (0), .int .u8 (0), .int .u8 (0), .int .u8 (0), .int .u8 (0), .int .u8 (0), .int .u8 (0), .int .u8 (0), .int .u8 (0), .int .u8 (0), .int .u8 (0), .int .u8 (0)]⟩ := rfl
theorem sL : ti env 56 = M.pure ⟨Go.TypeDesc.pointer 100, 1, 8, .cY⟩ := rfl
theorem uE : ti env 57 = M.pure ⟨Go.TypeDesc.slice 61, 1, 24, .aL⟩ := rfl
theorem W9 : ti env 58 = M.pure ⟨Go.TypeDesc.struct #[⟨"x", 56, 0, false, "", "purser/store", 0⟩, ⟨"levels", 57, 1, false, "", "purser/store", 8⟩], 2, 32, .agg [.cY, .aL]⟩ := rfl
theorem RS : ti env 59 = M.pure ⟨Go.TypeDesc.struct #[⟨"x", 56, 0, false, "", "purser/store", 0⟩, ⟨"levels", 57, 1, false, "", "purser/store", 8⟩], 2, 32, .agg [.cY, .aL]⟩ := rfl
theorem W8 : ti env 60 = M.pure ⟨Go.TypeDesc.struct #[⟨"Height", 3, 0, false, "", "", 0⟩, ⟨"Block", 25, 1, false, "", "", 8⟩, ⟨"Coins", 3, 33, false, "", "", 40⟩, ⟨"Total", 2, 34, false, "", "", 48⟩, ⟨"Burnt", 2, 35, false, "", "", 56⟩, ⟨"Left", 2, 36, false, "", "", 64⟩], 37, 72, .agg [.int .i64 (0), .int .u8 (0), .int .u8 (0), .int .u8 (0), .int .u8 (0), .int .u8 (0), .int .u8 (0), .int .u8 (0), .int .u8 (0), .int .u8 (0), .int .u8 (0), .int .u8 (0), .int .u8 (0), .int .u8 (0), .int .u8 (0), .int .u8 (0), .int .u8 (0), .int .u8 (0), .int .u8 (0), .int .u8 (0), .int .u8 (0), .int .u8 (0), .int .u8 (0), .int .u8 (0), .int .u8 (0), .int .u8 (0), .int .u8 (0), .int .u8 (0), .int .u8 (0), .int .u8 (0), .int .u8 (0), .int .u8 (0), .int .u8 (0), .int .i64 (0), .int .i64 (0), .int .i64 (0), .int .i64 (0)]⟩ := rfl
theorem gV : ti env 61 = M.pure ⟨Go.TypeDesc.struct #[⟨"Height", 3, 0, false, "", "", 0⟩, ⟨"Block", 25, 1, false, "", "", 8⟩, ⟨"Coins", 3, 33, false, "", "", 40⟩, ⟨"Total", 2, 34, false, "", "", 48⟩, ⟨"Burnt", 2, 35, false, "", "", 56⟩, ⟨"Left", 2, 36, false, "", "", 64⟩], 37, 72, .agg [.int .i64 (0), .int .u8 (0), .int .u8 (0), .int .u8 (0), .int .u8 (0), .int .u8 (0), .int .u8 (0), .int .u8 (0), .int .u8 (0), .int .u8 (0), .int .u8 (0), .int .u8 (0), .int .u8 (0), .int .u8 (0), .int .u8 (0), .int .u8 (0), .int .u8 (0), .int .u8 (0), .int .u8 (0), .int .u8 (0), .int .u8 (0), .int .u8 (0), .int .u8 (0), .int .u8 (0), .int .u8 (0), .int .u8 (0), .int .u8 (0), .int .u8 (0), .int .u8 (0), .int .u8 (0), .int .u8 (0), .int .u8 (0), .int .u8 (0), .int .i64 (0), .int .i64 (0), .int .i64 (0), .int .i64 (0)]⟩ := rfl
theorem aA9 : ti env 67 = M.pure ⟨Go.TypeDesc.func #[65] #[56] false, 1, 8, .cE⟩ := rfl
theorem aA8 : ti env 69 = M.pure ⟨Go.TypeDesc.func #[28, 3] #[32] false, 1, 8, .cE⟩ := rfl
theorem aA7 : ti env 74 = M.pure ⟨Go.TypeDesc.func #[65, 31, 5] #[4] false, 1, 8, .cE⟩ := rfl
theorem aA6 : ti env 77 = M.pure ⟨Go.TypeDesc.func #[] #[56] false, 1, 8, .cE⟩ := rfl
theorem aA5 : ti env 81 = M.pure ⟨Go.TypeDesc.slice 29, 1, 24, .aL⟩ := rfl
theorem oQ : ti env 95 = M.pure ⟨Go.TypeDesc.slice 128, 1, 24, .aL⟩ := rfl
theorem J1 : ti env 96 = M.pure ⟨Go.TypeDesc.func #[128, 128] #[3] false, 1, 8, .cE⟩ := rfl
theorem W7 : ti env 97 = M.pure ⟨Go.TypeDesc.struct #[⟨"l", 95, 0, false, "", "purser/index", 0⟩, ⟨"order", 96, 1, false, "", "purser/index", 24⟩], 2, 32, .agg [.aL, .cE]⟩ := rfl
theorem W6 : ti env 98 = M.pure ⟨Go.TypeDesc.struct #[⟨"l", 95, 0, false, "", "purser/index", 0⟩, ⟨"order", 96, 1, false, "", "purser/index", 24⟩], 2, 32, .agg [.aL, .cE]⟩ := rfl
theorem W5 : ti env 99 = M.pure ⟨Go.TypeDesc.struct #[⟨"made", 4, 0, false, "", "purser/index", 0⟩, ⟨"points", 98, 1, false, "", "purser/index", 8⟩, ⟨"scripts", 98, 3, false, "", "purser/index", 40⟩], 5, 72, .agg [.bool false, .aL, .cE, .aL, .cE]⟩ := rfl
theorem HM : ti env 100 = M.pure ⟨Go.TypeDesc.struct #[⟨"made", 4, 0, false, "", "purser/index", 0⟩, ⟨"points", 98, 1, false, "", "purser/index", 8⟩, ⟨"scripts", 98, 3, false, "", "purser/index", 40⟩], 5, 72, .agg [.bool false, .aL, .cE, .aL, .cE]⟩ := rfl
theorem al3 : ti env 101 = M.pure ⟨Go.TypeDesc.slice 105, 1, 24, .aL⟩ := rfl
theorem al2 : ti env 102 = M.pure ⟨Go.TypeDesc.func #[101] #[3] false, 1, 8, .cE⟩ := rfl
theorem M7 : ti env 104 = M.pure ⟨Go.TypeDesc.struct #[⟨"Kind", 3, 0, false, "", "", 0⟩, ⟨"A", 46, 1, false, "", "", 8⟩, ⟨"Next", 4, 38, false, "", "", 112⟩, ⟨"N", 3, 39, false, "", "", 120⟩], 40, 128, .agg [.int .i64 (0), .int .i64 (0), .int .u8 (0), .int .u8 (0), .int .u8 (0), .int .u8 (0), .int .u8 (0), .int .u8 (0), .int .u8 (0), .int .u8 (0), .int .u8 (0), .int .u8 (0), .int .u8 (0), .int .u8 (0), .int .u8 (0), .int .u8 (0), .int .u8 (0), .int .u8 (0), .int .u8 (0), .int .u8 (0), .int .u8 (0), .int .u8 (0), .int .u8 (0), .int .u8 (0), .int .u8 (0), .int .u8 (0), .int .u8 (0), .int .u8 (0), .int .u8 (0), .int .u8 (0), .int .u8 (0), .int .u8 (0), .int .u8 (0), .int .u8 (0), .aL, .aL, .int .i64 (0), .int .i64 (0), .bool false, .int .i64 (0)]⟩ := rfl
theorem zV : ti env 105 = M.pure ⟨Go.TypeDesc.struct #[⟨"Kind", 3, 0, false, "", "", 0⟩, ⟨"A", 46, 1, false, "", "", 8⟩, ⟨"Next", 4, 38, false, "", "", 112⟩, ⟨"N", 3, 39, false, "", "", 120⟩], 40, 128, .agg [.int .i64 (0), .int .i64 (0), .int .u8 (0), .int .u8 (0), .int .u8 (0), .int .u8 (0), .int .u8 (0), .int .u8 (0), .int .u8 (0), .int .u8 (0), .int .u8 (0), .int .u8 (0), .int .u8 (0), .int .u8 (0), .int .u8 (0), .int .u8 (0), .int .u8 (0), .int .u8 (0), .int .u8 (0), .int .u8 (0), .int .u8 (0), .int .u8 (0), .int .u8 (0), .int .u8 (0), .int .u8 (0), .int .u8 (0), .int .u8 (0), .int .u8 (0), .int .u8 (0), .int .u8 (0), .int .u8 (0), .int .u8 (0), .int .u8 (0), .int .u8 (0), .aL, .aL, .int .i64 (0), .int .i64 (0), .bool false, .int .i64 (0)]⟩ := rfl
theorem al1 : ti env 106 = M.pure ⟨Go.TypeDesc.func #[105, 3] #[46] false, 1, 8, .cE⟩ := rfl
theorem al0 : ti env 109 = M.pure ⟨Go.TypeDesc.func #[29, 3] #[2, 32] false, 1, 8, .cE⟩ := rfl
theorem ak9 : ti env 113 = M.pure ⟨Go.TypeDesc.func #[101, 28, 29, 5] #[4] false, 1, 8, .cE⟩ := rfl
theorem ak8 : ti env 114 = M.pure ⟨Go.TypeDesc.func #[31, 3] #[31] false, 1, 8, .cE⟩ := rfl
theorem M4 : ti env 115 = M.pure ⟨Go.TypeDesc.map 9 2, 1, 8, .kX⟩ := rfl
theorem ak7 : ti env 120 = M.pure ⟨Go.TypeDesc.int (Go.IntKind.u64), 1, 8, .int .u64 (0)⟩ := rfl
theorem ak6 : ti env 124 = M.pure ⟨Go.TypeDesc.func #[153] #[] false, 1, 8, .cE⟩ := rfl
theorem ak5 : ti env 125 = M.pure ⟨Go.TypeDesc.func #[153] #[] false, 1, 8, .cE⟩ := rfl
theorem iO : ti env 128 = M.pure ⟨Go.TypeDesc.pointer 31, 1, 8, .cY⟩ := rfl
theorem M3 : ti env 129 = M.pure ⟨Go.TypeDesc.func #[128] #[4] false, 1, 8, .cE⟩ := rfl
theorem ak4 : ti env 134 = M.pure ⟨Go.TypeDesc.func #[129] #[] false, 1, 8, .cE⟩ := rfl
theorem ak3 : ti env 135 = M.pure ⟨Go.TypeDesc.func #[129] #[] false, 1, 8, .cE⟩ := rfl
theorem LZ : ti env 147 = M.pure ⟨Go.TypeDesc.slice 3, 1, 24, .aL⟩ := rfl
theorem ak2 : ti env 150 = M.pure ⟨Go.TypeDesc.func #[160] #[] false, 1, 8, .cE⟩ := rfl
theorem ak1 : ti env 151 = M.pure ⟨Go.TypeDesc.func #[160] #[] false, 1, 8, .cE⟩ := rfl
theorem ak0 : ti env 153 = M.pure ⟨Go.TypeDesc.func #[61] #[4] false, 1, 8, .cE⟩ := rfl
theorem LY : ti env 156 = M.pure ⟨Go.TypeDesc.pointer 98, 1, 8, .cY⟩ := rfl
theorem aj9 : ti env 160 = M.pure ⟨Go.TypeDesc.func #[28, 4] #[4] false, 1, 8, .cE⟩ := rfl
theorem LX : ti env 161 = M.pure ⟨Go.TypeDesc.map 28 3, 1, 8, .kX⟩ := rfl
theorem aj8 : ti env 166 = M.pure ⟨Go.TypeDesc.int (Go.IntKind.u64), 1, 8, .int .u64 (0)⟩ := rfl
theorem LW : ti env 176 = M.pure ⟨Go.TypeDesc.int (Go.IntKind.u8), 1, 1, .int .u8 (0)⟩ := rfl
theorem LV : ti env 177 = M.pure ⟨Go.TypeDesc.int (Go.IntKind.u8), 1, 1, .int .u8 (0)⟩ := rfl
theorem LU : ti env 178 = M.pure ⟨Go.TypeDesc.func #[185, 185] #[4] false, 1, 8, .cE⟩ := rfl
theorem LS : ti env 179 = M.pure ⟨Go.TypeDesc.pointer 5, 1, 8, .cY⟩ := rfl
theorem LR : ti env 180 = M.pure ⟨Go.TypeDesc.int (Go.IntKind.i32), 1, 4, .int .i32 (0)⟩ := rfl
theorem LQ : ti env 181 = M.pure ⟨Go.TypeDesc.int (Go.IntKind.i32), 1, 4, .int .i32 (0)⟩ := rfl
theorem LP : ti env 182 = M.pure ⟨Go.TypeDesc.struct #[⟨"Size_", 12, 0, false, "", "", 0⟩, ⟨"PtrBytes", 12, 1, false, "", "", 8⟩, ⟨"Hash", 26, 2, false, "", "", 16⟩, ⟨"TFlag", 176, 3, false, "", "", 20⟩, ⟨"Align_", 5, 4, false, "", "", 21⟩, ⟨"FieldAlign_", 5, 5, false, "", "", 22⟩, ⟨"Kind_", 177, 6, false, "", "", 23⟩, ⟨"Equal", 178, 7, false, "", "", 24⟩, ⟨"GCData", 179, 8, false, "", "", 32⟩, ⟨"Str", 180, 9, false, "", "", 40⟩, ⟨"PtrToThis", 181, 10, false, "", "", 44⟩], 11, 48, .agg [.int .u64 (0), .int .u64 (0), .int .u32 (0), .int .u8 (0), .int .u8 (0), .int .u8 (0), .int .u8 (0), .cE, .cY, .int .i32 (0), .int .i32 (0)]⟩ := rfl
theorem LO : ti env 183 = M.pure ⟨Go.TypeDesc.struct #[⟨"Size_", 12, 0, false, "", "", 0⟩, ⟨"PtrBytes", 12, 1, false, "", "", 8⟩, ⟨"Hash", 26, 2, false, "", "", 16⟩, ⟨"TFlag", 176, 3, false, "", "", 20⟩, ⟨"Align_", 5, 4, false, "", "", 21⟩, ⟨"FieldAlign_", 5, 5, false, "", "", 22⟩, ⟨"Kind_", 177, 6, false, "", "", 23⟩, ⟨"Equal", 178, 7, false, "", "", 24⟩, ⟨"GCData", 179, 8, false, "", "", 32⟩, ⟨"Str", 180, 9, false, "", "", 40⟩, ⟨"PtrToThis", 181, 10, false, "", "", 44⟩], 11, 48, .agg [.int .u64 (0), .int .u64 (0), .int .u32 (0), .int .u8 (0), .int .u8 (0), .int .u8 (0), .int .u8 (0), .cE, .cY, .int .i32 (0), .int .i32 (0)]⟩ := rfl
theorem aL8 : (env.funcs.find 11).i = ac9.i := rfl
theorem aV6 : (env.funcs.find 11).f.beq 11 = true := rfl
theorem aG9 : ∀ args : List a9, bM env (aE env) 11 args = aQ env (aE env) 11 args := fun _ => rfl
theorem aQ7 : ∀ tm : List a9, bG env 11 tm = aJ [T, F, T, T, T, T, T, T, T, T, T, T, T, T, T, T, F, F, F, F, F, F, F, T, F, F, F, F, F, F, T, F, F, F, F, F, F, F, F, F, F, F, F, F, F, F, F, F, F, F, F, F, F, F, F, F, F, F, F, F, F, T, F, T, T, T, F, F, F, F, F, F, F, F, F, F, F, F, F, F, F, F, F, F, F, F, F, F, F, F, F, F, F, F, F, F, F, F, F, F, F, F, F, F, F, F, F, F, F, F, F, F, F, F, F, F, F, F, F, F, F, F, F, F, F, F, F, F, T, F, F, F, F, F, F, F, F, F, F, F, F, F, F, F, F, F, F, F, F, F, F, F, F, F, F, F, T, F] tm := fun _ => rfl
theorem aL7 : (env.funcs.find 14).i = ac8.i := rfl
theorem aV5 : (env.funcs.find 14).f.beq 14 = true := rfl
theorem aG8 : ∀ args : List a9, bM env (aE env) 14 args = aQ env (aE env) 14 args := fun _ => rfl
theorem aQ6 : ∀ tm : List a9, bG env 14 tm = aJ [T, T, T, T, F, F, F, F, F, F, F, F, F, F, F, F, F, F, F, F, F, F, F, F, F, F, F, F, F, F, F, F, F, F, F, F, T, F] tm := fun _ => rfl
theorem aL6 : (env.funcs.find 16).i = ac7.i := rfl
theorem aV4 : (env.funcs.find 16).f.beq 16 = true := rfl
theorem aG7 : ∀ args : List a9, bM env (aE env) 16 args = aQ env (aE env) 16 args := fun _ => rfl
theorem aQ5 : ∀ tm : List a9, bG env 16 tm = aJ [T, F, T, F, F] tm := fun _ => rfl
theorem ap9 : (env.funcs.find 17).i = K8.i := rfl
theorem au8 : (env.funcs.find 17).f.beq 17 = true := rfl
theorem ZD : ∀ args : List a9, bM env (aE env) 17 args = aQ env (aE env) 17 args := fun _ => rfl
theorem TK : ∀ tm : List a9, bG env 17 tm = aJ [T, T, T, F, F, F, T, T, F, T, T, F, T, T, T, T, T, T, F, F, F, F, F, F, F, T, F, F, F, F, F, F, F, T, T, T, T, F, F, F, F, F, F, F, F, F, F, F, F, F, F, F, F, F, F, F, T, F, T, F, T, F, F, F, F, F, F, F, F, F, F, F, T, F, F, F, F, F, F, F, F, F, F, F, F] tm := fun _ => rfl
theorem aL5 : (env.funcs.find 18).i = ac6.i := rfl
theorem aV3 : (env.funcs.find 18).f.beq 18 = true := rfl
theorem aG6 : ∀ args : List a9, bM env (aE env) 18 args = aQ env (aE env) 18 args := fun _ => rfl
theorem aQ4 : ∀ tm : List a9, bG env 18 tm = aJ [T, T, F, F, T, T, F, F, F, F, T, F, F, F, T, F, F, F, F, F, F, F, F, F, F, F, F, F, F, F, F, F, F, F, F, F, F, F, F, F, F, F, T] tm := fun _ => rfl
theorem aL4 : (env.funcs.find 19).i = ac5.i := rfl
theorem aV2 : (env.funcs.find 19).f.beq 19 = true := rfl
theorem aG5 : ∀ args : List a9, bM env (aE env) 19 args = aQ env (aE env) 19 args := fun _ => rfl
theorem aQ3 : ∀ tm : List a9, bG env 19 tm = aJ [T, T, F, T, T, T, T, T, T, T, T, T, F, F, T, F, F, F, F, F, F, F, F, F, F, F, F, F, F, F, F, F, F, F, F, F, F, F, F, F, F, F, F, F, F, F, F, F, F, F, F, F, F, F, F, F, F, F, F, F, F, F, F, F, F, F, T, F, F, F, F, F, F, F, F, F, F, F, F, F, F, F, F, F, F, F, F, F, F, F, F, F, F, F, F, F, F, F, F, F] tm := fun _ => rfl
theorem aL2 : (env.funcs.find 22).i = ac3.i := rfl
theorem aV0 : (env.funcs.find 22).f.beq 22 = true := rfl
theorem aG4 : ∀ args : List a9, bM env (aE env) 22 args = aQ env (aE env) 22 args := fun _ => rfl
theorem aQ1 : ∀ tm : List a9, bG env 22 tm = aJ [T, T, F, F, T, T, F, T, T, F, F, T, F, F, F, F, F, F, F, F, F, F, F, F, F, F, T, T, T, T, F, F, T, F, F, F, F, F, F, F, F, F, F, T, F, F, F, F, F, F, F, F, F, F, F, F, F, F, F, F, F, F, F, F, F, F, F, F, F, F, F, F, F, F, F] tm := fun _ => rfl
theorem aL1 : (env.funcs.find 25).i = ac2.i := rfl
theorem aU9 : (env.funcs.find 25).f.beq 25 = true := rfl
theorem aG3 : ∀ args : List a9, bM env (aE env) 25 args = aQ env (aE env) 25 args := fun _ => rfl
theorem aQ0 : ∀ tm : List a9, bG env 25 tm = aJ [T, T, F, T, T, T, T, T, T, F, T, F, F, T, T, F, F, F, T, F, F, F] tm := fun _ => rfl
theorem aL0 : (env.funcs.find 26).i = ac1.i := rfl
theorem aU8 : (env.funcs.find 26).f.beq 26 = true := rfl
theorem aG2 : ∀ args : List a9, bM env (aE env) 26 args = aQ env (aE env) 26 args := fun _ => rfl
theorem aP9 : ∀ tm : List a9, bG env 26 tm = aJ [T, F, F, F] tm := fun _ => rfl
theorem aK9 : (env.funcs.find 27).i = ac0.i := rfl
theorem aU7 : (env.funcs.find 27).f.beq 27 = true := rfl
theorem aG1 : ∀ args : List a9, bM env (aE env) 27 args = aQ env (aE env) 27 args := fun _ => rfl
theorem aP8 : ∀ tm : List a9, bG env 27 tm = aJ [T, T, T, T, T, T, T, T, F, F, F, F, F, F, F, F, F, F, F, F, F, F, F, F, F, F, F, F, F, F, F, F, F, F, F, F, F, F, F, F, F, F, F, F, F, F, F, F, F, F, F, F] tm := fun _ => rfl
theorem aK8 : (env.funcs.find 32).i = ab9.i := rfl
theorem aU6 : (env.funcs.find 32).f.beq 32 = true := rfl
theorem aG0 : ∀ args : List a9, bM env (aE env) 32 args = aQ env (aE env) 32 args := fun _ => rfl
theorem aP7 : ∀ tm : List a9, bG env 32 tm = aJ [T, F, T, F, T, F, F, F, F, F, F] tm := fun _ => rfl
theorem aK7 : (env.funcs.find 33).i = ab8.i := rfl
theorem aU5 : (env.funcs.find 33).f.beq 33 = true := rfl
theorem aF9 : ∀ args : List a9, bM env (aE env) 33 args = aQ env (aE env) 33 args := fun _ => rfl
theorem aP6 : ∀ tm : List a9, bG env 33 tm = aJ [T, T, F, T, T, T, T, F, F, T, F, F, F, F, F, F, F, F, F, F, F, F, F, F, F, F, F, F, F, F, F, F, F, F, F, F, F, F, F, F, F, F, F, F, F, F, F, F, F] tm := fun _ => rfl
theorem aK6 : (env.funcs.find 34).i = ab7.i := rfl
theorem aU4 : (env.funcs.find 34).f.beq 34 = true := rfl
theorem aF8 : ∀ args : List a9, bM env (aE env) 34 args = aQ env (aE env) 34 args := fun _ => rfl
theorem aP5 : ∀ tm : List a9, bG env 34 tm = aJ [T, T, T, F, T, F, T, T, F, T, F, F, F, F, F, T, F, F, F, F, F, F, F, F, F, F] tm := fun _ => rfl
theorem aK5 : (env.funcs.find 36).i = ab6.i := rfl
theorem aU3 : (env.funcs.find 36).f.beq 36 = true := rfl
theorem aF7 : ∀ args : List a9, bM env (aE env) 36 args = aQ env (aE env) 36 args := fun _ => rfl
theorem aP4 : ∀ tm : List a9, bG env 36 tm = aJ [T, T, T, T, T, F, T, F, F, T, T, T, T, F, T, F, F, F, F, F, F, F, F, F, F, F, F, F, F, F, F, F, F, F, F, F, T, F, F, F, F, F, F, F, F, F, F, F] tm := fun _ => rfl
theorem aK4 : (env.funcs.find 37).i = ab5.i := rfl
theorem aU2 : (env.funcs.find 37).f.beq 37 = true := rfl
theorem aF6 : ∀ args : List a9, bM env (aE env) 37 args = aQ env (aE env) 37 args := fun _ => rfl
theorem aP3 : ∀ tm : List a9, bG env 37 tm = aJ [T, T, T, F, T, T, T, T, T, T, F, F, T, T, F, F, F, F, F, T, F, F, T, F, F, F, F, F] tm := fun _ => rfl
theorem aK3 : (env.funcs.find 38).i = ab4.i := rfl
theorem aU1 : (env.funcs.find 38).f.beq 38 = true := rfl
theorem aF5 : ∀ args : List a9, bM env (aE env) 38 args = aQ env (aE env) 38 args := fun _ => rfl
theorem aP2 : ∀ tm : List a9, bG env 38 tm = aJ [T, T, T, F, T, F, T, T, T, F, T, F, F, F, F, F, F, F, F, F, F, F, F, T, F, F, F, F, F, F, F, F, F, F] tm := fun _ => rfl
theorem aK2 : (env.funcs.find 39).i = ab3.i := rfl
theorem aU0 : (env.funcs.find 39).f.beq 39 = true := rfl
theorem aF4 : ∀ args : List a9, bM env (aE env) 39 args = aQ env (aE env) 39 args := fun _ => rfl
theorem aP1 : ∀ tm : List a9, bG env 39 tm = aJ [T, T, F, T, T, F, T, F, F, F, F, F, F, F] tm := fun _ => rfl
theorem aK1 : (env.funcs.find 40).i = ab2.i := rfl
theorem aT9 : (env.funcs.find 40).f.beq 40 = true := rfl
theorem aF3 : ∀ args : List a9, bM env (aE env) 40 args = aQ env (aE env) 40 args := fun _ => rfl
theorem aP0 : ∀ tm : List a9, bG env 40 tm = aJ [T, T, F, F, F, F, F, F, F, F, F, F, F] tm := fun _ => rfl
theorem aK0 : (env.funcs.find 41).i = ab1.i := rfl
theorem aT8 : (env.funcs.find 41).f.beq 41 = true := rfl
theorem aF2 : ∀ args : List a9, bM env (aE env) 41 args = aQ env (aE env) 41 args := fun _ => rfl
theorem aO9 : ∀ tm : List a9, bG env 41 tm = aJ [T, F, T, T, F, T, F, F, F, F, F, F, F, F, F, F, F, F, F, F, F, F, F, F, F, F, F, F] tm := fun _ => rfl
theorem aJ9 : (env.funcs.find 43).i = ab0.i := rfl
theorem aT7 : (env.funcs.find 43).f.beq 43 = true := rfl
theorem aF1 : ∀ args : List a9, bM env (aE env) 43 args = aQ env (aE env) 43 args := fun _ => rfl
theorem aO8 : ∀ tm : List a9, bG env 43 tm = aJ [T, T, T, F, T, T, T, T, T, F, T, F, F, F, F, F, F, F, T, T, F, F, F, F, F, F, T, F, F, F, F, T, F, F, F, F, F, F, F, F] tm := fun _ => rfl
theorem aJ8 : (env.funcs.find 57).i = aa9.i := rfl
theorem aT6 : (env.funcs.find 57).f.beq 57 = true := rfl
theorem aF0 : ∀ args : List a9, bM env (aE env) 57 args = aQ env (aE env) 57 args := fun _ => rfl
theorem aO7 : ∀ tm : List a9, bG env 57 tm = aJ [T, F, T, T, T, F, F, T, F, T, T, T, F, F, F, F, F, F, F, F, F, F, F, F, F, F, F, F, F, F, T, F, F, F, F, F, F, T, T, T, F, F, F, F, F, F, F, F, F, F, F, F, T, F, F] tm := fun _ => rfl
theorem aJ7 : (env.funcs.find 58).i = aa8.i := rfl
theorem aT5 : (env.funcs.find 58).f.beq 58 = true := rfl
theorem aE9 : ∀ args : List a9, bM env (aE env) 58 args = aQ env (aE env) 58 args := fun _ => rfl
theorem aO6 : ∀ tm : List a9, bG env 58 tm = aJ [T, F, T, T, F, T, F, T, T, T, T, F, F, F, T, T, F, F, F, F, F, F, F, T, F, F, F, F, F, F, F] tm := fun _ => rfl
theorem aJ6 : (env.funcs.find 59).i = aa7.i := rfl
theorem aT4 : (env.funcs.find 59).f.beq 59 = true := rfl
theorem aE8 : ∀ args : List a9, bM env (aE env) 59 args = aQ env (aE env) 59 args := fun _ => rfl
theorem aO5 : ∀ tm : List a9, bG env 59 tm = aJ [T, T, T, F, T, T, T, F, F, F, F, T, F, F, F, F, F, T, T, T, F, F, F, F, F, F, F, F, F, F] tm := fun _ => rfl
theorem aJ5 : (env.funcs.find 60).i = aa6.i := rfl
theorem aT3 : (env.funcs.find 60).f.beq 60 = true := rfl
theorem aE7 : ∀ args : List a9, bM env (aE env) 60 args = aQ env (aE env) 60 args := fun _ => rfl
theorem aO4 : ∀ tm : List a9, bG env 60 tm = aJ [T, T, T, F, F, F, T, T, F, T, T, F, T, F, F, F, F, F, F, F, T, F, F, F, F, F, F, F, T, T, T, T, F, F, F, F, F, F, F, F] tm := fun _ => rfl
theorem ad1 : (env.funcs.find 63).i = xZ.i := rfl
theorem ad9 : (env.funcs.find 63).f.beq 63 = true := rfl
theorem ZB : ∀ args : List a9, bM env (aE env) 63 args = aQ env (aE env) 63 args := fun _ => rfl
theorem ad7 : ∀ tm : List a9, bG env 63 tm = aJ [T, F, T, T, F, T, T, T, T, T, F, F, F, F, T, F, F, F] tm := fun _ => rfl
theorem ap8 : (env.funcs.find 64).i = E2.i := rfl
theorem au7 : (env.funcs.find 64).f.beq 64 = true := rfl
theorem ZA : ∀ args : List a9, bM env (aE env) 64 args = aQ env (aE env) 64 args := fun _ => rfl
theorem ad6 : ∀ tm : List a9, bG env 64 tm = aJ [T, T, F, F, T, T, T, F, F, F, F, T, T, T, F, F, T, F, F, T] tm := fun _ => rfl
theorem ap7 : (env.funcs.find 65).i = K7.i := rfl
theorem au6 : (env.funcs.find 65).f.beq 65 = true := rfl
theorem Z9 : ∀ args : List a9, bM env (aE env) 65 args = aQ env (aE env) 65 args := fun _ => rfl
theorem ad5 : ∀ tm : List a9, bG env 65 tm = aJ [T, T, F, F, T, F, F, F] tm := fun _ => rfl
theorem ad0 : (env.funcs.find 66).i = GB.i := rfl
theorem ad8 : (env.funcs.find 66).f.beq 66 = true := rfl
theorem Z8 : ∀ args : List a9, bM env (aE env) 66 args = aQ env (aE env) 66 args := fun _ => rfl
theorem ad4 : ∀ tm : List a9, bG env 66 tm = aJ [T, F, T, F, F, F, F, F, F, F, F, F] tm := fun _ => rfl
theorem aJ4 : (env.funcs.find 67).i = aa5.i := rfl
theorem aT2 : (env.funcs.find 67).f.beq 67 = true := rfl
theorem aE6 : ∀ args : List a9, bM env (aE env) 67 args = aQ env (aE env) 67 args := fun _ => rfl
theorem aO3 : ∀ tm : List a9, bG env 67 tm = aJ [T, T, T, T, F, T, F, F, F, F, F, F, F, F, F, F, F, F, F, F, F, F, F, F, F, F, F, F, F, F, F, F, T, F, T, F, F, F, F, F, T, F, T] tm := fun _ => rfl
theorem aJ3 : (env.funcs.find 68).i = aa4.i := rfl
theorem aT1 : (env.funcs.find 68).f.beq 68 = true := rfl
theorem aE5 : ∀ args : List a9, bM env (aE env) 68 args = aQ env (aE env) 68 args := fun _ => rfl
theorem aO2 : ∀ tm : List a9, bG env 68 tm = aJ [T, F, T, F, F, F, F, F, T, F, F, F, F, F, F, F, F, F, F, F, F, F] tm := fun _ => rfl
theorem aJ2 : (env.funcs.find 69).i = aa3.i := rfl
theorem aT0 : (env.funcs.find 69).f.beq 69 = true := rfl
theorem aE4 : ∀ args : List a9, bM env (aE env) 69 args = aQ env (aE env) 69 args := fun _ => rfl
theorem aO1 : ∀ tm : List a9, bG env 69 tm = aJ [T, T, T, T, F, F, T, F, T, T, F, T, F, T, F, T, T, T, F, T, T, T, T, F, F, F, F, F, F, F, F, F, F, F, F, F, F, F, F, F, F, F, F, T, F, F, F, F, F, F, F, T, T, T, T, F, F, F, F, F, F, F, F, F, F, F, F, F, F, F, F, F, F, F, F, F, F, F, F, F, T, F, F, F, F, F, F, F] tm := fun _ => rfl
theorem aJ1 : (env.funcs.find 70).i = aa2.i := rfl
theorem aS9 : (env.funcs.find 70).f.beq 70 = true := rfl
theorem aE3 : ∀ args : List a9, bM env (aE env) 70 args = aQ env (aE env) 70 args := fun _ => rfl
theorem aO0 : ∀ tm : List a9, bG env 70 tm = aJ [T, F, T, F, F, F, F, F, F] tm := fun _ => rfl
theorem aJ0 : (env.funcs.find 71).i = aa1.i := rfl
theorem aS8 : (env.funcs.find 71).f.beq 71 = true := rfl
theorem aE2 : ∀ args : List a9, bM env (aE env) 71 args = aQ env (aE env) 71 args := fun _ => rfl
theorem aN9 : ∀ tm : List a9, bG env 71 tm = aJ [T, F, T, F, T, F, F, F] tm := fun _ => rfl
theorem aI9 : (env.funcs.find 72).i = aa0.i := rfl
theorem aS7 : (env.funcs.find 72).f.beq 72 = true := rfl
theorem aE1 : ∀ args : List a9, bM env (aE env) 72 args = aQ env (aE env) 72 args := fun _ => rfl
theorem aN8 : ∀ tm : List a9, bG env 72 tm = aJ [T, T, T, F] tm := fun _ => rfl
theorem aI8 : (env.funcs.find 73).i = ZZ.i := rfl
theorem aS6 : (env.funcs.find 73).f.beq 73 = true := rfl
theorem aE0 : ∀ args : List a9, bM env (aE env) 73 args = aQ env (aE env) 73 args := fun _ => rfl
theorem aN7 : ∀ tm : List a9, bG env 73 tm = aJ [T, F, T, F, F, F, F, F, F, F, F, F] tm := fun _ => rfl
theorem aI7 : (env.funcs.find 74).i = ZY.i := rfl
theorem aS5 : (env.funcs.find 74).f.beq 74 = true := rfl
theorem aD9 : ∀ args : List a9, bM env (aE env) 74 args = aQ env (aE env) 74 args := fun _ => rfl
theorem aN6 : ∀ tm : List a9, bG env 74 tm = aJ [T, T, F, F, T, T, F, T, T, T, T, T, F, F, F, F, T, F, F, F, F, F, F, F, F, F] tm := fun _ => rfl
theorem aI6 : (env.funcs.find 75).i = ZX.i := rfl
theorem aS4 : (env.funcs.find 75).f.beq 75 = true := rfl
theorem aD8 : ∀ args : List a9, bM env (aE env) 75 args = aQ env (aE env) 75 args := fun _ => rfl
theorem aN5 : ∀ tm : List a9, bG env 75 tm = aJ [F, F, T] tm := fun _ => rfl
theorem aI5 : (env.funcs.find 76).i = ZW.i := rfl
theorem aS3 : (env.funcs.find 76).f.beq 76 = true := rfl
theorem aD7 : ∀ args : List a9, bM env (aE env) 76 args = aQ env (aE env) 76 args := fun _ => rfl
theorem aN4 : ∀ tm : List a9, bG env 76 tm = aJ [T, T, T, F, T, F, T, T, T, F, F, F, F, F, F, F, F, F, F, F, F, T, F, F, F, F, F, F, F, F] tm := fun _ => rfl
theorem aI4 : (env.funcs.find 77).i = ZV.i := rfl
theorem aS2 : (env.funcs.find 77).f.beq 77 = true := rfl
theorem aD6 : ∀ args : List a9, bM env (aE env) 77 args = aQ env (aE env) 77 args := fun _ => rfl
theorem aN3 : ∀ tm : List a9, bG env 77 tm = aJ [T, T, T, F, F, F, F, F] tm := fun _ => rfl
theorem aI3 : (env.funcs.find 78).i = ZU.i := rfl
theorem aS1 : (env.funcs.find 78).f.beq 78 = true := rfl
theorem aD5 : ∀ args : List a9, bM env (aE env) 78 args = aQ env (aE env) 78 args := fun _ => rfl
theorem aN2 : ∀ tm : List a9, bG env 78 tm = aJ [T, T, F, F, T, F, F, F, F, F, F, F, F, F, F, F, F, F, F, F, F, F, F] tm := fun _ => rfl
theorem aI2 : (env.funcs.find 79).i = ZT.i := rfl
theorem aS0 : (env.funcs.find 79).f.beq 79 = true := rfl
theorem aD4 : ∀ args : List a9, bM env (aE env) 79 args = aQ env (aE env) 79 args := fun _ => rfl
theorem aN1 : ∀ tm : List a9, bG env 79 tm = aJ [T, T, F, F, T, F, F, F, F, F, F, F, F, F, F, F, F, F, F, F, F, F, F] tm := fun _ => rfl
theorem aI1 : (env.funcs.find 80).i = ZS.i := rfl
theorem aR9 : (env.funcs.find 80).f.beq 80 = true := rfl
theorem aD3 : ∀ args : List a9, bM env (aE env) 80 args = aQ env (aE env) 80 args := fun _ => rfl
theorem aN0 : ∀ tm : List a9, bG env 80 tm = aJ [T, T, T, F, F, T, F, F, F, F, F, F, F, F, F, F, F, F, F, F, F, F, F, F] tm := fun _ => rfl
theorem aI0 : (env.funcs.find 81).i = ZR.i := rfl
theorem aR8 : (env.funcs.find 81).f.beq 81 = true := rfl
theorem aD2 : ∀ args : List a9, bM env (aE env) 81 args = aQ env (aE env) 81 args := fun _ => rfl
theorem aM9 : ∀ tm : List a9, bG env 81 tm = aJ [T, T, T, T, T, F] tm := fun _ => rfl
theorem aH9 : (env.funcs.find 82).i = ZQ.i := rfl
theorem aR7 : (env.funcs.find 82).f.beq 82 = true := rfl
theorem aD1 : ∀ args : List a9, bM env (aE env) 82 args = aQ env (aE env) 82 args := fun _ => rfl
theorem aM8 : ∀ tm : List a9, bG env 82 tm = aJ [T, T, T, F, T, F, F, F, F, F, F, F, F, F, F, F, F, F, F, F] tm := fun _ => rfl
theorem aH8 : (env.funcs.find 83).i = ZP.i := rfl
theorem aR6 : (env.funcs.find 83).f.beq 83 = true := rfl
theorem aD0 : ∀ args : List a9, bM env (aE env) 83 args = aQ env (aE env) 83 args := fun _ => rfl
theorem aM7 : ∀ tm : List a9, bG env 83 tm = aJ [T, T, F, T, F, F, F, F, F] tm := fun _ => rfl
theorem aH7 : (env.funcs.find 84).i = ZO.i := rfl
theorem aR5 : (env.funcs.find 84).f.beq 84 = true := rfl
theorem aC9 : ∀ args : List a9, bM env (aE env) 84 args = aQ env (aE env) 84 args := fun _ => rfl
theorem aM6 : ∀ tm : List a9, bG env 84 tm = aJ [T, T, F, F, T, F, F, F, F, F, F, F] tm := fun _ => rfl
theorem aH6 : (env.funcs.find 85).i = ZN.i := rfl
theorem aR4 : (env.funcs.find 85).f.beq 85 = true := rfl
theorem aC8 : ∀ args : List a9, bM env (aE env) 85 args = aQ env (aE env) 85 args := fun _ => rfl
theorem aM5 : ∀ tm : List a9, bG env 85 tm = aJ [T, T, F, F, T, F, F, F, F, F, F, F, F, F, F, F, F, F, F] tm := fun _ => rfl
theorem aH5 : (env.funcs.find 86).i = ZM.i := rfl
theorem aR3 : (env.funcs.find 86).f.beq 86 = true := rfl
theorem aC7 : ∀ args : List a9, bM env (aE env) 86 args = aQ env (aE env) 86 args := fun _ => rfl
theorem aM4 : ∀ tm : List a9, bG env 86 tm = aJ [T, F, T, F, T, F, F, F] tm := fun _ => rfl
theorem aH4 : (env.funcs.find 88).i = ZL.i := rfl
theorem aR2 : (env.funcs.find 88).f.beq 88 = true := rfl
theorem aC6 : ∀ args : List a9, bM env (aE env) 88 args = aQ env (aE env) 88 args := fun _ => rfl
theorem aM3 : ∀ tm : List a9, bG env 88 tm = aJ [T, T, T, T, T, F] tm := fun _ => rfl
theorem aH3 : (env.funcs.find 89).i = ZK.i := rfl
theorem aR1 : (env.funcs.find 89).f.beq 89 = true := rfl
theorem aC5 : ∀ args : List a9, bM env (aE env) 89 args = aQ env (aE env) 89 args := fun _ => rfl
theorem aM2 : ∀ tm : List a9, bG env 89 tm = aJ [T, T, F, F, T, F, F, F, F, F] tm := fun _ => rfl
theorem aH2 : (env.funcs.find 90).i = ZJ.i := rfl
theorem aR0 : (env.funcs.find 90).f.beq 90 = true := rfl
theorem aC4 : ∀ args : List a9, bM env (aE env) 90 args = aQ env (aE env) 90 args := fun _ => rfl
theorem aM1 : ∀ tm : List a9, bG env 90 tm = aJ [T, F, T, F, T, F, F, F] tm := fun _ => rfl
theorem aH1 : (env.funcs.find 96).i = ZI.i := rfl
theorem aQ9 : (env.funcs.find 96).f.beq 96 = true := rfl
theorem aC3 : ∀ args : List a9, bM env (aE env) 96 args = aQ env (aE env) 96 args := fun _ => rfl
theorem aM0 : ∀ tm : List a9, bG env 96 tm = aJ [T, T, T, T, T, T, F, F, F, F, F, F, F, T, F, F, F, F, F, F, F, F, F, F, F, F, F, F, F, F, F, F, F, F, F, F, F, F] tm := fun _ => rfl
theorem ap6 : (env.funcs.find 97).i = K6.i := rfl
theorem au5 : (env.funcs.find 97).f.beq 97 = true := rfl
theorem Z7 : ∀ args : List a9, bM env (aE env) 97 args = aQ env (aE env) 97 args := fun _ => rfl
theorem ad3 : ∀ tm : List a9, bG env 97 tm = aJ [T, F, T, F, F, F] tm := fun _ => rfl
theorem ap5 : (env.funcs.find 98).i = K4.i := rfl
theorem au4 : (env.funcs.find 98).f.beq 98 = true := rfl
theorem Z6 : ∀ args : List a9, bM env (aE env) 98 args = aQ env (aE env) 98 args := fun _ => rfl
theorem ad2 : ∀ tm : List a9, bG env 98 tm = aJ [T, T, F, F, T, F, F, F] tm := fun _ => rfl
theorem aH0 : (env.funcs.find 99).i = TD.i := rfl
theorem aQ8 : (env.funcs.find 99).f.beq 99 = true := rfl
theorem aC2 : ∀ args : List a9, bM env (aE env) 99 args = aQ env (aE env) 99 args := fun _ => rfl
theorem aL9 : ∀ tm : List a9, bG env 99 tm = aJ [T, F, T, F, F, F, F, F, F] tm := fun _ => rfl
theorem ar6 : (env.funcs.find 100).i = ID.i := rfl
theorem aw5 : (env.funcs.find 100).f.beq 100 = true := rfl
theorem ap3 : ∀ args : List a9, bM env (aE env) 100 args = aQ env (aE env) 100 args := fun _ => rfl
theorem au3 : ∀ tm : List a9, bG env 100 tm = aJ [T, F, T, F, F, F, F, F, F] tm := fun _ => rfl
theorem ar5 : (env.funcs.find 101).i = P4.i := rfl
theorem aw4 : (env.funcs.find 101).f.beq 101 = true := rfl
theorem ap2 : ∀ args : List a9, bM env (aE env) 101 args = aQ env (aE env) 101 args := fun _ => rfl
theorem au2 : ∀ tm : List a9, bG env 101 tm = aJ [T, T, T, F] tm := fun _ => rfl
theorem ar4 : (env.funcs.find 102).i = P3.i := rfl
theorem aw3 : (env.funcs.find 102).f.beq 102 = true := rfl
theorem US : ∀ args : List a9, bM env (aE env) 102 args = aQ env (aE env) 102 args := fun _ => rfl
theorem au1 : ∀ tm : List a9, bG env 102 tm = aJ [T, T, F, T, F, F, F, F, T, T, T, F, F, F, F, F, F, F, F, F, F, T, F] tm := fun _ => rfl
theorem ar3 : (env.funcs.find 103).i = P2.i := rfl
theorem aw2 : (env.funcs.find 103).f.beq 103 = true := rfl
theorem ap1 : ∀ args : List a9, bM env (aE env) 103 args = aQ env (aE env) 103 args := fun _ => rfl
theorem au0 : ∀ tm : List a9, bG env 103 tm = aJ [T, T, F, F, T, T, F, F, F, F, F, F, F, F, F, F, F, F] tm := fun _ => rfl
theorem ar2 : (env.funcs.find 105).i = P1.i := rfl
theorem aw1 : (env.funcs.find 105).f.beq 105 = true := rfl
theorem ap0 : ∀ args : List a9, bM env (aE env) 105 args = aQ env (aE env) 105 args := fun _ => rfl
theorem at8 : ∀ tm : List a9, bG env 105 tm = aJ [T, T, T, F, F, F, T, T, F, F, F, F, F, F, F, F, T, F, F, F, F, F, F, F, F, F, F, F, F, F, F, F, F] tm := fun _ => rfl
theorem ar1 : (env.funcs.find 106).i = P0.i := rfl
theorem aw0 : (env.funcs.find 106).f.beq 106 = true := rfl
theorem UR : ∀ args : List a9, bM env (aE env) 106 args = aQ env (aE env) 106 args := fun _ => rfl
theorem at7 : ∀ tm : List a9, bG env 106 tm = aJ [T, T, T, T, T, F, T, F, F, F, F, F, F, T, T, F, F, F, F, F, F, F, F, F, F, F, T] tm := fun _ => rfl
theorem ar0 : (env.funcs.find 107).i = OZ.i := rfl
theorem av9 : (env.funcs.find 107).f.beq 107 = true := rfl
theorem ao9 : ∀ args : List a9, bM env (aE env) 107 args = aQ env (aE env) 107 args := fun _ => rfl
theorem at6 : ∀ tm : List a9, bG env 107 tm = aJ [T, T, T, T, T, F, F, F, F, F, F, F, F, F, F, F, F] tm := fun _ => rfl
theorem aq8 : (env.funcs.find 109).i = OX.i := rfl
theorem av7 : (env.funcs.find 109).f.beq 109 = true := rfl
theorem ON : ∀ args : List a9, bM env (aE env) 109 args = aQ env (aE env) 109 args := fun _ => rfl
theorem as8 : ∀ tm : List a9, bG env 109 tm = aJ [T, T, T, F, T, F, F, T, F, F, F, F, F, F, F, F, F, F, F, T, T, T, T, F, F, F, F, F, T, F] tm := fun _ => rfl
theorem aq7 : (env.funcs.find 111).i = OW.i := rfl
theorem av6 : (env.funcs.find 111).f.beq 111 = true := rfl
theorem ao8 : ∀ args : List a9, bM env (aE env) 111 args = aQ env (aE env) 111 args := fun _ => rfl
theorem as7 : ∀ tm : List a9, bG env 111 tm = aJ [T, F, T, T, F, F, F] tm := fun _ => rfl
theorem aq6 : (env.funcs.find 113).i = OV.i := rfl
theorem av5 : (env.funcs.find 113).f.beq 113 = true := rfl
theorem UQ : ∀ args : List a9, bM env (aE env) 113 args = aQ env (aE env) 113 args := fun _ => rfl
theorem as6 : ∀ tm : List a9, bG env 113 tm = aJ [T, T, F, T, F, T, T, F, T, F, F, T, T, T, T, F, F, F, F, F, F, F, F, F, F, F, F, F, F, F, F, F, F, F, F, F, F, F, F, F, F, F, F, F, F, F, F, F, F, F, F, F, F, F, F, F, F, F, F, F, F, F, F, T, F, F, F, T, T, T, T, F, F, F, F, F, F, F, F, F, F, F, F, F, F, F, F, F, F, T, F] tm := fun _ => rfl
theorem aq5 : (env.funcs.find 114).i = OU.i := rfl
theorem av4 : (env.funcs.find 114).f.beq 114 = true := rfl
theorem ao7 : ∀ args : List a9, bM env (aE env) 114 args = aQ env (aE env) 114 args := fun _ => rfl
theorem as5 : ∀ tm : List a9, bG env 114 tm = aJ [T, T, T, F, F, F, T, T, T, T, T, T, F, F, F, F, F, T, F, F, F, F, F, F, F, F, F, F, F, F, F, T, F, F, F, F, F, F, F, F, F, F, F, F, F, F, F, F, F] tm := fun _ => rfl
theorem fi116 : (env.funcs.find 116).i = UX.i := rfl
theorem ff116 : (env.funcs.find 116).f.beq 116 = true := rfl
theorem ao6 : ∀ args : List a9, bM env (aE env) 116 args = aQ env (aE env) 116 args := fun _ => rfl
theorem as4 : ∀ tm : List a9, bG env 116 tm = aJ [T, T, F, F, F, F, F, F, F, F] tm := fun _ => rfl
theorem aq4 : (env.funcs.find 117).i = OT.i := rfl
theorem av3 : (env.funcs.find 117).f.beq 117 = true := rfl
theorem ao5 : ∀ args : List a9, bM env (aE env) 117 args = aQ env (aE env) 117 args := fun _ => rfl
theorem as3 : ∀ tm : List a9, bG env 117 tm = aJ [T, T, T, T, T, F, F, F, F, F, F, F, F, F, F, F, F] tm := fun _ => rfl
theorem aq3 : (env.funcs.find 118).i = IC.i := rfl
theorem av2 : (env.funcs.find 118).f.beq 118 = true := rfl
theorem ao4 : ∀ args : List a9, bM env (aE env) 118 args = aQ env (aE env) 118 args := fun _ => rfl
theorem as2 : ∀ tm : List a9, bG env 118 tm = aJ [T, T, F, F, T, T, T, F, F, F, F, T, T, T, F, F, T, F, F, T] tm := fun _ => rfl
theorem fi120 : (env.funcs.find 120).i = UW.i := rfl
theorem ff120 : (env.funcs.find 120).f.beq 120 = true := rfl
theorem ao3 : ∀ args : List a9, bM env (aE env) 120 args = aQ env (aE env) 120 args := fun _ => rfl
theorem as1 : ∀ tm : List a9, bG env 120 tm = aJ [T, T, F, F, F, F, F, F, F, F, F, F, F, F] tm := fun _ => rfl
theorem aq2 : (env.funcs.find 121).i = IB.i := rfl
theorem av1 : (env.funcs.find 121).f.beq 121 = true := rfl
theorem ao2 : ∀ args : List a9, bM env (aE env) 121 args = aQ env (aE env) 121 args := fun _ => rfl
theorem as0 : ∀ tm : List a9, bG env 121 tm = aJ [T, T, F, F, T, T, T, F, F, F, F, T, T, T, F, F, T, F, F, T] tm := fun _ => rfl
theorem aq1 : (env.funcs.find 122).i = OS.i := rfl
theorem av0 : (env.funcs.find 122).f.beq 122 = true := rfl
theorem ao1 : ∀ args : List a9, bM env (aE env) 122 args = aQ env (aE env) 122 args := fun _ => rfl
theorem ar9 : ∀ tm : List a9, bG env 122 tm = aJ [T, F, T, F, F, F] tm := fun _ => rfl
theorem fi123 : (env.funcs.find 123).i = UU.i := rfl
theorem ff123 : (env.funcs.find 123).f.beq 123 = true := rfl
theorem ao0 : ∀ args : List a9, bM env (aE env) 123 args = aQ env (aE env) 123 args := fun _ => rfl
theorem ar8 : ∀ tm : List a9, bG env 123 tm = aJ [T, F, T, T, F, F, F, F, F, T, F, F, F, F, F, F, F, F, F, F, F, F, F, F, F, F, F, F] tm := fun _ => rfl
theorem aq0 : (env.funcs.find 124).i = OR.i := rfl
theorem au9 : (env.funcs.find 124).f.beq 124 = true := rfl
theorem an9 : ∀ args : List a9, bM env (aE env) 124 args = aQ env (aE env) 124 args := fun _ => rfl
theorem ar7 : ∀ tm : List a9, bG env 124 tm = aJ [T, F, T, F, F, F] tm := fun _ => rfl
theorem ZC : ∀ args : List a9, bM env (aE env) 20 args = Ins.B3 args := fun _ => rfl
theorem OP : ∀ args : List a9, bM env (aE env) 104 args = (uP 128 oK.i) args := fun _ => rfl
theorem OO : ∀ args : List a9, bM env (aE env) 108 args = cK args := fun _ => rfl
theorem OM : ∀ args : List a9, bM env (aE env) 112 args = cK args := fun _ => rfl
theorem OL : ∀ args : List a9, bM env (aE env) 115 args = (gG 128) args := fun _ => rfl
theorem OK : ∀ args : List a9, bM env (aE env) 119 args = cK args := fun _ => rfl
theorem af9 : ∀ ts l, cA env (9 :: ts) (.str l) = M.pure (.int .i64 (l.length : Nat)) := fun _ _ => rfl
theorem ay6 : ∀ ts l, cA env (11 :: ts) (.str l) = M.pure (.int .i64 (l.length : Nat)) := fun _ _ => rfl
theorem R2 : ∀ ts v, cA env (24 :: ts) v = M.pure (.int .i64 32) := fun _ _ => rfl
theorem R1 : ∀ ts v, cA env (25 :: ts) v = M.pure (.int .i64 32) := fun _ _ => rfl
theorem R0 : ∀ ts id off len cap sz, cA env (29 :: ts) (.sl id off len cap sz) = M.pure (.int .i64 (len : Nat)) := fun _ _ _ _ _ _ => rfl
theorem QZ : ∀ ts g sz off len, cA env (29 :: ts) (.isl g sz off len) = M.pure (.int .i64 (len : Nat)) := fun _ _ _ _ _ => rfl
theorem QY : ∀ ts, cA env (29 :: ts) .aL = M.pure (.int .i64 0) := fun _ => rfl
theorem QX : ∀ ts, cA env (29 :: ts) .emp = M.pure (.int .i64 0) := fun _ => rfl
theorem QW : ∀ ts id off len cap sz, cA env (36 :: ts) (.sl id off len cap sz) = M.pure (.int .i64 (len : Nat)) := fun _ _ _ _ _ _ => rfl
theorem QV : ∀ ts g sz off len, cA env (36 :: ts) (.isl g sz off len) = M.pure (.int .i64 (len : Nat)) := fun _ _ _ _ _ => rfl
theorem QU : ∀ ts, cA env (36 :: ts) .aL = M.pure (.int .i64 0) := fun _ => rfl
theorem QT : ∀ ts, cA env (36 :: ts) .emp = M.pure (.int .i64 0) := fun _ => rfl
theorem QS : ∀ ts id off len cap sz, cA env (43 :: ts) (.sl id off len cap sz) = M.pure (.int .i64 (len : Nat)) := fun _ _ _ _ _ _ => rfl
theorem QR : ∀ ts g sz off len, cA env (43 :: ts) (.isl g sz off len) = M.pure (.int .i64 (len : Nat)) := fun _ _ _ _ _ => rfl
theorem QQ : ∀ ts, cA env (43 :: ts) .aL = M.pure (.int .i64 0) := fun _ => rfl
theorem QP : ∀ ts, cA env (43 :: ts) .emp = M.pure (.int .i64 0) := fun _ => rfl
theorem QO : ∀ ts id off len cap sz, cA env (44 :: ts) (.sl id off len cap sz) = M.pure (.int .i64 (len : Nat)) := fun _ _ _ _ _ _ => rfl
theorem QN : ∀ ts g sz off len, cA env (44 :: ts) (.isl g sz off len) = M.pure (.int .i64 (len : Nat)) := fun _ _ _ _ _ => rfl
theorem QM : ∀ ts, cA env (44 :: ts) .aL = M.pure (.int .i64 0) := fun _ => rfl
theorem QL : ∀ ts, cA env (44 :: ts) .emp = M.pure (.int .i64 0) := fun _ => rfl
theorem QK : ∀ ts id off len cap sz, cA env (57 :: ts) (.sl id off len cap sz) = M.pure (.int .i64 (len : Nat)) := fun _ _ _ _ _ _ => rfl
theorem QJ : ∀ ts g sz off len, cA env (57 :: ts) (.isl g sz off len) = M.pure (.int .i64 (len : Nat)) := fun _ _ _ _ _ => rfl
theorem QI : ∀ ts, cA env (57 :: ts) .aL = M.pure (.int .i64 0) := fun _ => rfl
theorem QH : ∀ ts, cA env (57 :: ts) .emp = M.pure (.int .i64 0) := fun _ => rfl
theorem ay5 : ∀ ts id off len cap sz, cA env (81 :: ts) (.sl id off len cap sz) = M.pure (.int .i64 (len : Nat)) := fun _ _ _ _ _ _ => rfl
theorem ay4 : ∀ ts g sz off len, cA env (81 :: ts) (.isl g sz off len) = M.pure (.int .i64 (len : Nat)) := fun _ _ _ _ _ => rfl
theorem ay3 : ∀ ts, cA env (81 :: ts) .aL = M.pure (.int .i64 0) := fun _ => rfl
theorem ay2 : ∀ ts, cA env (81 :: ts) .emp = M.pure (.int .i64 0) := fun _ => rfl
theorem QG : ∀ ts id off len cap sz, cA env (95 :: ts) (.sl id off len cap sz) = M.pure (.int .i64 (len : Nat)) := fun _ _ _ _ _ _ => rfl
theorem QF : ∀ ts g sz off len, cA env (95 :: ts) (.isl g sz off len) = M.pure (.int .i64 (len : Nat)) := fun _ _ _ _ _ => rfl
theorem QD : ∀ ts, cA env (95 :: ts) .aL = M.pure (.int .i64 0) := fun _ => rfl
theorem QC : ∀ ts, cA env (95 :: ts) .emp = M.pure (.int .i64 0) := fun _ => rfl
theorem ag3 : ∀ ts id off len cap sz, cA env (101 :: ts) (.sl id off len cap sz) = M.pure (.int .i64 (len : Nat)) := fun _ _ _ _ _ _ => rfl
theorem ag2 : ∀ ts g sz off len, cA env (101 :: ts) (.isl g sz off len) = M.pure (.int .i64 (len : Nat)) := fun _ _ _ _ _ => rfl
theorem ag1 : ∀ ts, cA env (101 :: ts) .aL = M.pure (.int .i64 0) := fun _ => rfl
theorem ag0 : ∀ ts, cA env (101 :: ts) .emp = M.pure (.int .i64 0) := fun _ => rfl
theorem GY : ∀ ts id off len cap sz, cA env (147 :: ts) (.sl id off len cap sz) = M.pure (.int .i64 (len : Nat)) := fun _ _ _ _ _ _ => rfl
theorem GX : ∀ ts g sz off len, cA env (147 :: ts) (.isl g sz off len) = M.pure (.int .i64 (len : Nat)) := fun _ _ _ _ _ => rfl
theorem GW : ∀ ts, cA env (147 :: ts) .aL = M.pure (.int .i64 0) := fun _ => rfl
theorem GV : ∀ ts, cA env (147 :: ts) .emp = M.pure (.int .i64 0) := fun _ => rfl
noncomputable def G7 : Code := (bD (Try.f11.body.getD .skip)).getD 0 .skip
noncomputable def BX : Code := (bD (Try.f11.body.getD .skip)).getD 1 .skip
noncomputable def BW : Code := (bD (Try.f17.body.getD .skip)).getD 0 .skip
noncomputable def BV : Code := (bD (Try.f17.body.getD .skip)).getD 1 .skip
noncomputable def rU : Code := (bD (Try.f17.body.getD .skip)).getD 2 .skip
noncomputable def G6 : Code := (bD (Try.f18.body.getD .skip)).getD 0 .skip
noncomputable def G5 : Code := (bD (Try.f22.body.getD .skip)).getD 0 .skip
noncomputable def MY : Code := ((cG (Try.f25.body.getD .skip)).getD 0 (.skip, .skip)).1
noncomputable def MU : Code := ((cG (Try.f25.body.getD .skip)).getD 0 (.skip, .skip)).2
noncomputable def MX : Code := ((cG (Try.f37.body.getD .skip)).getD 0 (.skip, .skip)).1
noncomputable def MT : Code := ((cG (Try.f37.body.getD .skip)).getD 0 (.skip, .skip)).2
noncomputable def MW : Code := ((cG (Try.f43.body.getD .skip)).getD 0 (.skip, .skip)).1
noncomputable def MS : Code := ((cG (Try.f43.body.getD .skip)).getD 0 (.skip, .skip)).2
noncomputable def G4 : Code := (bD (Try.f57.body.getD .skip)).getD 0 .skip
noncomputable def G3 : Code := (bD (Try.f57.body.getD .skip)).getD 1 .skip
noncomputable def G2 : Code := (bD (Try.f58.body.getD .skip)).getD 0 .skip
noncomputable def G1 : Code := (bD (Try.f59.body.getD .skip)).getD 0 .skip
noncomputable def G0 : Code := (bD (Try.f60.body.getD .skip)).getD 0 .skip
noncomputable def YN : Code := (bD (Try.f63.body.getD .skip)).getD 0 .skip
noncomputable def MV : Code := ((cG (Try.f67.body.getD .skip)).getD 0 (.skip, .skip)).1
noncomputable def MR : Code := ((cG (Try.f67.body.getD .skip)).getD 0 (.skip, .skip)).2
noncomputable def FZ : Code := (bD (Try.f69.body.getD .skip)).getD 0 .skip
noncomputable def FY : Code := (bD (Try.f69.body.getD .skip)).getD 1 .skip
noncomputable def FX : Code := (bD (Try.f74.body.getD .skip)).getD 0 .skip
noncomputable def FW : Code := (bD (Try.f96.body.getD .skip)).getD 0 .skip
noncomputable def C1 : Code := (bD (Try.f102.body.getD .skip)).getD 0 .skip
noncomputable def HT : Code := ((cG (Try.f106.body.getD .skip)).getD 0 (.skip, .skip)).1
noncomputable def HS : Code := ((cG (Try.f106.body.getD .skip)).getD 0 (.skip, .skip)).2
noncomputable def C0 : Code := (bD (Try.f109.body.getD .skip)).getD 0 .skip
noncomputable def BZ : Code := (bD (Try.f113.body.getD .skip)).getD 0 .skip
noncomputable def BY : Code := (bD (Try.f113.body.getD .skip)).getD 1 .skip
noncomputable def wI : Code := (bD (Try.f114.body.getD .skip)).getD 0 .skip
noncomputable def az3 : Code := (bD (Try.f123.body.getD .skip)).getD 0 .skip
def tyr := (And.intro ti2 (And.intro ti3 (And.intro ti4 (And.intro ti5 (And.intro ti9 (And.intro aB2 (And.intro WK (And.intro WJ (And.intro aB1 (And.intro WI (And.intro J2 (And.intro WH (And.intro nK (And.intro uG (And.intro WG (And.intro jJ (And.intro vP (And.intro WE (And.intro eR (And.intro CY (And.intro WD (And.intro aB0 (And.intro WC (And.intro LN (And.intro uF (And.intro FB (And.intro WB (And.intro mA (And.intro WA (And.intro z6 (And.intro sL (And.intro uE (And.intro W9 (And.intro RS (And.intro W8 (And.intro gV (And.intro aA9 (And.intro aA8 (And.intro aA7 (And.intro aA6 (And.intro aA5 (And.intro oQ (And.intro J1 (And.intro W7 (And.intro W6 (And.intro W5 (And.intro HM (And.intro al3 (And.intro al2 (And.intro M7 (And.intro zV (And.intro al1 (And.intro al0 (And.intro ak9 (And.intro ak8 (And.intro M4 (And.intro ak7 (And.intro ak6 (And.intro ak5 (And.intro iO (And.intro M3 (And.intro ak4 (And.intro ak3 (And.intro LZ (And.intro ak2 (And.intro ak1 (And.intro ak0 (And.intro LY (And.intro aj9 (And.intro LX (And.intro aj8 (And.intro LW (And.intro LV (And.intro LU (And.intro LS (And.intro LR (And.intro LQ (And.intro LP LO))))))))))))))))))))))))))))))))))))))))))))))))))))))))))))))))))))))))))))))
def blr := (And.intro af9 (And.intro ay6 (And.intro R2 (And.intro R1 (And.intro R0 (And.intro QZ (And.intro QY (And.intro QX (And.intro QW (And.intro QV (And.intro QU (And.intro QT (And.intro QS (And.intro QR (And.intro QQ (And.intro QP (And.intro QO (And.intro QN (And.intro QM (And.intro QL (And.intro QK (And.intro QJ (And.intro QI (And.intro QH (And.intro ay5 (And.intro ay4 (And.intro ay3 (And.intro ay2 (And.intro QG (And.intro QF (And.intro QD (And.intro QC (And.intro ag3 (And.intro ag2 (And.intro ag1 (And.intro ag0 (And.intro GY (And.intro GX (And.intro GW GV)))))))))))))))))))))))))))))))))))))))
def fgr := (And.intro aQ7 (And.intro aQ6 (And.intro aQ5 (And.intro TK (And.intro aQ4 (And.intro aQ3 (And.intro aQ1 (And.intro aQ0 (And.intro aP9 (And.intro aP8 (And.intro aP7 (And.intro aP6 (And.intro aP5 (And.intro aP4 (And.intro aP3 (And.intro aP2 (And.intro aP1 (And.intro aP0 (And.intro aO9 (And.intro aO8 (And.intro aO7 (And.intro aO6 (And.intro aO5 (And.intro aO4 (And.intro ad7 (And.intro ad6 (And.intro ad5 (And.intro ad4 (And.intro aO3 (And.intro aO2 (And.intro aO1 (And.intro aO0 (And.intro aN9 (And.intro aN8 (And.intro aN7 (And.intro aN6 (And.intro aN5 (And.intro aN4 (And.intro aN3 (And.intro aN2 (And.intro aN1 (And.intro aN0 (And.intro aM9 (And.intro aM8 (And.intro aM7 (And.intro aM6 (And.intro aM5 (And.intro aM4 (And.intro aM3 (And.intro aM2 (And.intro aM1 (And.intro aM0 (And.intro ad3 (And.intro ad2 (And.intro aL9 (And.intro au3 (And.intro au2 (And.intro au1 (And.intro au0 (And.intro at8 (And.intro at7 (And.intro at6 (And.intro as8 (And.intro as7 (And.intro as6 (And.intro as5 (And.intro as4 (And.intro as3 (And.intro as2 (And.intro as1 (And.intro as0 (And.intro ar9 (And.intro ar8 (And.intro ar7 (And.intro YI (And.intro YH (And.intro YG (And.intro NN (And.intro NM (And.intro NL (And.intro NK (And.intro NJ (And.intro YE (And.intro YD (And.intro YB (And.intro YA (And.intro Y9 (And.intro Y8 (And.intro Y7 (And.intro Y6 (And.intro Y5 (And.intro Y4 (And.intro Y3 (And.intro Y2 (And.intro Y1 (And.intro Y0 (And.intro XZ (And.intro XY (And.intro XX (And.intro XW (And.intro XV (And.intro XU (And.intro FP (And.intro FO (And.intro FN (And.intro FM (And.intro XT (And.intro XS (And.intro XR (And.intro XQ (And.intro XP (And.intro XO (And.intro XN (And.intro XM (And.intro XL (And.intro XK (And.intro XJ (And.intro XI (And.intro XH (And.intro XG (And.intro XF (And.intro XE (And.intro XD (And.intro XC (And.intro XB (And.intro XA (And.intro X9 (And.intro X8 (And.intro X7 (And.intro X6 (And.intro FL (And.intro FK (And.intro X5 (And.intro SX (And.intro SW (And.intro SV (And.intro SU (And.intro SR (And.intro SQ (And.intro SP (And.intro SN (And.intro SM (And.intro SK (And.intro SJ (And.intro SI (And.intro SH (And.intro SG (And.intro SF (And.intro SE (And.intro SD (And.intro SC SB)))))))))))))))))))))))))))))))))))))))))))))))))))))))))))))))))))))))))))))))))))))))))))))))))))))))))))))))))))))))))))))))))))))))))))))))))))))))
def hkr := (And.intro aG9 (And.intro aG8 (And.intro aG7 (And.intro ZD (And.intro aG6 (And.intro aG5 (And.intro aG4 (And.intro aG3 (And.intro aG2 (And.intro aG1 (And.intro aG0 (And.intro aF9 (And.intro aF8 (And.intro aF7 (And.intro aF6 (And.intro aF5 (And.intro aF4 (And.intro aF3 (And.intro aF2 (And.intro aF1 (And.intro aF0 (And.intro aE9 (And.intro aE8 (And.intro aE7 (And.intro ZB (And.intro ZA (And.intro Z9 (And.intro Z8 (And.intro aE6 (And.intro aE5 (And.intro aE4 (And.intro aE3 (And.intro aE2 (And.intro aE1 (And.intro aE0 (And.intro aD9 (And.intro aD8 (And.intro aD7 (And.intro aD6 (And.intro aD5 (And.intro aD4 (And.intro aD3 (And.intro aD2 (And.intro aD1 (And.intro aD0 (And.intro aC9 (And.intro aC8 (And.intro aC7 (And.intro aC6 (And.intro aC5 (And.intro aC4 (And.intro aC3 (And.intro Z7 (And.intro Z6 (And.intro aC2 (And.intro ap3 (And.intro ap2 (And.intro US (And.intro ap1 (And.intro ap0 (And.intro UR (And.intro ao9 (And.intro ON (And.intro ao8 (And.intro UQ (And.intro ao7 (And.intro ao6 (And.intro ao5 (And.intro ao4 (And.intro ao3 (And.intro ao2 (And.intro ao1 (And.intro ao0 (And.intro an9 (And.intro ZC (And.intro OP (And.intro OO (And.intro OM (And.intro OL OK)))))))))))))))))))))))))))))))))))))))))))))))))))))))))))))))))))))))))))))))
end Go.Am.Ytlgebaofkolkoaa
set_option linter.unusedSimpArgs false
set_option linter.unusedVariables false
set_option linter.defProp false
set_option maxRecDepth 10000
namespace Go.Am.Ytlgebaofkolkoaa
open Go Go.Am Go.Proofs
theorem f122 (h : Hp) (n : Nat) (x : Int) : Wp (aQ env (aE env) 122 [.int .i64 x]) h n fun v' h' n' => v' = .bool false ∧ h' = h ∧ n' = n := by
  refine aW av0 aq1 ?_
  simp only [OS, Try.f122, Option.getD_some, List.replicate, fgr, bor, Nat.reduceSub, gE]
def ax8 (h : Hp) (n : Nat) (x : Int) := jY (f122 h n x)
theorem f124 (h : Hp) (n : Nat) (x : Int) : Wp (aQ env (aE env) 124 [.int .u32 x]) h n fun v' h' n' => v' = .bool false ∧ h' = h ∧ n' = n := by
  refine aW au9 aq0 ?_
  simp only [OR, Try.f124, Option.getD_some, List.replicate, fgr, bor, Nat.reduceSub, gE]
def ax7 (h : Hp) (n : Nat) (x : Int) := jY (f124 h n x)
theorem f118 (h : Hp) (n : Nat) (x y : Int) : Wp (aQ env (aE env) 118 [.int .i64 x, .int .i64 y]) h n fun v' h' n' => v' = .int .i64 (iY x y) ∧ h' = h ∧ n' = n := by
  refine aW av2 aq3 ?_
  by_cases h1 : x < y
  · simp only [IC, Try.f118, Option.getD_some, List.replicate, fgr, hkr, bor, Nat.reduceAdd, Nat.reduceSub, ↓reduceIte, Int.reduceNeg, ax8, iY, h1, gE]
  · by_cases h2 : y < x <;> simp only [IC, Try.f118, Option.getD_some, List.replicate, fgr, hkr, bor, Nat.reduceAdd, Nat.reduceSub, ↓reduceIte, Int.reduceNeg, gt_iff_lt, ax8, iY, h1, h2, gE]
theorem f121 (h : Hp) (n : Nat) (x y : Int) : Wp (aQ env (aE env) 121 [.int .u32 x, .int .u32 y]) h n fun v' h' n' => v' = .int .i64 (iY x y) ∧ h' = h ∧ n' = n := by
  refine aW av1 aq2 ?_
  by_cases h1 : x < y
  · simp only [IB, Try.f121, Option.getD_some, List.replicate, fgr, hkr, bor, Nat.reduceAdd, Nat.reduceSub, ↓reduceIte, Int.reduceNeg, ax7, iY, h1, gE]
  · by_cases h2 : y < x <;> simp only [IB, Try.f121, Option.getD_some, List.replicate, fgr, hkr, bor, Nat.reduceAdd, Nat.reduceSub, ↓reduceIte, Int.reduceNeg, gt_iff_lt, ax7, iY, h1, h2, gE]
theorem L6 : und env 147 = M.pure (.slice 3) := rfl
theorem z3 : sizeOf env 3 = M.pure 1 := rfl
theorem f63 (id : Nat) (a b : Int) (e : TypeId) (h : Hp) (n : Nat) (hr : h id = some (.row (.l [.int .i64 a, .int .i64 b]) e)) : Wp (aQ env (aE env) 63 [.sl id 0 2 (some 2) 1]) h n fun v' h' n' => v' = .int .i64 (orI a b) ∧ h' = h ∧ n' = n := by
  refine aW ad9 ad1 ?_
  have hs : Rds h 1 (.sl id 0 2 (some 2) 1) 2 [.int .i64 a, .int .i64 b] := nO hr rfl
  have i0 := hs.idx (E := env) L6 z3 (kk := .i64) (z := 0) (j := 0) rfl (by omega) (h' := h) (n' := n)
  have i1 := hs.idx (E := env) L6 z3 (kk := .i64) (z := 1) (j := 1) rfl (by omega) (h' := h) (n' := n)
  have l0 := hs.load (E := env) ti3 rfl (k := 0 * 1) (n := n) rfl
  have l1 := hs.load (E := env) ti3 rfl (k := 1 * 1) (n := n) rfl
  have w1 : IntKind.i64.wrap 1 = 1 := by decide
  have w2 : IntKind.i64.wrap 2 = 2 := by decide
  by_cases ha : a = 0
  · subst ha
    by_cases hb : b = 0
    · subst hb
      simp only [xZ, Try.f63, Option.getD_some, List.replicate, fgr, builtin, blr, bor, bZ, Nat.reduceSub, Int.cast_ofNat_Int, ↓reduceIte, Int.reduceLT, Int.reduceAdd, bT, aH i0, aH i1, aH l0, aH l1, orI, w1, w2, gE]
    · simp only [xZ, Try.f63, Option.getD_some, List.replicate, fgr, builtin, blr, bor, bZ, Nat.reduceSub, Int.cast_ofNat_Int, ↓reduceIte, Int.reduceLT, Int.reduceAdd, bT, aH i0, aH i1, aH l0, aH l1, orI, w1, hb, gE]
  · simp only [xZ, Try.f63, Option.getD_some, List.replicate, fgr, builtin, blr, bor, Nat.reduceSub, Int.cast_ofNat_Int, ↓reduceIte, Int.reduceLT, bT, aH i0, aH l0, orI, ha, gE]
structure Ver where
  aP : List UInt8
  pn : Int
  made : Int
  value : Int
  aI : List UInt8
  dH : Bool
  c8 : Int
  by_ : List UInt8
def aV (aP : List UInt8) (pn : Int) : List a9 := aP.map u8 ++ [.int .u32 pn]
def mP (v : Ver) (sv : a9) : List a9 := [.int .i64 v.made, .int .i64 v.value, sv, .bool v.dH, .int .i64 v.c8] ++ v.by_.map u8
def aN (v : Ver) (sv : a9) : List a9 := aV v.aP v.pn ++ mP v sv
theorem bW {aP : List UInt8} {pn : Int} (h : aP.length = 32) : (aV aP pn).length = 33 := by simp [aV, h]
theorem kG {aP : List UInt8} {pn : Int} (h : aP.length = 32) : (aV aP pn)[32]? = some (.int .u32 pn) := by
  unfold aV
  rw [List.getElem?_append_right (by rw [List.length_map]; omega), List.length_map, h]; rfl
theorem rQ (aP : List UInt8) (pn : Int) : (aV aP pn).all bC = true := by
  unfold aV
  rw [List.all_append, uB]; rfl
theorem bR {v : Ver} {sv : a9} (h : v.aP.length = 32) (h2 : v.by_.length = 32) : (aN v sv).length = 70 := by
  unfold aN
  rw [List.length_append, bW h]
  simp [mP, h2]
theorem wT {v : Ver} {sv : a9} (h : v.aP.length = 32) : (aN v sv).take 33 = aV v.aP v.pn := by
  unfold aN
  rw [List.take_append_of_le_length (by rw [bW h]; omega), List.take_of_length_le (by rw [bW h]; omega)]
theorem kB {v : Ver} {sv : a9} (h : v.aP.length = 32) (k : Nat) : (aN v sv)[33 + k]? = (mP v sv)[k]? := by
  unfold aN
  rw [List.getElem?_append_right (by rw [bW h]; omega), bW h]
  congr 1; omega
def CI (h1 : List UInt8) (n1 : Int) (h2 : List UInt8) (n2 : Int) : Int := orI (Lib.compareBytes h1 h2) (iY n1 n2)
def eO (v w : Ver) : Int := orI (CI v.aP v.pn w.aP w.pn) (iY v.made w.made)
def GO (v w : Ver) : Int := orI (Lib.compareBytes v.aI w.aI) (eO v w)
theorem u25 : und env 25 = M.pure (.array 32 5) := rfl
theorem z5 : sizeOf env 5 = M.pure 1 := rfl
theorem R6 {id : Nat} {h' : Hp} {n' : Nat} : Rd (slice env 25 (.ptr id 0) none none none) h' n' [] (.sl id 0 32 (some 32) 1) := by
  simp only [slice, u25, z5, aD, cH, Nat.zero_mul, Nat.add_zero, Nat.sub_zero]
  exact Rd.pure _
theorem xW {h : Hp} {id : Nat} {xs : List a9} {l : List UInt8} (hr : Row h id xs) (hl : l.length = 32) (ht : xs.take 32 = l.map u8) (hx : 32 ≤ xs.length) : Bytes h (.sl id 0 32 (some 32) 1) l := by
  obtain ⟨e, he⟩ := hr
  have := Bytes.sl (h := h) id 0 (some 32) (.l xs) e l he (by show 0 + l.length ≤ xs.length; omega) (fun j hj => by
    have hj2 : j < xs.length := by omega
    rw [Nat.zero_add, bI.vX hj2]
    have h1 : (xs.take 32)[j]? = (l.map u8)[j]? := by rw [ht]
    rw [List.getElem?_take, if_pos (by omega), List.getElem?_eq_getElem hj2, List.getElem?_map, List.getElem?_eq_getElem hj] at h1
    injection h1)
  rwa [hl] at this
theorem f117 (h1 h2 : List UInt8) (n1 n2 : Int) (l1 : h1.length = 32) (l2 : h2.length = 32) (h : Hp) (n : Nat) (hf : bB h n) :
    Wp (aQ env (aE env) 117 [.agg (aV h1 n1), .agg (aV h2 n2)]) h n fun v' h' n' => v' = .int .i64 (CI h1 n1 h2 n2) ∧ Old h h' n := by
  refine aW av3 aq4 ?_
  simp only [OT, Try.f117, Option.getD_some, List.replicate, Nat.reduceAdd, Nat.reduceSub, gE]
  refine cX (v := .agg (aV h1 n1)) jJ rfl hf fun H1 r1 o1 f1 => ?_
  simp only [gE]
  refine cX (v := .agg (aV h2 n2)) jJ rfl f1 fun H2 r2 o2 f2 => ?_
  simp only [fgr, gE]
  have r1' : Row H2 n (aV h1 n1) := r1.aO (o2 n (by omega))
  have r2' : Row H2 (n + 1) (aV h2 n2) := r2
  have b1 := xW r1' l1 (by unfold aV; rw [List.take_append_of_le_length (by simp [l1]), List.take_of_length_le (by simp [l1])]) (by rw [bW l1]; omega)
  have b2 := xW r2' l2 (by unfold aV; rw [List.take_append_of_le_length (by simp [l2]), List.take_of_length_le (by simp [l2])]) (by rw [bW l2]; omega)
  refine c9 ⟨rfl, ?_⟩
  simp only [tyr, opt, aR, gE]
  rw [aZ R6]
  simp only [tyr, opt, aR, Nat.reduceAdd, gE]
  rw [aZ R6]
  simp only [hkr, Nat.reduceAdd, gE]
  rw [aZ (yL b1 b2)]
  simp only [tyr, aR, Nat.reduceAdd, gE]
  rw [aZ (r1'.one (kG l1) uG rfl)]
  simp only [tyr, aR, Nat.reduceAdd, gE]
  rw [aZ (r2'.one (kG l2) uG rfl)]
  simp only [hkr, Nat.reduceAdd, gE]
  refine pK f2 (f121 (fun _ => none) _ n1 n2) (f121 H2 _ n1 n2) fun v3 h3 n3 hn3 f3 ⟨e1, e2, e3⟩ => ?_
  subst e1; subst e2; subst e3
  simp only [tyr, cel, Nat.reduceAdd, Nat.beq, buildSlice, eS, fill, List.take_succ_cons, List.take_zero, List.drop_succ_cons, List.drop_zero, Nat.ble, Nat.one_mul, gE]
  refine kL ti3 f3 fun H4 r4 o4 f4 => ?_
  simp only [hkr, Nat.reduceAdd, gE]
  refine dC f4 (f63 _ _ _ _ _ _ r4) fun v5 h5 n5 r5 w5 hn5 f5 ⟨e1, e2, e3⟩ => ?_
  subst e1; subst e2; subst e3
  simp only [fgr, Nat.reduceAdd, gE]
  refine ⟨(by (try simp (disch := first | assumption | omega) only [cM, gF]); repeat' (first | rfl | exact (Bool.or_eq_true _ _).mpr (.inr rfl) | refine (Bool.and_eq_true _ _).mpr ⟨?_, ?_⟩)), ?_⟩
  exact ⟨rfl, fun j hj => by rw [o4 j (by omega), o2 j (by omega), o1 j (by omega)]⟩
structure Ver.Ok (v : Ver) : Prop where
  h : v.aP.length = 32
  b : v.by_.length = 32
theorem j5 {h : Hp} {n id : Nat} {v : Ver} {sv : a9} (hr : Row h id (aN v sv)) (ho : v.Ok) : Rd (load env 28 (.ptr id 0)) h n [id] (.agg (aV v.aP v.pn)) := by
  have := hr.agg (E := env) (n := n) (off := 0) jJ rfl (by rw [bR ho.h ho.b]; decide)
  rw [List.drop_zero] at this
  have e : (aN v sv).take 33 = aV v.aP v.pn := wT ho.h
  exact e ▸ this
theorem fM {h : Hp} {n id : Nat} {v : Ver} {sv : a9} (hr : Row h id (aN v sv)) (ho : v.Ok) : Rd (load env 31 (.ptr id 0)) h n [id] (.agg (aN v sv)) := hr.gY eR rfl (bR ho.h ho.b)
theorem fZ {h : Hp} {n id : Nat} {v : Ver} {sv : a9} (hr : Row h id (aN v sv)) (ho : v.Ok) : Rd (load env 3 (.ptr id 33)) h n [id] (.int .i64 v.made) := hr.one (kB ho.h 0) ti3 rfl
theorem mU {h : Hp} {n id : Nat} {v : Ver} {sv : a9} (hr : Row h id (aN v sv)) (ho : v.Ok) : Rd (load env 2 (.ptr id 34)) h n [id] (.int .i64 v.value) := hr.one (kB ho.h 1) ti2 rfl
theorem j4 {h : Hp} {n id : Nat} {v : Ver} {sv : a9} (hr : Row h id (aN v sv)) (ho : v.Ok) : Rd (load env 29 (.ptr id 35)) h n [id] sv := hr.one (kB ho.h 2) vP rfl
theorem dN {h : Hp} {n id : Nat} {v : Ver} {sv : a9} (hr : Row h id (aN v sv)) (ho : v.Ok) : Rd (load env 3 (.ptr id 37)) h n [id] (.int .i64 v.c8) := hr.one (kB ho.h 4) ti3 rfl
theorem WU {h : Hp} {n id : Nat} {v : Ver} {sv : a9} (hr : Row h id (aN v sv)) (ho : v.Ok) : Rd (load env 25 (.ptr id 38)) h n [id] (.agg (v.by_.map u8)) := by
  have := hr.agg (E := env) (n := n) (off := 38) nK rfl (by rw [bR ho.h ho.b]; decide)
  have e : ((aN v sv).drop 38).take 32 = v.by_.map u8 := by
    unfold aN
    rw [List.drop_append, List.drop_eq_nil_of_le (by rw [bW ho.h]; omega), bW ho.h]
    show (([] : List a9) ++ v.by_.map u8).take 32 = _
    rw [List.nil_append, List.take_of_length_le (by simp [ho.b])]
  exact e ▸ this
theorem f107 (v w : Ver) (sv sw : a9) (ov : v.Ok) (ow : w.Ok) (h : Hp) (n : Nat) (hf : bB h n) :
    Wp (aQ env (aE env) 107 [.agg (aN v sv), .agg (aN w sw)]) h n fun v' h' n' => v' = .int .i64 (eO v w) ∧ Old h h' n := by
  refine aW av9 ar0 ?_
  simp only [OZ, Try.f107, Option.getD_some, List.replicate, Nat.reduceAdd, Nat.reduceSub, gE]
  refine cX (v := .agg (aN v sv)) eR rfl hf fun H1 r1 o1 f1 => ?_
  simp only [gE]
  refine cX (v := .agg (aN w sw)) eR rfl f1 fun H2 r2 o2 f2 => ?_
  simp only [fgr, gE]
  have r1' : Row H2 n (aN v sv) := r1.aO (o2 n (by omega))
  have r2' : Row H2 (n + 1) (aN w sw) := r2
  refine c9 ⟨rfl, ?_⟩
  simp only [tyr, aR, gE]
  rw [aZ (j5 r1' ov)]
  simp only [tyr, aR, Nat.reduceAdd, gE]
  rw [aZ (j5 r2' ow)]
  simp only [hkr, Nat.reduceAdd, gE]
  refine pK f2 (f117 v.aP w.aP v.pn w.pn ov.h ow.h (fun _ => none) _ (fun _ _ => rfl)) (f117 v.aP w.aP v.pn w.pn ov.h ow.h H2 _ f2) fun v3 h3 n3 hn3 f3 ⟨e3, o3⟩ => ?_
  subst e3
  simp only [tyr, aR, Nat.reduceAdd, gE]
  have r1' := r1'.aO (o3 n (by omega))
  have r2' := r2'.aO (o3 (n + 1) (by omega))
  rw [aZ (fZ r1' ov)]
  simp only [tyr, aR, Nat.reduceAdd, gE]
  rw [aZ (fZ r2' ow)]
  simp only [hkr, Nat.reduceAdd, gE]
  refine pK f3 (f118 (fun _ => none) _ v.made w.made) (f118 h3 _ v.made w.made) fun v3 h3 n3 hn3 f3 ⟨e1, e2, e3⟩ => ?_
  subst e1; subst e2; subst e3
  simp only [tyr, cel, Nat.reduceAdd, Nat.beq, buildSlice, eS, fill, List.take_succ_cons, List.take_zero, List.drop_succ_cons, List.drop_zero, Nat.ble, Nat.one_mul, gE]
  refine kL ti3 f3 fun H4 r4 o4 f4 => ?_
  simp only [hkr, Nat.reduceAdd, gE]
  refine dC f4 (f63 _ _ _ _ _ _ r4) fun v5 h5 n5 r5 w5 hn5 f5 ⟨e1, e2, e3⟩ => ?_
  subst e1; subst e2; subst e3
  simp only [fgr, Nat.reduceAdd, gE]
  refine ⟨(by (try simp (disch := first | assumption | omega) only [cM, gF]); repeat' (first | rfl | exact (Bool.or_eq_true _ _).mpr (.inr rfl) | refine (Bool.and_eq_true _ _).mpr ⟨?_, ?_⟩)), ?_⟩
  exact ⟨rfl, fun j hj => by rw [o4 j (by omega), o3 j (by omega), o2 j (by omega), o1 j (by omega)]⟩
theorem t29 : und env 29 = M.pure (.slice 5) := rfl
theorem t9 : und env 9 = M.pure .string := rfl
theorem t5 : und env 5 = M.pure (.int .u8) := rfl
theorem s5 : sizeOf env 5 = M.pure 1 := rfl
structure At (h : Hp) (id : Nat) (sv : a9) (v : Ver) : Prop where
  row : Row h id (aN v sv)
  s : Bytes h sv v.aI
  ok : v.Ok
theorem At.aO {h h' : Hp} {id : Nat} {sv : a9} {v : Ver} (a : At h id sv v) (hi : h' id = h id) (hs : ∀ j, aT sv = some j → h' j = h j) : At h' id sv v := ⟨a.row.aO hi, a.s.aO hs, a.ok⟩
structure AtN (h : Hp) (n : Nat) (id : Nat) (sv : a9) (v : Ver) : Prop extends At h id sv v where
  idn : id < n
  sn : ∀ j, aT sv = some j → j < n
theorem AtN.old {h h' : Hp} {n n' : Nat} {id : Nat} {sv : a9} {v : Ver} (a : AtN h n id sv v) (hn : n ≤ n') (ho : Old h h' n) : AtN h' n' id sv v :=
  ⟨a.toAt.aO (ho id a.idn) (fun j hj => ho j (a.sn j hj)), by have := a.idn; omega, fun j hj => by have := a.sn j hj; omega⟩
theorem f84 (a b : Nat) (sa sb : a9) (v w : Ver) (h : Hp) (n : Nat) (ha : AtN h n a sa v) (hb : AtN h n b sb w) (hf : bB h n) :
    Wp (aQ env (aE env) 84 [.ptr a 0, .ptr b 0]) h n fun v' h' n' => v' = .int .i64 (eO v w) ∧ Old h h' n := by
  refine aW aR5 aH7 ?_
  simp only [ZO, Try.f84, Option.getD_some, List.replicate, fgr, Nat.reduceAdd, Nat.reduceSub, gE]
  refine c9 ⟨rfl, ?_⟩
  simp only [Nat.reduceAdd, gE]
  rw [aZ (fM ha.row ha.ok)]
  simp only [Nat.reduceAdd, gE]
  rw [aZ (fM hb.row hb.ok)]
  simp only [hkr, Nat.reduceAdd, gE]
  refine dC hf (f107 v w sa sb ha.ok hb.ok h n hf) fun v5 h5 n5 r5 w5 hn5 f5 ⟨e1, o1⟩ => ?_
  subst e1
  simp only [fgr, Nat.reduceAdd, gE]
  refine ⟨(by (try simp (disch := first | assumption | omega) only [cM, gF]); repeat' (first | rfl | exact (Bool.or_eq_true _ _).mpr (.inr rfl) | refine (Bool.and_eq_true _ _).mpr ⟨?_, ?_⟩)), ?_⟩
  exact o1
theorem f85 (a b : Nat) (sa sb : a9) (v w : Ver) (h : Hp) (n : Nat) (ha : AtN h n a sa v) (hb : AtN h n b sb w) (hf : bB h n) :
    Wp (aQ env (aE env) 85 [.ptr a 0, .ptr b 0]) h n fun v' h' n' => v' = .int .i64 (GO v w) ∧ Old h h' n := by
  refine aW aR4 aH6 ?_
  simp only [ZN, Try.f85, Option.getD_some, List.replicate, fgr, Nat.reduceAdd, Nat.reduceSub, gE]
  refine c9 ⟨rfl, ?_⟩
  simp only [tyr, aR, Nat.reduceAdd, gE]
  rw [aZ (j4 ha.row ha.ok)]
  simp only [tyr, aR, Nat.reduceAdd, gE]
  rw [aZ (j4 hb.row hb.ok)]
  simp only [hkr, Nat.reduceAdd, gE]
  rw [aZ (yL ha.s hb.s)]
  simp only [hkr, Nat.reduceAdd, gE]
  refine dC hf (f84 a b sa sb v w h n ha hb hf) fun v5 h5 n5 r5 w5 hn5 f5 ⟨e1, o1⟩ => ?_
  subst e1
  simp only [tyr, cel, Nat.reduceAdd, Nat.beq, buildSlice, eS, fill, List.take_succ_cons, List.take_zero, List.drop_succ_cons, List.drop_zero, Nat.ble, Nat.one_mul, gE]
  refine kL ti3 f5 fun H4 r4 o4 f4 => ?_
  simp only [hkr, Nat.reduceAdd, gE]
  refine dC f4 (f63 _ _ _ _ _ _ r4) fun v6 h6 n6 r6 w6 hn6 f6 ⟨e1, e2, e3⟩ => ?_
  subst e1; subst e2; subst e3
  simp only [fgr, Nat.reduceAdd, gE]
  refine ⟨(by (try simp (disch := first | assumption | omega) only [cM, gF]); repeat' (first | rfl | exact (Bool.or_eq_true _ _).mpr (.inr rfl) | refine (Bool.and_eq_true _ _).mpr ⟨?_, ?_⟩)), ?_⟩
  exact ⟨rfl, fun j hj => by rw [o4 j (by omega), o1 j hj]⟩
def cI (v : Ver) (z : Int) : Bool := decide (v.made ≤ z) && (decide (v.c8 = 0) || decide (z < v.c8))
theorem f82 (v : Ver) (sv : a9) (ov : v.Ok) (z : Int) (h : Hp) (n : Nat) (hf : bB h n) :
    Wp (aQ env (aE env) 82 [.agg (aN v sv), .int .i64 z]) h n fun v' h' n' => v' = .bool (cI v z) ∧ Old h h' n := by
  refine aW aR7 aH9 ?_
  simp only [ZQ, Try.f82, Option.getD_some, List.replicate, Nat.reduceAdd, Nat.reduceSub, gE]
  refine cX (v := .agg (aN v sv)) eR rfl hf fun H1 r1 o1 f1 => ?_
  simp only [tyr, fgr, bor, aR, aH (fZ r1 ov), gE]
  by_cases c1 : v.made ≤ z
  · by_cases c2 : v.c8 = 0
    · simp only [tyr, fgr, bor, bH, aR, aH (dN r1 ov), c1, c2, gE]
      exact ⟨by simp [cI, c1, c2], fun j hj => o1 j (by omega)⟩
    · by_cases c3 : z < v.c8
      · simp only [tyr, fgr, bor, bH, aR, gt_iff_lt, aH (dN r1 ov), c1, c2, c3, gE]
        exact ⟨by simp [cI, c1, c2, c3], fun j hj => o1 j (by omega)⟩
      · simp only [tyr, fgr, bor, bH, aR, gt_iff_lt, aH (dN r1 ov), c1, c2, c3, gE]
        exact ⟨by simp [cI, c1, c2, c3], fun j hj => o1 j (by omega)⟩
  · simp only [fgr, bH, c1, gE]
    exact ⟨by simp [cI, c1], fun j hj => o1 j (by omega)⟩
theorem f90 (v : a9) (l : List UInt8) (h : Hp) (n : Nat) (hb : Bytes h v l) (hl : l.length ≤ 1000000) (hf : bB h n) : Wp (aQ env (aE env) 90 [v]) h n fun v' h' n' => Bytes h' v' l ∧ (∀ j, aT v' = some j → n ≤ j ∧ j < n') ∧ Old h h' n := by
  refine aW aR0 aH2 ?_
  simp only [ZJ, Try.f90, Option.getD_some, List.replicate, fgr, Nat.reduceSub, hb.ED t29, gE]
  cases hnil : lT v with
  | true =>
    simp only [fgr, gE]
    have := hb.nil.2 hnil
    subst this
    exact ⟨.aL, (fun j hj => by cases hj), Old.refl _ _⟩
  | false =>
    simp only [tyr, builtin, newRow, buildSlice, eS, fill, Nat.ble, gE]
    refine fE (i := ⟨.int .u8, 1, 1, .int .u8 0⟩) (e := 5) (cnt := 0) (xs := []) (BU (aM _ _ _) rfl (fun k hk => by injection hk with hk; exact hk.symm)) ((hb.aO fun j hj => ?_).rds) t29 t29 ti5 (uB l) (by decide) (by show 2 * (0 + l.length) * 1 ≤ _; omega) (by omega) hf.new ?_
    · rw [aK]
      intro e
      cases hb with
      | aL => cases hj
      | isl => cases hj
      | sl id off cap c e2 l hh hs hc => injection hj with hj; subst hj; subst e; rw [hf _ (Nat.le_refl _)] at hh; cases hh
    · intro v' h' n' hn hf' ho hid hold
      simp only [fgr, gE]
      rw [List.nil_append] at ho
      refine ⟨ho.rds.bytes (by intro e; subst e; cases ho), fun j hj => ?_, fun j hj => ?_⟩
      · rcases hid with q | ⟨q, q2⟩
        · rw [q] at hj; injection hj with hj; subst hj; exact ⟨Nat.le_refl _, by omega⟩
        · rw [q] at hj; injection hj with hj; omega
      · rw [hold j (by omega) (fun e => by injection e with e; omega), aK _ _ (by omega)]
theorem cU {v : Ver} {sv : a9} (h1 : bC sv = true) : (aN v sv).all bC = true := by
  unfold aN mP
  rw [List.all_append, rQ, List.all_append, uB]
  simp only [List.all_cons, List.all_nil, h1, Bool.and_true]
  rfl
theorem zT {v : Ver} {sv s' : a9} (h : v.aP.length = 32) : bV (aN v sv) 35 [s'] = aN v s' := by
  unfold bV aN
  have hl := bW (pn := v.pn) h
  rw [List.take_append, List.drop_append, hl, List.take_of_length_le (by rw [hl]; omega), List.drop_eq_nil_of_le (by rw [hl]; simp)]
  simp only [List.length_singleton, mP, List.append_assoc]
  rfl
theorem f77 (v : Ver) (sv : a9) (ov : v.Ok) (h : Hp) (n : Nat) (hs : Bytes h sv v.aI) (hsn : ∀ j, aT sv = some j → j < n) (hl : v.aI.length ≤ 1000000) (hf : bB h n) :
    Wp (aQ env (aE env) 77 [.agg (aN v sv)]) h n fun v' h' n' => ∃ s', v' = .agg (aN v s') ∧ Bytes h' s' v.aI ∧ (∀ j, aT s' = some j → n ≤ j ∧ j < n') ∧ Old h h' n := by
  refine aW aS2 aI4 ?_
  simp only [ZV, Try.f77, Option.getD_some, List.replicate, Nat.reduceSub, gE]
  refine cX (v := .agg (aN v sv)) eR rfl hf fun H1 r1 o1 f1 => ?_
  simp only [gE]
  rw [cC eR rfl]
  obtain ⟨H2, hH2⟩ : ∃ H2, H2 = upd H1 (n + 1) (some (Blk.row (bI.l eQ.i.zero.cells) 31)) := ⟨_, rfl⟩
  have f2 : bB H2 (n + 1 + 1) := by rw [hH2]; exact f1.new
  have o2 : ∀ j, j ≠ n + 1 → H2 j = H1 j := fun j hj => by rw [hH2, aK _ _ hj]
  have r2 : H2 (n + 1) = some (Blk.row (bI.l eQ.i.zero.cells) 31) := by rw [hH2, aM]
  show Ops env 77 none _ _ _ _ _ (upd H1 (n + 1) (some (Blk.row (bI.l eQ.i.zero.cells) 31))) _
  rw [← hH2]
  clear hH2
  have r1 := r1.aO (o2 n (by omega))
  have old2 : Old h H2 n := fun j hj => by rw [o2 j (by omega), o1 j (by omega)]
  simp only [tyr, fgr, aR, gE]
  rw [aH (j4 r1 ov)]
  simp only [hkr, gE]
  refine aU f2 (f90 sv v.aI H2 _ (hs.aO fun j hj => old2 j (hsn j hj)) hl f2) fun s' H3 n3 hn3 f3 ⟨b3, i3, o3⟩ => ?_
  simp only [tyr, aR, gE]
  obtain ⟨e1, he1⟩ := r1.aO (o3 n (by omega))
  rw [dE (Row.write he1 vP (by rw [b3.kind.1]; rfl) (by show 35 + 1 ≤ (aN v sv).length; rw [bR ov.h ov.b]; decide) (by rw [b3.kind.1]; simp [b3.kind.2.1]))]
  rw [b3.kind.1, show bV (a9.agg (aN v sv)).cells 35 [s'] = aN v s' from zT ov.h]
  simp only [fgr, gE]
  have f4 : bB (upd H3 n (some (Blk.row (bI.l (aN v s')) e1))) n3 := f3.upd (by omega)
  have r4 : Row (upd H3 n (some (Blk.row (bI.l (aN v s')) e1))) n (aN v s') := Row.new _ _ _ _
  rw [aH (fM r4 ov)]
  simp only [gE]
  have q4 : (upd H3 n (some (Blk.row (bI.l (aN v s')) e1))) (n + 1) = some (Blk.row (bI.l eQ.i.zero.cells) 31) := by rw [aK _ _ (by omega), o3 _ (by omega), r2]
  rw [dE (Row.write q4 eR (v := .agg (aN v s')) (bR ov.h ov.b) (by decide) (cU b3.kind.2.1))]
  rw [eB (by show (aN v s').length = _; rw [bR ov.h ov.b]; rfl)]
  have hne : ∀ j, aT s' = some j → j ≠ n ∧ j ≠ n + 1 := fun j hj => by have := i3 j hj; omega
  have r5 : Row (upd (upd H3 n (some (Blk.row (bI.l (aN v s')) e1))) (n + 1) (some (Blk.row (bI.l (a9.agg (aN v s')).cells) 31))) (n + 1) (aN v s') := Row.new _ _ _ _
  simp only [bK, fgr, bQ, nth, aJ, cel, true_and]
  refine eK (fM r5 ov) ?_
  refine aS.2 ⟨s', rfl, b3.aO fun j hj => ?_, fun j hj => by have := i3 j hj; omega, fun j hj => ?_⟩
  · rw [aK _ _ (hne j hj).2, aK _ _ (hne j hj).1]
  · rw [aK _ _ (by omega), aK _ _ (by omega), o3 j (by omega), old2 j hj]
theorem f73 (x : Nat) (cs : List a9) (b : Bool) (h : Hp) (n : Nat) (hr : Row h x cs) (hc : cs[0]? = some (.bool b)) : Wp (aQ env (aE env) 73 [.ptr x 0]) h n fun v' h' n' => v' = .bool (!b) ∧ h' = h ∧ n' = n := by
  refine aW aS6 aI8 ?_
  simp only [ZZ, Try.f73, Option.getD_some, List.replicate, tyr, fgr, bor, bP, gR, unOp, bH, aR, bU, equal, iF, fH, fI, Nat.reduceSub, aH (hr.one hc ti4 rfl), gE]
theorem f75 (h : Hp) (n : Nat) (v : a9) : Wp (aQ env (aE env) 75 [v]) h n fun v' h' n' => v' = .bool true ∧ h' = h ∧ n' = n := by
  refine aW aS4 aI6 ?_
  simp only [ZX, Try.f75, Option.getD_some, List.replicate, fgr, Nat.reduceSub, gE]
structure Ps (h : Hp) (D : Nat → Prop) (xs : List a9) (vs : List Ver) : Prop where
  len : xs.length = vs.length
  at_ : ∀ (j : Nat) x v, xs[j]? = some x → vs[j]? = some v → ∃ id sv, x = .ptr id 0 ∧ At h id sv v ∧ D id ∧ ∀ i, aT sv = some i → D i
theorem Ps.mono {h h' : Hp} {D D' : Nat → Prop} {xs : List a9} {vs : List Ver} (p : Ps h D xs vs) (hd : ∀ j, D j → D' j) (hk : ∀ j, D j → h' j = h j) : Ps h' D' xs vs :=
  ⟨p.len, fun j x v hx hv => by
    obtain ⟨id, sv, e, a, d1, d2⟩ := p.at_ j x v hx hv
    exact ⟨id, sv, e, a.aO (hk id d1) (fun i hi => hk i (d2 i hi)), hd id d1, fun i hi => hd i (d2 i hi)⟩⟩
theorem Ps.get {h : Hp} {D : Nat → Prop} {xs : List a9} {vs : List Ver} (p : Ps h D xs vs) {j : Nat} (hj : j < vs.length) : ∃ id sv, xs[j]? = some (.ptr id 0) ∧ At h id sv vs[j] ∧ D id ∧ ∀ i, aT sv = some i → D i := by
  have hx : j < xs.length := by rw [p.len]; exact hj
  obtain ⟨id, sv, e, a⟩ := p.at_ j _ _ (List.getElem?_eq_getElem hx) (List.getElem?_eq_getElem hj)
  exact ⟨id, sv, by rw [List.getElem?_eq_getElem hx, e], a⟩
theorem Ps.cells {h : Hp} {D : Nat → Prop} {xs : List a9} {vs : List Ver} (p : Ps h D xs vs) : xs.all bC = true := by
  refine ah0 fun j x hx => ?_
  have hj := (List.getElem?_eq_some_iff.1 hx).1
  obtain ⟨id, sv, rfl, _⟩ := p.at_ j x _ hx (List.getElem?_eq_getElem (by rw [← p.len]; exact hj))
  rfl
def gW : Bool → Ver → Ver → Int
  | false => eO
  | true => GO
def fid : Bool → Nat
  | false => 84
  | true => 85
def fo (o : Bool) : a9 := .fn (.func (fid o)) [] []
theorem hkO (o : Bool) (args : List a9) : bM env (aE env) (fid o) args = aQ env (aE env) (fid o) args := by cases o <;> rfl
theorem fO (o : Bool) (a b : Nat) (sa sb : a9) (v w : Ver) (h : Hp) (n : Nat) (ha : AtN h n a sa v) (hb : AtN h n b sb w) (hf : bB h n) :
    Wp (aQ env (aE env) (fid o) [.ptr a 0, .ptr b 0]) h n fun v' h' n' => v' = .int .i64 (gW o v w) ∧ Old h h' n := by
  cases o
  · exact f84 a b sa sb v w h n ha hb hf
  · exact f85 a b sa sb v w h n ha hb hf
theorem u95 : und env 95 = M.pure (.slice 128) := rfl
theorem qR : sizeOf env 128 = M.pure 1 := rfl
theorem mid (i j : Nat) (h : i + j ≤ 1000000000) : IntKind.i64.wrap (Int.fdiv (IntKind.u64.wrap (IntKind.i64.wrap ((i : Int) + (j : Int)))) (2 ^ min (Int.toNat 1) IntKind.u64.bits)) = (((i + j) / 2 : Nat) : Int) := by
  have e1 : IntKind.i64.wrap ((i : Int) + (j : Int)) = (i : Int) + (j : Int) := w64 (by omega) (by omega)
  have e2 : IntKind.u64.wrap ((i : Int) + (j : Int)) = (i : Int) + (j : Int) := ah6 (by omega) (by omega)
  have e3 : ((2 : Int) ^ min (Int.toNat 1) IntKind.u64.bits) = 2 := by decide
  have e4 : ((i : Int) + (j : Int)).fdiv 2 = (((i + j) / 2 : Nat) : Int) := by rw [Int.fdiv_eq_ediv_of_nonneg _ (by decide)]; omega
  rw [e1, e2, e3, e4]
  exact w64 (by omega) (by omega)
theorem T2 (Q : dG) (ks : List Kf) (o : Bool) (v : a9) (t : Nat) (st : a9) (tv : Ver) (cnt : Nat) (xs : List a9) (vs : List Ver) (D : Nat → Prop) (h0 : Hp) (n0 : Nat) (hc : cnt ≤ 100000000) (hv : Rds h0 1 v cnt xs) (hvn : ∀ j, aT v = some j → j < n0) (hp : Ps h0 D xs vs) (hD : ∀ j, D j → j < n0) (ht : AtN h0 n0 t st tv)
    (hmono : ∀ (a b : Nat) (ha : a < vs.length) (hb : b < vs.length), a < b → gW o vs[b] tv < 0 → gW o vs[a] tv < 0)
    (hT : ∀ (p : Nat) (h : Hp) (n : Nat) (x6 x7 x11 x17 x31 : a9), p ≤ cnt → (∀ k (hk : k < vs.length), k < p → gW o vs[k] tv < 0) → (∀ k (hk : k < vs.length), p ≤ k → ¬ gW o vs[k] tv < 0) → n0 ≤ n → bB h n → Old h0 h n0 →
      cT env 114 none Q ks (.exit 0) (v :: .ptr t 0 :: fo o :: a9.aA :: a9.aA :: a9.aA :: x6 :: x7 :: .int .i64 (cnt : Nat) :: .int .i64 (p : Nat) :: .int .i64 (p : Nat) :: x11 :: a9.aA :: a9.aA :: a9.aA :: a9.aA :: a9.aA :: x17 :: a9.aA :: a9.aA :: a9.aA :: a9.aA :: a9.aA :: a9.aA :: a9.aA :: a9.aA :: a9.aA :: a9.aA :: a9.aA :: a9.aA :: a9.aA :: x31 :: a9.aA :: a9.aA :: a9.aA :: a9.aA :: a9.aA :: a9.aA :: a9.aA :: a9.aA :: a9.aA :: a9.aA :: a9.aA :: a9.aA :: a9.aA :: a9.aA :: a9.aA :: a9.aA :: a9.aA :: []) h n) :
    ∀ (m i j : Nat) (h : Hp) (n : Nat) (x6 x7 x11 x17 x31 : a9), j - i ≤ m → i ≤ j → j ≤ cnt → (∀ k (hk : k < vs.length), k < i → gW o vs[k] tv < 0) → (∀ k (hk : k < vs.length), j ≤ k → ¬ gW o vs[k] tv < 0) → n0 ≤ n → bB h n → Old h0 h n0 →
      Run env 114 none Q (.loop wI) ks (v :: .ptr t 0 :: fo o :: a9.aA :: a9.aA :: a9.aA :: x6 :: x7 :: .int .i64 (cnt : Nat) :: .int .i64 (i : Nat) :: .int .i64 (j : Nat) :: x11 :: a9.aA :: a9.aA :: a9.aA :: a9.aA :: a9.aA :: x17 :: a9.aA :: a9.aA :: a9.aA :: a9.aA :: a9.aA :: a9.aA :: a9.aA :: a9.aA :: a9.aA :: a9.aA :: a9.aA :: a9.aA :: a9.aA :: x31 :: a9.aA :: a9.aA :: a9.aA :: a9.aA :: a9.aA :: a9.aA :: a9.aA :: a9.aA :: a9.aA :: a9.aA :: a9.aA :: a9.aA :: a9.aA :: a9.aA :: a9.aA :: a9.aA :: a9.aA :: []) h n := by
  intro m
  have hcl : cnt = vs.length := by have := hv.length; have := hp.len; omega
  induction m with
  | zero =>
    intro i j h n x6 x7 x11 x17 x31 hm hij hjc h1 h2 hn hf ho
    have : i = j := by omega
    subst this
    rw [bT]
    have hcc : ¬ ((i : Int) < (i : Int)) := by omega
    simp only [wI, bD, Try.f114, Option.getD_some, fgr, bor, List.getD_cons_zero, hcc, gE]
    exact hT i h n _ _ _ _ _ hjc h1 h2 hn hf ho
  | succ m ih =>
    intro i j h n x6 x7 x11 x17 x31 hm hij hjc h1 h2 hn hf ho
    rw [bT]
    by_cases hlt : i < j
    · have hcc : ((i : Int) < (j : Int)) := by omega
      have hk : (i + j) / 2 < cnt := by omega
      have hv' := hv.aO (h' := h) (fun j hj => ho j (hvn j hj))
      have hp' := hp.mono (D' := D) (fun _ q => q) (fun j hj => ho j (hD j hj))
      obtain ⟨id, sv, hx, a, d1, d2⟩ := hp'.get (j := (i + j) / 2) (by omega)
      have hidx := hv'.idx (E := env) u95 qR (kk := .i64) (z := (((i + j) / 2 : Nat) : Int)) (j := (i + j) / 2) rfl hk (h' := h) (n' := n)
      have hld := hv'.load (E := env) iO rfl (k := (i + j) / 2 * 1) (n := n) (by rw [Nat.mul_one]; exact hx)
      simp only [wI, bD, Try.f114, Option.getD_some, tyr, fgr, lenOf, bor, BD, bZ, Int.reduceLE, convert, fV, pG, List.getD_cons_zero, hcc, mid i j (by omega), gE]
      rw [aH hidx]
      simp only [gE]
      rw [aH hld]
      simp only [fo, hkO, gE]
      have atn : AtN h n id sv (vs[(i + j) / 2]'(by omega)) := ⟨a, by have := hD _ d1; omega, fun q hq => by have := hD _ (d2 q hq); omega⟩
      refine aU hf (fO o id t sv st _ tv h n atn (ht.old hn ho) hf) fun v' h' n' hn' hf' ⟨e', o'⟩ => ?_
      subst e'
      have ho' : Old h0 h' n0 := fun q hq => (o' q (by omega)).trans (ho q hq)
      by_cases hneg : gW o (vs[(i + j) / 2]'(by omega)) tv < 0
      · have w1 : IntKind.i64.wrap ((((i + j) / 2 : Nat) : Int) + 1) = (((i + j) / 2 + 1 : Nat) : Int) := by rw [w64 (by omega) (by omega)]; omega
        simp only [fgr, bor, bZ, hneg, w1, gE]
        exact ih ((i + j) / 2 + 1) j h' n' _ _ _ _ _ (by omega) (by omega) hjc (fun k hk hlt => by
          by_cases q : k = (i + j) / 2
          · subst q; exact hneg
          · exact hmono k ((i + j) / 2) hk (by omega) (by omega) hneg) h2 (by omega) hf' ho'
      · simp only [fgr, bor, hneg, gE]
        exact ih i ((i + j) / 2) h' n' _ _ _ _ _ (by omega) (by omega) (by omega) h1 (fun k hk hle hlt => by
          by_cases q : k = (i + j) / 2
          · subst q; exact hneg hlt
          · exact hneg (hmono ((i + j) / 2) k (by omega) hk (by omega) hlt)) (by omega) hf' ho'
    · have : i = j := by omega
      subst this
      have hcc : ¬ ((i : Int) < (i : Int)) := by omega
      simp only [wI, bD, Try.f114, Option.getD_some, fgr, bor, List.getD_cons_zero, hcc, gE]
      exact hT i h n _ _ _ _ _ hjc h1 h2 hn hf ho
structure Pos (o : Bool) (vs : List Ver) (t : Ver) (p : Nat) : Prop where
  le : p ≤ vs.length
  lo : ∀ k (hk : k < vs.length), k < p → gW o vs[k] t < 0
  hi : ∀ k (hk : k < vs.length), p ≤ k → ¬ gW o vs[k] t < 0
def vS (o : Bool) (vs : List Ver) (t : Ver) (p : Nat) : Bool := match vs[p]? with
  | some w => decide (gW o w t = 0)
  | none => false
def KV (o : Bool) (vs : List Ver) (t : Ver) : Prop := ∀ (a b : Nat) (ha : a < vs.length) (hb : b < vs.length), a < b → gW o vs[b] t < 0 → gW o vs[a] t < 0
theorem f114 (o : Bool) (v : a9) (t : Nat) (st : a9) (tv : Ver) (cnt : Nat) (xs : List a9) (vs : List Ver) (D : Nat → Prop) (h : Hp) (n : Nat) (hc : cnt ≤ 100000000) (hv : Rds h 1 v cnt xs) (hvn : ∀ j, aT v = some j → j < n) (hp : Ps h D xs vs) (hD : ∀ j, D j → j < n) (ht : AtN h n t st tv)
    (hmono : KV o vs tv) (hf : bB h n) :
    Wp (aQ env (aE env) 114 [v, .ptr t 0, fo o]) h n fun v' h' n' => ∃ p, Pos o vs tv p ∧ v' = .tup [.int .i64 (p : Nat), .bool (vS o vs tv p)] ∧ Old h h' n := by
  have hcl : cnt = vs.length := by have := hv.length; have := hp.len; omega
  refine aW av4 aq5 ?_
  simp only [OU, Try.f114, Option.getD_some, List.replicate, fgr, builtin, Nat.reduceAdd, Nat.reduceSub, hv.cA u95, gE]
  refine T2 _ _ o v t st tv cnt xs vs D h n hc hv hvn hp hD ht hmono ?_ cnt 0 cnt h n _ _ _ _ _ (by omega) (by omega) (Nat.le_refl _) (fun k _ hk => by omega) (fun k hk hle => by omega) (Nat.le_refl _) hf (Old.refl _ _)
  intro p h1 n1 x6 x7 x11 x17 x31 hpc hlo hhi hn1 hf1 ho1
  have hP : Pos o vs tv p := ⟨by omega, hlo, hhi⟩
  by_cases hlt : p < cnt
  · have hcc : ((p : Int) < ((cnt : Nat) : Int)) := by omega
    have hv' := hv.aO (h' := h1) (fun j hj => ho1 j (hvn j hj))
    have hp' := hp.mono (D' := D) (fun _ q => q) (fun j hj => ho1 j (hD j hj))
    obtain ⟨id, sv, hx, a, d1, d2⟩ := hp'.get (j := p) (by omega)
    have hidx := hv'.idx (E := env) u95 qR (kk := .i64) (z := ((p : Nat) : Int)) (j := p) rfl hlt (h' := h1) (n' := n1)
    have hld := hv'.load (E := env) iO rfl (k := p * 1) (n := n1) (by rw [Nat.mul_one]; exact hx)
    simp only [bor, hcc, gE]
    rw [aH hidx]
    simp only [gE]
    rw [aH hld]
    simp only [fo, hkO, gE]
    have atn : AtN h1 n1 id sv (vs[p]'(by omega)) := ⟨a, by have := hD _ d1; omega, fun q hq => by have := hD _ (d2 q hq); omega⟩
    refine aU hf1 (fO o id t sv st _ tv h1 n1 atn (ht.old hn1 ho1) hf1) fun v' h' n' hn' hf' ⟨e', o'⟩ => ?_
    subst e'
    have hia : vS o vs tv p = decide (gW o (vs[p]'(by omega)) tv = 0) := by
      unfold vS
      rw [List.getElem?_eq_getElem (by omega)]
    simp only [fgr, bor, bH, gE]
    exact ⟨p, hP, by rw [hia], fun q hq => (o' q (by omega)).trans (ho1 q hq)⟩
  · have hcc : ¬ ((p : Int) < ((cnt : Nat) : Int)) := by omega
    have hia : vS o vs tv p = false := by
      unfold vS
      rw [List.getElem?_eq_none (by omega)]
    simp only [fgr, bor, bH, hcc, gE]
    exact ⟨p, hP, by rw [hia], ho1⟩
theorem f103 (o : Bool) (x off : Nat) (cs : List a9) (v : a9) (t : Nat) (st : a9) (tv : Ver) (cnt : Nat) (xs : List a9) (vs : List Ver) (D : Nat → Prop) (h : Hp) (n : Nat) (hr : Row h x cs) (hc0 : cs[off]? = some v) (hc1 : cs[off + 1]? = some (fo o)) (hc : cnt ≤ 100000000) (hv : Rds h 1 v cnt xs) (hvn : ∀ j, aT v = some j → j < n) (hp : Ps h D xs vs) (hD : ∀ j, D j → j < n) (ht : AtN h n t st tv)
    (hmono : KV o vs tv) (hf : bB h n) :
    Wp (aQ env (aE env) 103 [.ptr x off, .ptr t 0]) h n fun v' h' n' => ∃ p, Pos o vs tv p ∧ v' = .tup [.int .i64 (p : Nat), .bool (vS o vs tv p)] ∧ Old h h' n := by
  refine aW aw2 ar3 ?_
  simp only [P2, Try.f103, Option.getD_some, List.replicate, fgr, Nat.reduceAdd, Nat.reduceSub, gE]
  refine c9 ⟨rfl, ?_⟩
  simp only [tyr, aR, Nat.reduceAdd, gE]
  rw [aZ (hr.one hc0 oQ rfl)]
  simp only [tyr, aR, Nat.reduceAdd, gE]
  rw [aZ (hr.one hc1 J1 rfl)]
  simp only [hkr, Nat.reduceAdd, gE]
  refine dC hf (f114 o v t st tv cnt xs vs D h n hc hv hvn hp hD ht hmono hf) fun v5 h5 n5 r5 w5 hn5 f5 ⟨p, hP, e1, o1⟩ => ?_
  subst e1
  simp only [fgr, Nat.reduceAdd, gE]
  refine ⟨(by (try simp (disch := first | assumption | omega) only [cM, gF]); repeat' (first | rfl | exact (Bool.or_eq_true _ _).mpr (.inr rfl) | refine (Bool.and_eq_true _ _).mpr ⟨?_, ?_⟩)), ?_⟩
  exact ⟨p, hP, rfl, o1⟩
inductive Lp (h : Hp) : a9 → Nat → List a9 → Prop
  | nil : Lp h .aL 0 []
  | zero (id off : Nat) (c : bI) (hh : h id = some (.row c 128)) (hs : off ≤ c.size) : Lp h (.sl id off 0 (some 0) 1) 0 []
  | sl (id cnt : Nat) (cells xs : List a9) (hh : h id = some (.row (.l cells) 128)) (h0 : 0 < cells.length) (hl : cnt ≤ cells.length) (hx : cells.take cnt = xs) : Lp h (.sl id 0 cnt none 1) cnt xs
theorem Lp.rds {h : Hp} {s : a9} {cnt : Nat} {xs : List a9} (l : Lp h s cnt xs) : Rds h 1 s cnt xs := by
  cases l with
  | nil => exact .aL
  | zero id off c hh hs => exact .sl id off 0 (some 0) c 128 _ hh rfl (by simpa using hs) (fun j hj => by simp at hj)
  | sl id cnt cells xs hh h0 hl hx =>
    subst hx
    exact .sl id 0 cnt none (.l cells) 128 _ hh (by rw [List.length_take]; omega) (by rw [List.length_take]; show 0 + _ ≤ cells.length; omega) (fun j hj => by
      rw [List.length_take] at hj
      rw [Nat.zero_add, bI.vX (by omega), List.getElem_take])
theorem Lp.aO {h h' : Hp} {s : a9} {cnt : Nat} {xs : List a9} (l : Lp h s cnt xs) (hk : ∀ j, aT s = some j → h' j = h j) : Lp h' s cnt xs := by
  cases l with
  | nil => exact .nil
  | zero id off c hh hs => exact .zero id off c ((hk id rfl).trans hh) hs
  | sl id cnt cells xs hh h0 hl hx => exact .sl id cnt cells xs ((hk id rfl).trans hh) h0 hl hx
theorem Lp.dL {h : Hp} {n : Nat} {s : a9} {cnt : Nat} {xs : List a9} (l : Lp h s cnt xs) (hf : bB h n) {j : Nat} (hj : aT s = some j) : j < n := by
  by_cases q : j < n
  · exact q
  · cases l with
    | nil => cases hj
    | zero id off c hh hs => injection hj with hj; subst hj; rw [hf id (by omega)] at hh; cases hh
    | sl id cnt cells xs hh h0 hl hx => injection hj with hj; subst hj; rw [hf id (by omega)] at hh; cases hh
theorem VA {h : Hp} {n xid k cnt : Nat} {s x : a9} {xs : List a9} (l : Lp h s cnt xs) (hx : h xid = some (.row (.l [x]) 128)) (h1 : bC x = true) (hk : k ≤ cnt) (hc : cnt ≤ 100000000) (hxs : xs.all bC = true) (hne : aT s ≠ some xid) (hf : bB h n) :
    Wp (uP 128 oK.i [s, .int .i64 (k : Nat), .sl xid 0 1 (some 1) 1]) h n fun v' h' n' => v' = .sl n 0 (cnt + 1) none 1 ∧ n' = n + 1 ∧ h' n = some (.row (.l (fB xs k x)) 128) ∧ ∀ j, j < n → aT s ≠ some j → h' j = h j := by
  have hxn : xid < n := by
    by_cases q : xid < n
    · exact q
    · rw [hf xid (by omega)] at hx; cases hx
  have b1 : Nat.blt xid n = true := Nat.ble_eq_true_of_le hxn
  have b2 : Nat.blt 0 1 = true := rfl
  have r0 : ((2 * 1 * 8).ble room && (1).ble room) = true := rfl
  simp only [uP, RC, eU, hx, Option.some.injEq, exists_eq_left', eG, eP, b1, bI.size, bI.at, nth, List.length_singleton, b2, Nat.beq_refl, h1, Bool.and_self, true_and]
  cases l with
  | nil =>
    have : k = 0 := by omega
    subst this
    simp only [qJ, hO, eP, fW, aS, decide_true, Int.cast_ofNat_Int, oK, r0, true_and]
    exact ⟨aM _ _ _, fun j hj _ => aK _ _ (by omega)⟩
  | zero id off c hh hs =>
    have : k = 0 := by omega
    subst this
    have hid : id < n := by
      by_cases q : id < n
      · exact q
      · rw [hf id (by omega)] at hh; cases hh
    have b3 : Nat.blt id n = true := Nat.ble_eq_true_of_le hid
    have b4 : off.ble c.size = true := Nat.ble_eq_true_of_le hs
    unfold bI.size at b4
    simp only [cB, eU, hh, Option.some.injEq, exists_eq_left', eG, eP, b3, b4, Nat.beq_refl, Bool.and_self, true_and, qJ, hO, fW, aS, decide_true, Int.cast_ofNat_Int, oK, r0]
    exact ⟨aM _ _ _, fun j hj _ => aK _ _ (by omega)⟩
  | sl id cnt cells xs hh h0 hl hxx =>
    subst hxx
    have hid : id < n := by
      by_cases q : id < n
      · exact q
      · rw [hf id (by omega)] at hh; cases hh
    have b3 : Nat.blt id n = true := Nat.ble_eq_true_of_le hid
    have b4 : Nat.blt 0 cells.length = true := Nat.ble_eq_true_of_le h0
    have b5 : cnt.ble cells.length = true := Nat.ble_eq_true_of_le hl
    have b6 : (id.beq xid) = false := jW (fun e => hne (by rw [e]; rfl))
    have b7 : am3 ((k : Nat) : Int) cnt = true := decide_eq_true ⟨by omega, by omega⟩
    have b8 : (bI.l cells).sub 0 cnt = cells.take cnt := rfl
    have r1 : ((2 * (cnt + 1) * 8).ble room && (cnt + 1).ble room) = true := by
      unfold room
      rw [cQ (by omega), cQ (by omega)]; rfl
    simp only [cB, eU, hh, Option.some.injEq, exists_eq_left', eG, eP, b3, b4, b5, b6, b7, b8, hxs, Nat.beq_refl, Bool.not_false, Bool.and_self, true_and, pY, hO, fW, aS, oK, r1, Int.toNat_natCast]
    refine ⟨by simp, aM _ _ _, fun j hj hn => ?_⟩
    rw [aK _ _ (by omega), aK _ _ (fun e => hn (by rw [e]; rfl))]
theorem aX1 (x : a9) (hx : x.cells = [x] ∧ bC x = true ∧ dA x = false) : buildSlice env 95 1 [(0, x)] = (newRow env 128 [x]).bind fun id => M.pure (.sl id 0 1 (some 1) 1) := by
  cases x with
  | agg l => cases hx.2.1
  | tup l => cases hx.2.1
  | aA => cases hx.2.1
  | _ => rfl
theorem f78 (o : Bool) (x off : Nat) (cs : List a9) (v : a9) (t : Nat) (st : a9) (tv : Ver) (cnt : Nat) (xs : List a9) (vs : List Ver) (D : Nat → Prop) (h : Hp) (n : Nat) (hr : Row h x cs) (hc0 : cs[off]? = some v) (hc1 : cs[off + 1]? = some (fo o)) (hc : cnt ≤ 10000000) (hv : Lp h v cnt xs) (hp : Ps h D xs vs) (hD : ∀ j, D j → j < n ∧ aT v ≠ some j) (ht : AtN h n t st tv)
    (hmono : KV o vs tv) (hx : x < n) (hxv : aT v ≠ some x) (hf : bB h n) :
    Wp (aQ env (aE env) 78 [.ptr x off, .ptr t 0]) h n fun v' h' n' => v' = .tup [] ∧ ∃ p m, Pos o vs tv p ∧ n ≤ m ∧ m < n' ∧ Lp h' (.sl m 0 (cnt + 1) none 1) (cnt + 1) (fB xs p (.ptr t 0)) ∧ Row h' x (bV cs off [.sl m 0 (cnt + 1) none 1]) ∧ ∀ j, j < n → j ≠ x → aT v ≠ some j → h' j = h j := by
  have hcl : cnt = vs.length := by have := hv.rds.length; have := hp.len; omega
  have ho : off < cs.length := (List.getElem?_eq_some_iff.1 hc0).1
  refine aW aS1 aI3 ?_
  simp only [ZU, Try.f78, Option.getD_some, List.replicate, hkr, Nat.reduceAdd, Nat.reduceSub, gE]
  refine aU hf (f103 o x off cs v t st tv cnt xs vs D h n hr hc0 hc1 (by omega) hv.rds (fun j hj => hv.dL hf hj) hp (fun j hj => (hD j hj).1) ht hmono hf) fun v1 h1 n1 hn1 f1 ⟨p, hP, e1, o1⟩ => ?_
  subst e1
  have hr1 := hr.aO (o1 x hx)
  have hv1 := hv.aO (h' := h1) (fun j hj => o1 j (hv.dL hf hj))
  simp only [tyr, fgr, aR, gE]
  rw [aH (hr1.one hc0 oQ rfl)]
  simp only [tyr, hkr, newRow, aX1 (.ptr t 0) ⟨rfl, rfl, rfl⟩, gE]
  obtain ⟨H2, hH2⟩ : ∃ H2, H2 = upd h1 n1 (some (Blk.row (bI.l [a9.ptr t 0]) 128)) := ⟨_, rfl⟩
  have f2 : bB H2 (n1 + 1) := by rw [hH2]; exact f1.new
  have o2 : ∀ j, j ≠ n1 → H2 j = h1 j := fun j hj => by rw [hH2, aK _ _ hj]
  have r2 : H2 n1 = some (Blk.row (bI.l [a9.ptr t 0]) 128) := by rw [hH2, aM]
  rw [← hH2]
  clear hH2
  have hv2 := hv1.aO (h' := H2) (fun j hj => o2 j (by have := hv.dL hf hj; omega))
  have hvn : ∀ j, aT v = some j → j < n := fun j hj => hv.dL hf hj
  refine aU f2 (VA hv2 r2 rfl (by have := hP.le; omega) (by omega) hp.cells (fun e => by have := hvn _ e; omega) f2) fun v3 h3 n3 hn3 f3 ⟨e3, e3n, r3, o3⟩ => ?_
  subst e3; subst e3n
  obtain ⟨ex, hx3⟩ := hr1.aO (h' := h3) ((o3 x (by omega) hxv).trans (o2 x (by omega)))
  have hil : (fB xs p (a9.ptr t 0)).length = cnt + 1 := by rw [j9, hp.len, hcl]
  simp only [tyr, aR, gE]
  rw [dE (Row.write (v := .sl (n1 + 1) 0 (cnt + 1) none 1) hx3 oQ rfl (by show off + 1 ≤ _; omega) rfl)]
  simp only [bK, fgr, bQ, aJ, cel, true_and]
  refine ⟨p, n1 + 1, hP, by omega, by omega, .sl _ _ _ _ ((aK _ _ (by omega)).trans r3) (by omega) (by omega) (by rw [← hil, List.take_length]), Row.new _ _ _ _, fun j hj hjx hjv => ?_⟩
  rw [aK _ _ hjx, o3 j (by omega) hjv, o2 j (by omega), o1 j hj]
def iB {α : Type} (l : List α) (k : Nat) : List α := l.take k ++ l.drop (k + 1)
theorem pN {α : Type} {l : List α} {k : Nat} (h : k < l.length) : (iB l k).length = l.length - 1 := by
  unfold iB
  rw [List.length_append, List.length_take, List.length_drop]; omega
theorem sl3 {id len i j : Nat} {z1 z2 z3 : Int} (e1 : z1 = (i : Nat)) (e2 : z2 = (j : Nat)) (e3 : z3 = (len : Nat)) (h1 : i ≤ j) (h2 : j ≤ len) {h' : Hp} {n' : Nat} :
    Rd (slice env 95 (.sl id 0 len none 1) (some (.int .i64 z1)) (some (.int .i64 z2)) (some (.int .i64 z3))) h' n' [] (.sl id i (j - i) (some (len - i)) 1) := by
  subst e1; subst e2; subst e3
  simp only [slice, u95, qR, aD, cH, fR, bind_assoc, cB, Option.getD_none, Int.toNat_natCast, Nat.zero_add, Nat.mul_one]
  exact Rd.bind (i2 := []) (Rd.ob (decide_eq_true ⟨by omega, by omega⟩)) (Rd.bind (i2 := []) (Rd.ob (decide_eq_true ⟨by omega, by omega⟩)) (Rd.bind (i2 := []) (Rd.ob (decide_eq_true ⟨by omega, by omega⟩)) (Rd.pure _)))
theorem slh {id len k : Nat} {z : Int} (hz : z = (k : Nat)) (hk : k ≤ len) {h' : Hp} {n' : Nat} : Rd (slice env 95 (.sl id 0 len none 1) none (some (.int .i64 z)) none) h' n' [] (.sl id 0 k none 1) := by
  subst hz
  have hle : (decide (((k : Nat) : Int) ≤ ((len : Nat) : Int))) = true := decide_eq_true (by omega)
  simp only [slice, lO, hle, u95, qR, aD, cH, fR, bind_assoc, cB, Nat.zero_mul, Nat.add_zero, Nat.sub_zero, Int.toNat_natCast]
  exact Rd.bind (i2 := []) (Rd.ob (decide_eq_true ⟨by omega, by omega⟩)) (Rd.pure _)
theorem sll {id len k : Nat} {z : Int} (hz : z = (k : Nat)) (hk : k ≤ len) {h' : Hp} {n' : Nat} : Rd (slice env 95 (.sl id 0 len none 1) (some (.int .i64 z)) none none) h' n' [] (.sl id k (len - k) none 1) := by
  subst hz
  simp only [slice, lO, u95, qR, aD, cH, fR, bind_assoc, cB, Nat.zero_add, Nat.mul_one, Int.toNat_natCast]
  exact Rd.bind (i2 := []) (Rd.ob (decide_eq_true ⟨by omega, by omega⟩)) (Rd.pure _)
theorem slb {id len hi : Nat} {z1 z2 : Int} {cells : List a9} {e : TypeId} (e1 : z1 = (len : Nat)) (e2 : z2 = (hi : Nat)) (h1 : len < hi) (h2 : hi ≤ cells.length) {h' : Hp} {n' : Nat} (hh : h' id = some (.row (.l cells) e)) :
    Rd (slice env 95 (.sl id 0 len none 1) (some (.int .i64 z1)) (some (.int .i64 z2)) none) h' n' [id] (.sl id len (hi - len) none 1) := by
  subst e1; subst e2
  have hle : (decide (((hi : Nat) : Int) ≤ ((len : Nat) : Int))) = false := decide_eq_false (by omega)
  simp only [slice, lO, hle, u95, qR, aD, cH, fR, bind_assoc, cB, Nat.zero_add, Nat.mul_one, Int.toNat_natCast]
  refine Rd.bind (i1 := [id]) (i2 := []) (Rd.get hh) ?_
  simp only [eG, aD, bI.size, Nat.sub_zero, Nat.div_one]
  exact Rd.bind (i2 := []) (Rd.ob (decide_eq_true ⟨by omega, by omega⟩)) (Rd.bind (i2 := []) (Rd.ob (decide_eq_true ⟨by omega, by omega⟩)) (Rd.pure _))
theorem clr {id off : Nat} {cells : List a9} {e : TypeId} {h : Hp} {n : Nat} (hh : h id = some (.row (.l cells) e)) (ho : off + 1 ≤ cells.length) :
    Wp (pU env [95] (.sl id off 1 none 1)) h n fun v' h' n' => h' = upd h id (some (.row (.l (bV cells off [.cY])) e)) ∧ n' = n := by
  have hb : (off + 1).ble cells.length = true := cQ ho
  simp only [pU, u95, aD, fX, show (Nat.beq 1 0) = false from rfl, iO, cB, eS, List.append_nil, a9.cells, dK, bind_assoc, eU, hh, Option.some.injEq, exists_eq_left', eG, eP, bI.size, List.length_singleton, hb, List.all_cons, List.all_nil, bC, Bool.and_true, true_and, nJ, aS]
  rw [mS _ _ _ (by simpa using ho)]
  exact ⟨by simp, rfl, trivial⟩
theorem f105 (id cnt i : Nat) (cells xs : List a9) (h : Hp) (n : Nat) (hh : h id = some (.row (.l cells) 128)) (hl : cnt ≤ cells.length) (hx : cells.take cnt = xs) (hi : i < cnt) (hc : cnt ≤ 10000000) (h1 : xs.all bC = true) (hf : bB h n) :
    Wp (aQ env (aE env) 105 [.sl id 0 cnt none 1, .int .i64 (i : Nat), .int .i64 (i + 1 : Nat)]) h n fun v' h' n' => v' = .sl id 0 (cnt - 1) none 1 ∧ n' = n ∧ ∃ cells', cells'.length = cells.length ∧ cells'.take (cnt - 1) = iB xs i ∧ h' id = some (.row (.l cells') 128) ∧ ∀ j, j ≠ id → h' j = h j := by
  have hxl : xs.length = cnt := by rw [← hx, List.length_take]; omega
  have hin : id < n := by
    by_cases q : id < n
    · exact q
    · rw [hf id (by omega)] at hh; cases hh
  refine aW aw1 ar2 ?_
  simp only [P1, Try.f105, Option.getD_some, List.replicate, fgr, opt, builtin, blr, Nat.reduceAdd, Nat.reduceSub, gE]
  rw [aH (sl3 rfl rfl rfl (by omega) (by omega))]
  have ei : (((i : Nat) : Int) = ((i + 1 : Nat) : Int)) = False := by simp; omega
  simp only [fgr, builtin, blr, bor, ei, gE]
  refine c9 ⟨rfl, ?_⟩
  simp only [opt, Nat.reduceAdd, gE]
  rw [aZ (slh rfl (by omega))]
  simp only [opt, Nat.reduceAdd, gE]
  rw [aZ (sll rfl (by omega))]
  simp only [builtin, Nat.reduceAdd, gE]
  have hsub : Rds h 1 (.sl id (i + 1) (cnt - (i + 1)) none 1) (cnt - (i + 1)) (xs.drop (i + 1)) := .sl id (i + 1) _ none (.l cells) 128 _ hh (by rw [List.length_drop, hxl]; omega) (by rw [List.length_drop, hxl]; show i + 1 + _ ≤ cells.length; omega) (fun j hj => by
    rw [List.length_drop, hxl] at hj
    subst hx
    rw [bI.vX (by omega), List.getElem_drop, List.getElem_take])
  have hone : (xs.drop (i + 1)).all bC = true := by
    rw [List.all_eq_true] at h1 ⊢
    exact fun x hx => h1 x (List.mem_of_mem_drop hx)
  have hdl : (xs.drop (i + 1)).length = cnt - (i + 1) := by rw [List.length_drop, hxl]
  refine dC hf (B5 (i := ⟨.pointer 31, 1, 8, .cY⟩) (e := 128) (cap := none) (Q1 := fun v' h' n' => v' = .sl id 0 (cnt - 1) none 1 ∧ n' = n ∧ h' = upd h id (some (.row (.l (bV cells i (xs.drop (i + 1)))) 128))) hh hsub u95 u95 iO hone (by decide) (by show (i + (cnt - (i + 1))) * 1 ≤ _; omega) (fun m hm => by cases hm) ?_) fun v5 h5 n5 r5 w5 hn5 f5 ⟨e1, e2, e3⟩ => ?_
  · refine ⟨by rw [show i + (cnt - (i + 1)) = cnt - 1 by omega], rfl, ?_⟩
    rw [Nat.mul_one]
  subst e1; subst e2; subst e3
  simp only [fgr, opt, builtin, blr, Nat.reduceAdd, gE]
  refine ⟨(by (try simp (disch := first | assumption | omega) only [cM, gF]); repeat' (first | rfl | exact (Bool.or_eq_true _ _).mpr (.inr rfl) | refine (Bool.and_eq_true _ _).mpr ⟨?_, ?_⟩)), ?_⟩
  have hsl : (bV cells i (xs.drop (i + 1))).length = cells.length := eL (by rw [hdl]; omega)
  rw [aH (slb rfl rfl (by omega) (by rw [hsl]; omega) (aM _ _ _))]
  simp only [builtin, gE]
  rw [show cnt - (cnt - 1) = 1 by omega]
  refine cN (clr (aM _ _ _) (by rw [hsl]; omega)) fun v6 h6 n6 ⟨e1, e2⟩ => ?_
  subst e1; subst e2
  simp only [fgr, gE]
  refine ⟨_, ?_, ?_, aM _ _ _, fun j hj => by rw [aK _ _ hj, aK _ _ hj]⟩
  · rw [eL (by rw [hsl]; simp; omega), hsl]
  · have a1 : (bV (bV cells i (xs.drop (i + 1))) (cnt - 1) [a9.cY]).take (cnt - 1) = (bV cells i (xs.drop (i + 1))).take (cnt - 1) := by
      unfold bV
      rw [List.take_append_of_le_length (by rw [List.length_take]; simp only [List.length_append, List.length_take, List.length_drop]; omega), List.take_take, Nat.min_self]
    have a2 := oR (xs := cells) (ys := xs.drop (i + 1)) (a := i) (by rw [hdl]; omega)
    rw [hdl, show i + (cnt - (i + 1)) = cnt - 1 by omega] at a2
    rw [a1, a2]
    unfold iB
    rw [← hx, List.take_take, Nat.min_eq_left (by omega)]
theorem f79 (o : Bool) (x off : Nat) (cs : List a9) (v : a9) (t : Nat) (st : a9) (tv : Ver) (cnt : Nat) (xs : List a9) (vs : List Ver) (D : Nat → Prop) (h : Hp) (n : Nat) (hr : Row h x cs) (hc0 : cs[off]? = some v) (hc1 : cs[off + 1]? = some (fo o)) (hc : cnt ≤ 10000000) (hv : Lp h v cnt xs) (hp : Ps h D xs vs) (hD : ∀ j, D j → j < n ∧ aT v ≠ some j) (ht : AtN h n t st tv)
    (hmono : KV o vs tv) (hin : ∃ w ∈ vs, ¬ gW o w tv < 0) (hx : x < n) (hxv : aT v ≠ some x) (hf : bB h n) :
    Wp (aQ env (aE env) 79 [.ptr x off, .ptr t 0]) h n fun v' h' n' => v' = .tup [] ∧ ∃ p id, Pos o vs tv p ∧ p < cnt ∧ aT v = some id ∧ Lp h' (.sl id 0 (cnt - 1) none 1) (cnt - 1) (iB xs p) ∧ Row h' x (bV cs off [.sl id 0 (cnt - 1) none 1]) ∧ ∀ j, j < n → j ≠ x → aT v ≠ some j → h' j = h j := by
  have hcl : cnt = vs.length := by have := hv.rds.length; have := hp.len; omega
  have ho : off < cs.length := (List.getElem?_eq_some_iff.1 hc0).1
  refine aW aS0 aI2 ?_
  simp only [ZT, Try.f79, Option.getD_some, List.replicate, hkr, Nat.reduceAdd, Nat.reduceSub, gE]
  refine aU hf (f103 o x off cs v t st tv cnt xs vs D h n hr hc0 hc1 (by omega) hv.rds (fun j hj => hv.dL hf hj) hp (fun j hj => (hD j hj).1) ht hmono hf) fun v1 h1 n1 hn1 f1 ⟨p, hP, e1, o1⟩ => ?_
  subst e1
  have hpc : p < cnt := by
    obtain ⟨w, hw, hwt⟩ := hin
    obtain ⟨k, hk, rfl⟩ := List.mem_iff_getElem.1 hw
    by_cases q : p < cnt
    · exact q
    · exact absurd (hP.lo k hk (by omega)) hwt
  have hr1 := hr.aO (o1 x hx)
  have hv1 := hv.aO (h' := h1) (fun j hj => o1 j (hv.dL hf hj))
  have hvn : ∀ j, aT v = some j → j < n := fun j hj => hv.dL hf hj
  have hxo := hp.cells
  cases hv1 with
  | nil => omega
  | zero id off c hh hs => omega
  | sl id cnt cells xs hh h0 hl hxx =>
  have w1 : IntKind.i64.wrap (((p : Nat) : Int) + 1) = ((p + 1 : Nat) : Int) := by rw [w64 (by omega) (by omega)]; omega
  simp only [tyr, fgr, aR, gE]
  rw [aH (hr1.one hc0 oQ rfl)]
  simp only [hkr, bor, bZ, w1, gE]
  refine aU f1 (f105 id cnt p cells xs h1 n1 hh hl hxx hpc hc hxo f1) fun v3 h3 n3 hn3 f3 ⟨e3, e3n, cells', l3, t3, r3, o3⟩ => ?_
  subst e3; subst e3n
  have hxid : x ≠ id := fun e => hxv (by rw [e]; rfl)
  obtain ⟨ex, hx3⟩ := hr1.aO (h' := h3) (o3 x hxid)
  simp only [tyr, aR, gE]
  rw [dE (Row.write (v := .sl id 0 (cnt - 1) none 1) hx3 oQ rfl (by show off + 1 ≤ _; omega) rfl)]
  simp only [bK, fgr, bQ, aJ, cel, true_and]
  refine ⟨p, id, hP, hpc, rfl, .sl _ _ _ _ ((aK _ _ (fun e => hxid e.symm)).trans r3) (by omega) (by omega) t3, Row.new _ _ _ _, fun j hj hjx hjv => ?_⟩
  rw [aK _ _ hjx, o3 j (fun e => hjv (by rw [e]; rfl)), o1 j hj]
theorem p9 : oN eO := ((qF.on Ver.aP).or (sV.on Ver.pn)).or (sV.on Ver.made)
theorem X0 : oN GO := (qF.on Ver.aI).or p9
theorem BH (o : Bool) : oN (gW o) := by cases o; exact p9; exact X0
def cP (o : Bool) (vs : List Ver) : Prop := vs.Pairwise fun a b => gW o a b < 0
theorem cP.at_ {o : Bool} {vs : List Ver} (r : cP o vs) {i j : Nat} (hi : i < vs.length) (hj : j < vs.length) (h : i < j) : gW o vs[i] vs[j] < 0 := List.pairwise_iff_getElem.1 r i j hi hj h
theorem cP.mono {o : Bool} {vs : List Ver} (r : cP o vs) (t : Ver) : KV o vs t := fun a b ha hb hab h => (BH o).lt _ _ _ (r.at_ ha hb hab) h
theorem DS {o : Bool} {vs : List Ver} {t : Ver} {p : Nat} (r : cP o vs) (hp : Pos o vs t p) : vS o vs t p = true ↔ ∃ w ∈ vs, gW o w t = 0 := by
  unfold vS
  constructor
  · intro h
    cases e : vs[p]? with
    | none => rw [e] at h; cases h
    | some w =>
      rw [e] at h
      exact ⟨w, List.mem_of_getElem? e, of_decide_eq_true h⟩
  · rintro ⟨w, hw, he⟩
    obtain ⟨k, hk, rfl⟩ := List.mem_iff_getElem.1 hw
    have h1 : ¬ k < p := fun h => by have := hp.lo k hk h; omega
    have h2 : ¬ p < k := fun h => by
      have hpl : p < vs.length := by omega
      have := r.at_ hpl hk h
      rw [(BH o).eqr he] at this
      exact hp.hi p hpl (Nat.le_refl _) this
    have : k = p := by omega
    subst this
    rw [List.getElem?_eq_getElem hk]
    exact decide_eq_true he
theorem DT {α : Type} {l : List α} {k : Nat} {v w : α} : w ∈ fB l k v ↔ w = v ∨ w ∈ l := by
  unfold fB
  rw [List.mem_append, List.mem_cons]
  constructor
  · rintro (h | h | h)
    · exact .inr (List.mem_of_mem_take h)
    · exact .inl h
    · exact .inr (List.mem_of_mem_drop h)
  · rintro (h | h)
    · exact .inr (.inl h)
    · rw [← List.take_append_drop k l, List.mem_append] at h
      exact h.elim .inl fun h => .inr (.inr h)
theorem uO {α : Type} (l : List α) (k : Nat) (v : α) : (fB l k v).Perm (v :: l) := by
  unfold fB
  have h := @List.perm_middle α v (l.take k) (l.drop k)
  rwa [List.take_append_drop] at h
theorem jU {α : Type} {l : List α} {k : Nat} (h : k < l.length) : l.Perm (l[k] :: iB l k) := by
  unfold iB
  have h1 : l = l.take k ++ l[k] :: l.drop (k + 1) := by
    rw [List.getElem_cons_drop, List.take_append_drop]
  have h2 := @List.perm_middle α l[k] (l.take k) (l.drop (k + 1))
  exact (List.Perm.of_eq h1).trans h2
theorem uN {o : Bool} {vs : List Ver} {t : Ver} {p : Nat} (r : cP o vs) (hp : Pos o vs t p) (hn : ∀ w ∈ vs, gW o w t ≠ 0) : cP o (fB vs p t) := by
  unfold fB cP
  have r' := r
  rw [cP, ← List.take_append_drop p vs, List.pairwise_append] at r'
  obtain ⟨r1, r2, r3⟩ := r'
  rw [List.pairwise_append, List.pairwise_cons]
  have hlo : ∀ a ∈ vs.take p, gW o a t < 0 := fun a ha => by
    obtain ⟨k, hk, rfl⟩ := List.mem_iff_getElem.1 ha
    rw [List.length_take] at hk
    rw [List.getElem_take]
    exact hp.lo k (by omega) (by omega)
  have hhi : ∀ a ∈ vs.drop p, gW o t a < 0 := fun a ha => by
    obtain ⟨k, hk, rfl⟩ := List.mem_iff_getElem.1 ha
    rw [List.length_drop] at hk
    rw [List.getElem_drop]
    have h1 := hp.hi (p + k) (by omega) (by omega)
    have h2 := hn _ (List.getElem_mem (show p + k < vs.length by omega))
    have h3 := (BH o).pW vs[p + k] t
    omega
  refine ⟨r1, ⟨hhi, r2⟩, fun a ha b hb => ?_⟩
  rcases List.mem_cons.1 hb with rfl | hb
  · exact hlo a ha
  · exact r3 a ha b hb
theorem qL {o : Bool} {vs : List Ver} (r : cP o vs) (p : Nat) : cP o (iB vs p) := by
  refine List.Pairwise.sublist ?_ r
  unfold iB
  conv => rhs; rw [← List.take_append_drop p vs]
  exact List.Sublist.append (List.Sublist.refl _) (List.drop_sublist_drop_left _ (by omega))
theorem Ps.ins {h : Hp} {D : Nat → Prop} {xs : List a9} {vs : List Ver} (p : Ps h D xs vs) {t : Nat} {st : a9} {tv : Ver} (a : At h t st tv) (d1 : D t) (d2 : ∀ j, aT st = some j → D j) (k : Nat) : Ps h D (fB xs k (.ptr t 0)) (fB vs k tv) := by
  have hl := p.len
  refine ⟨by rw [j9, j9, hl], fun j x v hx hv => ?_⟩
  unfold fB at hx hv
  by_cases c : j < (xs.take k).length
  · have c2 : j < (vs.take k).length := by rw [List.length_take] at *; omega
    rw [List.getElem?_append_left c, List.getElem?_take] at hx
    rw [List.getElem?_append_left c2, List.getElem?_take] at hv
    split at hx
    · rename_i q
      rw [if_pos q] at hv
      exact p.at_ j x v hx hv
    · cases hx
  · have e1 : (xs.take k).length = (vs.take k).length := by rw [List.length_take, List.length_take, hl]
    rw [List.getElem?_append_right (by omega)] at hx
    rw [List.getElem?_append_right (by omega), ← e1] at hv
    cases hc : j - (xs.take k).length with
    | zero =>
      rw [hc] at hx hv
      injection hx with hx
      injection hv with hv
      subst hx; subst hv
      exact ⟨t, st, rfl, a, d1, d2⟩
    | succ m =>
      rw [hc] at hx hv
      rw [List.getElem?_cons_succ, List.getElem?_drop] at hx hv
      exact p.at_ _ x v hx hv
theorem Ps.del {h : Hp} {D : Nat → Prop} {xs : List a9} {vs : List Ver} (p : Ps h D xs vs) (k : Nat) : Ps h D (iB xs k) (iB vs k) := by
  have hl := p.len
  have e1 : (xs.take k).length = (vs.take k).length := by rw [List.length_take, List.length_take, hl]
  refine ⟨by unfold iB; rw [List.length_append, List.length_append, e1, List.length_drop, List.length_drop, hl], fun j x v hx hv => ?_⟩
  unfold iB at hx hv
  by_cases c : j < (xs.take k).length
  · rw [List.getElem?_append_left c, List.getElem?_take] at hx
    rw [List.getElem?_append_left (by omega), List.getElem?_take] at hv
    split at hx
    · rename_i q
      rw [if_pos q] at hv
      exact p.at_ j x v hx hv
    · cases hx
  · rw [List.getElem?_append_right (by omega), List.getElem?_drop] at hx
    rw [List.getElem?_append_right (by omega), ← e1, List.getElem?_drop] at hv
    exact p.at_ _ x v hx hv
structure IxV (h : Hp) (n : Nat) (D : Nat → Prop) (x : Nat) (vl vs : a9) (xl xs : List a9) (L S : List Ver) : Prop where
  row : Row h x [.bool true, vl, fo false, vs, fo true]
  l : Lp h vl L.length xl
  lp : Ps h D xl L
  s : Lp h vs S.length xs
  sp : Ps h D xs S
  xn : x < n
  dn : ∀ j, D j → j < n
  xd : ¬ D x
  vlx : ∀ j, aT vl = some j → j ≠ x ∧ ¬ D j
  vsx : ∀ j, aT vs = some j → j ≠ x ∧ ¬ D j ∧ aT vl ≠ some j
def IxS (h : Hp) (n : Nat) (D M : Nat → Prop) (x : Nat) (L S : List Ver) : Prop :=
  ∃ vl vs xl xs, IxV h n D x vl vs xl xs L S ∧ M x ∧ (∀ j, aT vl = some j → M j) ∧ (∀ j, aT vs = some j → M j) ∧ ∀ j, M j → j < n ∧ ¬ D j
structure Ch2 (h : Hp) (n : Nat) (M : Nat → Prop) (h' : Hp) (n' : Nat) (M' : Nat → Prop) : Prop where
  nx : n ≤ n'
  fr : bB h' n'
  m' : ∀ j, M' j → M j ∨ n ≤ j
  old : ∀ j, j < n → ¬ M j → h' j = h j
theorem Ch2.trans {h h1 h2 : Hp} {n n1 n2 : Nat} {M M1 M2 : Nat → Prop} (a : Ch2 h n M h1 n1 M1) (b : Ch2 h1 n1 M1 h2 n2 M2) : Ch2 h n M h2 n2 M2 where
  nx := Nat.le_trans a.nx b.nx
  fr := b.fr
  m' := fun j hj => (b.m' j hj).elim (a.m' j) (fun q => .inr (Nat.le_trans a.nx q))
  old := fun j hj hm => by
    rw [b.old j (by have := a.nx; omega) (fun q => by
      rcases a.m' j q with q | q
      · exact hm q
      · omega)]
    exact a.old j hj hm
theorem Ch2.of {h h' : Hp} {n n' : Nat} {M : Nat → Prop} (hf : bB h' n') (hn : n ≤ n') (ho : Old h h' n) : Ch2 h n M h' n' M := ⟨hn, hf, fun _ h => .inl h, fun j hj _ => ho j hj⟩
theorem IxS.sF {h h' : Hp} {n n' : Nat} {D M : Nat → Prop} {x : Nat} {L S : List Ver} (s : IxS h n D M x L S) (hn : n ≤ n') (ho : ∀ j, j < n → (D j ∨ M j) → h' j = h j) : IxS h' n' D M x L S := by
  obtain ⟨vl, vs, xl, xs, sv, mx, ml, ms, mn⟩ := s
  refine ⟨vl, vs, xl, xs, ⟨sv.row.aO (ho x sv.xn (.inr mx)), sv.l.aO (fun j q => ho j (mn j (ml j q)).1 (.inr (ml j q))), sv.lp.mono (fun j q => q) (fun j q => ho j (sv.dn j q) (.inl q)), sv.s.aO (fun j q => ho j (mn j (ms j q)).1 (.inr (ms j q))), sv.sp.mono (fun j q => q) (fun j q => ho j (sv.dn j q) (.inl q)), by have := sv.xn; omega, fun j q => by have := sv.dn j q; omega, sv.xd, sv.vlx, sv.vsx⟩, mx, ml, ms, fun j q => ⟨by have := (mn j q).1; omega, (mn j q).2⟩⟩
theorem IxS.old {h h' : Hp} {n n' : Nat} {D M : Nat → Prop} {x : Nat} {L S : List Ver} (s : IxS h n D M x L S) (hn : n ≤ n') (ho : Old h h' n) : IxS h' n' D M x L S := s.sF hn fun j hj _ => ho j hj
theorem wA {m : M a9} {h : Hp} {n : Nat} {Q Q' : a9 → Hp → Nat → Prop} (hf : bB h n) (hw : Wp m h n Q) (hq : ∀ v h' n', n ≤ n' → bB h' n' → Q v h' n' → Q' v h' n') : Wp m h n Q' :=
  cN (hw.zJ hf) fun v h' n' hh => hq v h' n' hh.2.1 hh.2.2 hh.1
theorem al9 (x t : Nat) (st : a9) (tv : Ver) (L S : List Ver) (D M : Nat → Prop) (h : Hp) (n : Nat) (hs : IxS h n D M x L S) (ht : AtN h n t st tv) (htm : ¬ M t) (hsm : ∀ j, aT st = some j → ¬ M j) (hr : cP false L) (hc : L.length ≤ 1000000) (hf : bB h n) :
    Wp (aQ env (aE env) 78 [.ptr x 1, .ptr t 0]) h n fun v' h' n' => v' = .tup [] ∧ ∃ p M', Pos false L tv p ∧ IxS h' n' (fun j => D j ∨ j = t ∨ aT st = some j) M' x (fB L p tv) S ∧ Ch2 h n M h' n' M' := by
  obtain ⟨vl, vs, xl, xs, sv, mx, ml, ms, mn⟩ := hs
  refine wA hf (f78 false x 1 _ vl t st tv L.length xl L D h n sv.row rfl rfl (by omega) sv.l sv.lp (fun j hj => ⟨sv.dn j hj, fun q => (sv.vlx j q).2 hj⟩) ht (hr.mono tv) sv.xn (fun q => (sv.vlx x q).1 rfl) hf) fun v' h' n' hn' f' ⟨e, p, m, hp, hm1, hm2, l', r', o'⟩ => ?_
  have hil : (fB L p tv).length = L.length + 1 := j9 _ _ _
  have keepD : ∀ j, (D j ∨ j = t ∨ aT st = some j) → h' j = h j := fun j q => by
    rcases q with q | q | q
    · exact o' j (sv.dn j q) (fun e => sv.xd (by rw [← e]; exact q)) (fun e => (sv.vlx j e).2 q)
    · subst q; exact o' _ ht.idn (fun e => htm (by rw [e]; exact mx)) (fun e => htm (ml _ e))
    · exact o' j (ht.sn j q) (fun e => hsm j q (by rw [e]; exact mx)) (fun e => hsm j q (ml j e))
  have hne : ∀ j, (D j ∨ j = t ∨ aT st = some j) → j < n ∧ j ≠ x ∧ aT vs ≠ some j := fun j q => by
    rcases q with q | q | q
    · exact ⟨sv.dn j q, fun e => sv.xd (by rw [← e]; exact q), fun e => (sv.vsx j e).2.1 q⟩
    · subst q; exact ⟨ht.idn, fun e => htm (by rw [e]; exact mx), fun e => htm (ms _ e)⟩
    · exact ⟨ht.sn j q, fun e => hsm j q (by rw [e]; exact mx), fun e => hsm j q (ms j e)⟩
  have hw : ∀ j, aT vs = some j → h' j = h j := fun j q => o' j (mn j (ms j q)).1 ((sv.vsx j q).1) (fun e => (sv.vsx j q).2.2 e)
  refine ⟨e, p, fun j => j = x ∨ aT vs = some j ∨ j = m, hp, ⟨.sl m 0 (L.length + 1) none 1, vs, fB xl p (.ptr t 0), xs, ⟨r', ?_, ?_, ?_, ?_, by have := sv.xn; omega, fun j q => by have := (hne j q).1; omega, fun q => (hne x q).2.1 rfl, fun j q => ?_, fun j q => ?_⟩, .inl rfl, fun j q => ?_, fun j q => ?_, fun j q => ?_⟩, ⟨hn', f', fun j q => ?_, fun j hj hm => o' j hj (fun e => hm (by rw [e]; exact mx)) (fun e => hm (ml j e))⟩⟩
  · rw [hil]; exact l'
  · exact ((sv.lp.mono (D' := fun j => D j ∨ j = t ∨ aT st = some j) (fun j q => .inl q) (fun j q => keepD j (.inl q)))).ins (ht.toAt.aO (keepD t (.inr (.inl rfl))) (fun j q => keepD j (.inr (.inr q)))) (.inr (.inl rfl)) (fun j q => .inr (.inr q)) p
  · exact sv.s.aO hw
  · exact sv.sp.mono (fun j q => .inl q) (fun j q => keepD j (.inl q))
  · injection q with q
    subst q
    exact ⟨by have := sv.xn; omega, fun w => by have := (hne _ w).1; omega⟩
  · exact ⟨(sv.vsx j q).1, fun w => (hne j w).2.2 q, fun w => by injection w with w; have := (mn j (ms j q)).1; omega⟩
  · injection q with q; exact .inr (.inr q.symm)
  · exact .inr (.inl q)
  · rcases q with q | q | q
    · subst q; exact ⟨by have := sv.xn; omega, fun w => (hne _ w).2.1 rfl⟩
    · exact ⟨by have := (mn j (ms j q)).1; omega, fun w => (hne j w).2.2 q⟩
    · subst q; exact ⟨hm2, fun w => by have := (hne _ w).1; omega⟩
  · rcases q with q | q | q
    · subst q; exact .inl mx
    · exact .inl (ms j q)
    · exact .inr (by omega)
theorem al8 (x t : Nat) (st : a9) (tv : Ver) (L S : List Ver) (D M : Nat → Prop) (h : Hp) (n : Nat) (hs : IxS h n D M x L S) (ht : AtN h n t st tv) (htm : ¬ M t) (hsm : ∀ j, aT st = some j → ¬ M j) (hr : cP true S) (hc : S.length ≤ 1000000) (hf : bB h n) :
    Wp (aQ env (aE env) 78 [.ptr x 3, .ptr t 0]) h n fun v' h' n' => v' = .tup [] ∧ ∃ p M', Pos true S tv p ∧ IxS h' n' (fun j => D j ∨ j = t ∨ aT st = some j) M' x L (fB S p tv) ∧ Ch2 h n M h' n' M' := by
  obtain ⟨vl, vs, xl, xs, sv, mx, ml, ms, mn⟩ := hs
  refine wA hf (f78 true x 3 _ vs t st tv S.length xs S D h n sv.row rfl rfl (by omega) sv.s sv.sp (fun j hj => ⟨sv.dn j hj, fun q => (sv.vsx j q).2.1 hj⟩) ht (hr.mono tv) sv.xn (fun q => (sv.vsx x q).1 rfl) hf) fun v' h' n' hn' f' ⟨e, p, m, hp, hm1, hm2, l', r', o'⟩ => ?_
  have hil : (fB S p tv).length = S.length + 1 := j9 _ _ _
  have keepD : ∀ j, (D j ∨ j = t ∨ aT st = some j) → h' j = h j := fun j q => by
    rcases q with q | q | q
    · exact o' j (sv.dn j q) (fun e => sv.xd (by rw [← e]; exact q)) (fun e => (sv.vsx j e).2.1 q)
    · subst q; exact o' _ ht.idn (fun e => htm (by rw [e]; exact mx)) (fun e => htm (ms _ e))
    · exact o' j (ht.sn j q) (fun e => hsm j q (by rw [e]; exact mx)) (fun e => hsm j q (ms j e))
  have hne : ∀ j, (D j ∨ j = t ∨ aT st = some j) → j < n ∧ j ≠ x ∧ aT vl ≠ some j := fun j q => by
    rcases q with q | q | q
    · exact ⟨sv.dn j q, fun e => sv.xd (by rw [← e]; exact q), fun e => (sv.vlx j e).2 q⟩
    · subst q; exact ⟨ht.idn, fun e => htm (by rw [e]; exact mx), fun e => htm (ml _ e)⟩
    · exact ⟨ht.sn j q, fun e => hsm j q (by rw [e]; exact mx), fun e => hsm j q (ml j e)⟩
  have hw : ∀ j, aT vl = some j → h' j = h j := fun j q => o' j (mn j (ml j q)).1 ((sv.vlx j q).1) (fun e => (sv.vsx j e).2.2 q)
  refine ⟨e, p, fun j => j = x ∨ aT vl = some j ∨ j = m, hp, ⟨vl, .sl m 0 (S.length + 1) none 1, xl, fB xs p (.ptr t 0), ⟨r', ?_, ?_, ?_, ?_, by have := sv.xn; omega, fun j q => by have := (hne j q).1; omega, fun q => (hne x q).2.1 rfl, fun j q => ?_, fun j q => ?_⟩, .inl rfl, fun j q => ?_, fun j q => ?_, fun j q => ?_⟩, ⟨hn', f', fun j q => ?_, fun j hj hm => o' j hj (fun e => hm (by rw [e]; exact mx)) (fun e => hm (ms j e))⟩⟩
  · exact sv.l.aO hw
  · exact sv.lp.mono (fun j q => .inl q) (fun j q => keepD j (.inl q))
  · rw [hil]; exact l'
  · exact ((sv.sp.mono (D' := fun j => D j ∨ j = t ∨ aT st = some j) (fun j q => .inl q) (fun j q => keepD j (.inl q)))).ins (ht.toAt.aO (keepD t (.inr (.inl rfl))) (fun j q => keepD j (.inr (.inr q)))) (.inr (.inl rfl)) (fun j q => .inr (.inr q)) p
  · exact ⟨(sv.vlx j q).1, fun w => (hne j w).2.2 q⟩
  · injection q with q
    subst q
    exact ⟨by have := sv.xn; omega, fun w => by have := (hne _ w).1; omega, fun w => by have := (mn _ (ml _ w)).1; omega⟩
  · exact .inr (.inl q)
  · injection q with q; exact .inr (.inr q.symm)
  · rcases q with q | q | q
    · subst q; exact ⟨by have := sv.xn; omega, fun w => (hne _ w).2.1 rfl⟩
    · exact ⟨by have := (mn j (ml j q)).1; omega, fun w => (hne j w).2.2 q⟩
    · subst q; exact ⟨hm2, fun w => by have := (hne _ w).1; omega⟩
  · rcases q with q | q | q
    · subst q; exact .inl mx
    · exact .inl (ml j q)
    · exact .inr (by omega)
theorem V3 (x t : Nat) (st : a9) (tv : Ver) (L S : List Ver) (D M : Nat → Prop) (h : Hp) (n : Nat) (hs : IxS h n D M x L S) (ht : AtN h n t st tv) (hr : cP false L) (hin : ∃ w ∈ L, gW false w tv = 0) (hc : L.length ≤ 1000000) (hf : bB h n) :
    Wp (aQ env (aE env) 79 [.ptr x 1, .ptr t 0]) h n fun v' h' n' => v' = .tup [] ∧ ∃ p, Pos false L tv p ∧ p < L.length ∧ IxS h' n' D M x (iB L p) S ∧ Ch2 h n M h' n' M := by
  obtain ⟨vl, vs, xl, xs, sv, mx, ml, ms, mn⟩ := hs
  refine wA hf (f79 false x 1 _ vl t st tv L.length xl L D h n sv.row rfl rfl (by omega) sv.l sv.lp (fun j hj => ⟨sv.dn j hj, fun q => (sv.vlx j q).2 hj⟩) ht (hr.mono tv) (by obtain ⟨w, hw, he⟩ := hin; exact ⟨w, hw, by omega⟩) sv.xn (fun q => (sv.vlx x q).1 rfl) hf) fun v' h' n' hn' f' ⟨e, p, id, hp, hpl, hid, l', r', o'⟩ => ?_
  have hdl : (iB L p).length = L.length - 1 := pN hpl
  have keepD : ∀ j, D j → h' j = h j := fun j q => o' j (sv.dn j q) (fun e => sv.xd (by rw [← e]; exact q)) (fun e => (sv.vlx j e).2 q)
  have hw : ∀ j, aT vs = some j → h' j = h j := fun j q => o' j (mn j (ms j q)).1 ((sv.vsx j q).1) (fun e => (sv.vsx j q).2.2 e)
  refine ⟨e, p, hp, hpl, ⟨.sl id 0 (L.length - 1) none 1, vs, iB xl p, xs, ⟨r', ?_, ?_, ?_, ?_, by have := sv.xn; omega, fun j q => by have := sv.dn j q; omega, sv.xd, fun j q => ?_, fun j q => ?_⟩, mx, fun j q => ?_, fun j q => ?_, fun j q => ⟨by have := (mn j q).1; omega, (mn j q).2⟩⟩, ⟨hn', f', fun j q => .inl q, fun j hj hm => o' j hj (fun e => hm (by rw [e]; exact mx)) (fun e => hm (ml j e))⟩⟩
  · rw [hdl]; exact l'
  · exact (sv.lp.mono (fun j q => q) keepD).del p
  · exact sv.s.aO hw
  · exact sv.sp.mono (fun j q => q) keepD
  · injection q with q; subst q; exact sv.vlx _ hid
  · refine ⟨(sv.vsx j q).1, (sv.vsx j q).2.1, fun w => (sv.vsx j q).2.2 (by injection w with w; rw [← w]; exact hid)⟩
  · injection q with q; subst q; exact ml _ hid
  · exact ms j q
theorem V2 (x t : Nat) (st : a9) (tv : Ver) (L S : List Ver) (D M : Nat → Prop) (h : Hp) (n : Nat) (hs : IxS h n D M x L S) (ht : AtN h n t st tv) (hr : cP true S) (hin : ∃ w ∈ S, gW true w tv = 0) (hc : S.length ≤ 1000000) (hf : bB h n) :
    Wp (aQ env (aE env) 79 [.ptr x 3, .ptr t 0]) h n fun v' h' n' => v' = .tup [] ∧ ∃ p, Pos true S tv p ∧ p < S.length ∧ IxS h' n' D M x L (iB S p) ∧ Ch2 h n M h' n' M := by
  obtain ⟨vl, vs, xl, xs, sv, mx, ml, ms, mn⟩ := hs
  refine wA hf (f79 true x 3 _ vs t st tv S.length xs S D h n sv.row rfl rfl (by omega) sv.s sv.sp (fun j hj => ⟨sv.dn j hj, fun q => (sv.vsx j q).2.1 hj⟩) ht (hr.mono tv) (by obtain ⟨w, hw, he⟩ := hin; exact ⟨w, hw, by omega⟩) sv.xn (fun q => (sv.vsx x q).1 rfl) hf) fun v' h' n' hn' f' ⟨e, p, id, hp, hpl, hid, l', r', o'⟩ => ?_
  have hdl : (iB S p).length = S.length - 1 := pN hpl
  have keepD : ∀ j, D j → h' j = h j := fun j q => o' j (sv.dn j q) (fun e => sv.xd (by rw [← e]; exact q)) (fun e => (sv.vsx j e).2.1 q)
  have hw : ∀ j, aT vl = some j → h' j = h j := fun j q => o' j (mn j (ml j q)).1 ((sv.vlx j q).1) (fun e => (sv.vsx j e).2.2 q)
  refine ⟨e, p, hp, hpl, ⟨vl, .sl id 0 (S.length - 1) none 1, xl, iB xs p, ⟨r', ?_, ?_, ?_, ?_, by have := sv.xn; omega, fun j q => by have := sv.dn j q; omega, sv.xd, fun j q => ?_, fun j q => ?_⟩, mx, fun j q => ?_, fun j q => ?_, fun j q => ⟨by have := (mn j q).1; omega, (mn j q).2⟩⟩, ⟨hn', f', fun j q => .inl q, fun j hj hm => o' j hj (fun e => hm (by rw [e]; exact mx)) (fun e => hm (ms j e))⟩⟩
  · exact sv.l.aO hw
  · exact sv.lp.mono (fun j q => q) keepD
  · rw [hdl]; exact l'
  · exact (sv.sp.mono (fun j q => q) keepD).del p
  · exact sv.vlx j q
  · injection q with q; subst q; exact sv.vsx _ hid
  · exact ml j q
  · injection q with q; subst q; exact ms _ hid
def key (aP : List UInt8) (pn made : Int) : Ver := ⟨aP, pn, made, 0, [], false, 0, List.replicate 32 0⟩
theorem OD {aP : List UInt8} {pn made : Int} (h : aP.length = 32) : (key aP pn made).Ok := ⟨h, rfl⟩
theorem gN {place : Nat → Option (Nat × Nat)} {i off sz : Nat} {pre mid eV : List a9} {v : a9} {rest : List (Nat × a9)} (hp : place i = some (off, sz)) (h1 : pre.length = off) (h2 : mid.length = sz) (h3 : v.cells.length = sz) (h4 : dA v = false) :
    fill place (pre ++ mid ++ eV) ((i, v) :: rest) = fill place (pre ++ v.cells ++ eV) rest := by
  have e1 : (off + sz).ble (pre ++ mid ++ eV).length = true := cQ (by simp only [List.length_append]; omega)
  have e2 : (pre ++ mid ++ eV).take off = pre := by rw [List.append_assoc, List.take_left' h1]
  have e3 : (pre ++ mid ++ eV).drop (off + sz) = eV := by rw [List.drop_left' (by rw [List.length_append]; omega)]
  simp only [fill, hp, h4, Bool.not_false, h3, Nat.beq_refl, e1, Bool.and_self, e2, e3]
def z33 : List a9 := List.replicate 32 (.int .u8 0) ++ [.int .u32 0]
def z36 : List a9 := [.int .i64 0, .aL, .bool false, .int .i64 0] ++ List.replicate 32 (.int .u8 0)
theorem z31 : eQ.i.zero.cells = [] ++ z33 ++ ([.int .i64 0] ++ z36) := rfl
theorem U4 {aP : List UInt8} {pn made : Int} (hl : aP.length = 32) : build env 31 [(0, .agg (aV aP pn)), (1, .int .i64 made)] = M.pure (.agg (aN (key aP pn made) .aL)) := by
  have h1 : (a9.agg (aV aP pn)).cells.length = 33 := bW hl
  have e1 : ∀ pl : Nat → Option (Nat × Nat), pl 0 = some (0, 33) → pl 1 = some (33, 1) → fill pl eQ.i.zero.cells [(0, .agg (aV aP pn)), (1, .int .i64 made)] = some (aN (key aP pn made) .aL) := fun pl p0 p1 => by
    rw [z31, gN p0 rfl rfl h1 rfl, List.nil_append, ← List.append_assoc]
    rw [gN p1 h1 rfl rfl rfl]
    simp only [fill]
    congr 1
    unfold aN mP key
    simp only [a9.cells, List.append_assoc]
    congr 1
  have e2 : build env 31 [(0, .agg (aV aP pn)), (1, .int .i64 made)] = (fS "build" (fill ([(0, 33), (33, 1), (34, 1), (35, 1), (36, 1), (37, 1), (38, 32)][·]?) eQ.i.zero.cells [(0, .agg (aV aP pn)), (1, .int .i64 made)])).bind fun cs => M.pure (.agg cs) := rfl
  rw [e2, e1 _ rfl rfl]
  rfl
theorem f76 (x : Nat) (aP : List UInt8) (pn made : Int) (hl : aP.length = 32) (L S : List Ver) (D M : Nat → Prop) (h : Hp) (n : Nat) (hs : IxS h n D M x L S) (hr : cP false L) (hc : L.length ≤ 1000000) (hf : bB h n) :
    Wp (aQ env (aE env) 76 [.ptr x 0, .agg (aV aP pn), .int .i64 made]) h n fun v' h' n' => ((∀ w ∈ L, eO w (key aP pn made) ≠ 0) ∧ v' = .cY ∨ ∃ id sv w, w ∈ L ∧ eO w (key aP pn made) = 0 ∧ v' = .ptr id 0 ∧ At h' id sv w ∧ D id ∧ ∀ j, aT sv = some j → D j) ∧ Old h h' n := by
  have hs0 := hs
  obtain ⟨vl, vs, xl, xs, sv, mx, ml, ms, mn⟩ := hs
  refine aW aS3 aI5 ?_
  simp only [ZW, Try.f76, Option.getD_some, List.replicate, Nat.reduceAdd, Nat.reduceSub, gE]
  refine cX (v := .agg (aV aP pn)) jJ rfl hf fun H1 r1 o1 f1 => ?_
  simp only [fgr, gE]
  refine c9 ⟨rfl, ?_⟩
  simp only [tyr, aR, Nat.reduceAdd, gE]
  have hld : Rd (load env 28 (.ptr n 0)) H1 (n + 1) [n] (.agg (aV aP pn)) := Row.gY r1 jJ rfl (bW hl)
  rw [aZ hld]
  simp only [Nat.reduceAdd, U4 hl, gE]
  refine TO (v := .agg (aN (key aP pn made) .aL)) eR rfl f1 fun H2 r w r2 o2 f2 => ?_
  simp only [hkr, Nat.reduceAdd, gE]
  have old2 : Old h H2 n := fun j hj => by rw [o2 j (by omega), o1 j (by omega)]
  have ht : AtN H2 (n + 1 + 1) (n + 1) .aL (key aP pn made) := ⟨⟨⟨_, r2⟩, .aL, OD hl⟩, by omega, fun j hj => by cases hj⟩
  have row2 := sv.row.aO (old2 x sv.xn)
  refine dC f2 (f103 false x 1 _ vl (n + 1) .aL (key aP pn made) L.length xl L D H2 _ row2 rfl rfl (by omega) (sv.l.aO (fun j q => old2 j (mn j (ml j q)).1)).rds (fun j q => by have := (mn j (ml j q)).1; omega) (sv.lp.mono (fun j q => q) (fun j q => old2 j (sv.dn j q))) (fun j q => by have := sv.dn j q; omega) ht (hr.mono _) f2) fun v3 h3 n3 r3 w3 hn3 f3 ⟨p, hP, e3, o3⟩ => ?_
  subst e3
  have old3 : Old h h3 n := fun j hj => by rw [o3 j (by omega), old2 j hj]
  simp only [fgr, unOp, Nat.reduceAdd, gE]
  refine ⟨(by (try simp (disch := first | assumption | omega) only [cM, gF]); repeat' (first | rfl | exact (Bool.or_eq_true _ _).mpr (.inr rfl) | refine (Bool.and_eq_true _ _).mpr ⟨?_, ?_⟩)), ?_⟩
  have hat := DS hr hP
  cases hq : vS false L (key aP pn made) p with
  | false =>
    simp only [fgr, reduceCtorEq, gE]
    exact ⟨.inl (fun w hw he => by rw [hq] at hat; exact absurd (hat.2 ⟨w, hw, he⟩) (by decide)), old3⟩
  | true =>
    simp only [tyr, aR, gE]
    have hpl : p < L.length := by
      by_cases q : p < L.length
      · exact q
      · unfold vS at hq; rw [List.getElem?_eq_none (by omega)] at hq; cases hq
    have he : eO L[p] (key aP pn made) = 0 := by
      unfold vS at hq
      rw [List.getElem?_eq_getElem hpl] at hq
      exact of_decide_eq_true hq
    have row3 := sv.row.aO (old3 x sv.xn)
    have lp3 := sv.lp.mono (D' := D) (fun j q => q) (fun j q => old3 j (sv.dn j q))
    have l3 := sv.l.aO (fun j q => old3 j (mn j (ml j q)).1)
    obtain ⟨id, sw, hx, a, d1, d2⟩ := lp3.get hpl
    rw [aH (row3.one (off := 1) rfl oQ rfl)]
    simp only [gE]
    rw [aH (l3.rds.idx u95 qR rfl hpl)]
    simp only [gE]
    rw [aH (l3.rds.load iO rfl (by rw [Nat.mul_one]; exact hx))]
    simp only [fgr, reduceCtorEq, gE]
    exact ⟨.inr ⟨id, sw, L[p], List.getElem_mem hpl, he, rfl, a, d1, d2⟩, old3⟩
theorem kE {o : Bool} {vs : List Ver} (r : cP o vs) {a b : Ver} (ha : a ∈ vs) (hb : b ∈ vs) (h : gW o a b = 0) : a = b := by
  obtain ⟨i, hi, rfl⟩ := List.mem_iff_getElem.1 ha
  obtain ⟨j, hj, rfl⟩ := List.mem_iff_getElem.1 hb
  rcases Nat.lt_trichotomy i j with q | q | q
  · have := r.at_ hi hj q; omega
  · subst q; rfl
  · have := r.at_ hj hi q
    have := (BH o).pW vs[i] vs[j]
    omega
def pos (o : Bool) (vs : List Ver) (t : Ver) : Nat := vs.countP fun w => decide (gW o w t < 0)
theorem Pos.eq {o : Bool} {vs : List Ver} {t : Ver} {p : Nat} (h : Pos o vs t p) : p = pos o vs t := by
  unfold pos
  conv => rhs; rw [← List.take_append_drop p vs]
  rw [List.countP_append]
  have h1 : (vs.take p).countP (fun w => decide (gW o w t < 0)) = p := by
    rw [List.countP_eq_length.2 (fun a ha => by
      obtain ⟨k, hk, rfl⟩ := List.mem_iff_getElem.1 ha
      rw [List.length_take] at hk
      rw [List.getElem_take]
      exact decide_eq_true (h.lo k (by omega) (by omega))), List.length_take]
    have := h.le; omega
  have h2 : (vs.drop p).countP (fun w => decide (gW o w t < 0)) = 0 := by
    rw [List.countP_eq_zero]
    intro a ha
    obtain ⟨k, hk, rfl⟩ := List.mem_iff_getElem.1 ha
    rw [List.length_drop] at hk
    rw [List.getElem_drop]
    have := h.hi (p + k) (by omega) (by omega)
    simpa using this
  omega
theorem nR {o : Bool} {vs : List Ver} {t : Ver} {p : Nat} (r : cP o vs) (h : Pos o vs t p) (ht : t ∈ vs) : ∃ hp : p < vs.length, vs[p] = t := by
  have ha := (DS r h).2 ⟨t, ht, (BH o).refl t⟩
  unfold vS at ha
  cases e : vs[p]? with
  | none => rw [e] at ha; cases ha
  | some w =>
    rw [e] at ha
    obtain ⟨hp, hw⟩ := List.getElem?_eq_some_iff.1 e
    refine ⟨hp, ?_⟩
    rw [hw]
    exact kE r (List.mem_of_getElem? e) ht (of_decide_eq_true ha)
def kW (L : List Ver) (v : Ver) : List Ver := fB L (pos false L v) v
def kV (L : List Ver) (v : Ver) : List Ver := iB L (pos false L v)
structure Ix (h : Hp) (n : Nat) (D M : Nat → Prop) (x : Nat) (L : List Ver) : Prop where
  ex : ∃ S, IxS h n D M x L S ∧ cP true S ∧ L.Perm S
  r : cP false L
  ok : ∀ v ∈ L, v.Ok ∧ v.aI.length ≤ 1000000
structure Chg (h : Hp) (n : Nat) (D M : Nat → Prop) (h' : Hp) (n' : Nat) (D' M' : Nat → Prop) : Prop extends Ch2 h n M h' n' M' where
  d : ∀ j, D j → D' j
  d' : ∀ j, D' j → D j ∨ n ≤ j
theorem Chg.trans {h h1 h2 : Hp} {n n1 n2 : Nat} {D D1 D2 M M1 M2 : Nat → Prop} (a : Chg h n D M h1 n1 D1 M1) (b : Chg h1 n1 D1 M1 h2 n2 D2 M2) : Chg h n D M h2 n2 D2 M2 :=
  ⟨a.toCh2.trans b.toCh2, fun j hj => b.d j (a.d j hj), fun j hj => (b.d' j hj).elim (a.d' j) (fun q => .inr (Nat.le_trans a.nx q))⟩
theorem Chg.of {h h' : Hp} {n n' : Nat} {D M : Nat → Prop} (hf : bB h' n') (hn : n ≤ n') (ho : Old h h' n) : Chg h n D M h' n' D M := ⟨.of hf hn ho, fun _ h => h, fun _ h => .inl h⟩
theorem Ix.sF {h h' : Hp} {n n' : Nat} {D M : Nat → Prop} {x : Nat} {L : List Ver} (s : Ix h n D M x L) (hn : n ≤ n') (ho : ∀ j, j < n → (D j ∨ M j) → h' j = h j) : Ix h' n' D M x L := by
  obtain ⟨⟨S, a, b, c⟩, r, k⟩ := s
  exact ⟨⟨S, a.sF hn ho, b, c⟩, r, k⟩
theorem Ix.old {h h' : Hp} {n n' : Nat} {D M : Nat → Prop} {x : Nat} {L : List Ver} (s : Ix h n D M x L) (hn : n ≤ n') (ho : Old h h' n) : Ix h' n' D M x L := s.sF hn fun j hj _ => ho j hj
theorem aY1 : build env 100 [(0, .bool true)] = M.pure (.agg [.bool true, .aL, .cE, .aL, .cE]) := rfl
theorem f40 (h : Hp) (n : Nat) (hf : bB h n) : Wp (aQ env (aE env) 40 []) h n fun v' h' n' => ∃ x, v' = .ptr x 0 ∧ n ≤ x ∧ Ix h' n' (fun _ => False) (fun j => j = x) x [] ∧ Old h h' n := by
  refine aW aT9 aK1 ?_
  simp only [ab2, Try.f40, Option.getD_some, List.replicate, fgr, Nat.reduceSub, aY1, gE]
  refine cX (v := .agg [.bool true, .aL, .cE, .aL, .cE]) HM rfl hf fun h1 r1 o1 f1 => ?_
  obtain ⟨e, he⟩ := r1
  simp only [tyr, fgr, aR, Nat.reduceAdd, gE]
  rw [dE (Row.write (v := .fn (.func 84) [] []) he J1 rfl (by decide) rfl)]
  simp only [tyr, cel, aR, Nat.reduceAdd, gE]
  rw [dE (Row.write (v := .fn (.func 85) [] []) (aM _ _ _) J1 rfl (by decide) rfl)]
  simp only [fgr, cel, gE]
  refine ⟨n, rfl, Nat.le_refl _, ⟨⟨[], ⟨.aL, .aL, [], [], ⟨?_, .nil, ⟨rfl, fun j x v hx => by simp at hx⟩, .nil, ⟨rfl, fun j x v hx => by simp at hx⟩, by omega, fun j q => q.elim, fun q => q, fun j q => (by cases q), fun j q => (by cases q)⟩, rfl, fun j q => (by cases q), fun j q => (by cases q), fun j q => ⟨by omega, fun w => w⟩⟩, .nil, .nil⟩, .nil, fun v hv => (by cases hv)⟩, fun j hj => ?_⟩
  · exact Row.new _ _ _ _
  · rw [aK _ _ (by omega), aK _ _ (by omega), o1 j (by omega)]
theorem f34 (x : Nat) (aP : List UInt8) (pn made : Int) (hl : aP.length = 32) (L : List Ver) (D M : Nat → Prop) (h : Hp) (n : Nat) (hs : Ix h n D M x L) (hc : L.length ≤ 1000000) (hf : bB h n) :
    Wp (aQ env (aE env) 34 [.ptr x 0, .agg (aV aP pn), .int .i64 made]) h n fun v' h' n' => ((∀ w ∈ L, eO w (key aP pn made) ≠ 0) ∧ v' = .int .i64 210 ∧ Ix h' n' D M x L ∨ ∃ w, w ∈ L ∧ eO w (key aP pn made) = 0 ∧ v' = .int .i64 0 ∧ Ix h' n' D M x (kV L w)) ∧ Chg h n D M h' n' D M := by
  obtain ⟨⟨S, s, rS, perm⟩, rL, ok⟩ := hs
  have s0 := s
  obtain ⟨vl, vs, xl, xs, sv, mx, ml, ms, mn⟩ := s0
  refine aW aU4 aK6 ?_
  simp only [ab7, Try.f34, Option.getD_some, List.replicate, Nat.reduceAdd, Nat.reduceSub, gE]
  refine cX (v := .agg (aV aP pn)) jJ rfl hf fun H1 r1 o1 f1 => ?_
  have old1 : Old h H1 n := fun j hj => o1 j (by omega)
  simp only [fgr, hkr, gE]
  refine dJ (f73 x _ true H1 (n + 1) (sv.row.aO (old1 x sv.xn)) rfl) ?_
  simp only [fgr, gE]
  have hld : Rd (load env 28 (.ptr n 0)) H1 (n + 1) [n] (.agg (aV aP pn)) := Row.gY r1 jJ rfl (bW hl)
  rw [aH hld]
  simp only [hkr, gE]
  have s1 := s.old (n' := n + 1) (by omega) old1
  refine aU f1 (f76 x aP pn made hl L S D M H1 (n + 1) s1 rL hc f1) fun v2 h2 n2 hn2 f2 ⟨hh, o2⟩ => ?_
  have old2 : Old h h2 n := fun j hj => by rw [o2 j (by omega), old1 j hj]
  have s2 := s1.old hn2 o2
  rcases hh with ⟨hno, e2⟩ | ⟨id, sw, w, hw, hkey, e2, a, d1, d2⟩
  · subst e2
    simp only [tyr, fgr, bor, bP, gR, bU, equal, iF, fH, fI, gE]
    exact ⟨.inl ⟨hno, ⟨⟨S, s2, rS, perm⟩, rL, ok⟩⟩, .of f2 (by omega) old2⟩
  subst e2
  simp only [tyr, fgr, hkr, bor, bP, gR, aR, bU, equal, iF, fH, fI, gE]
  have at2 : AtN h2 n2 id sw w := ⟨a, by have := sv.dn id d1; omega, fun j q => by have := sv.dn j (d2 j q); omega⟩
  refine aU f2 (V3 x id sw w L S D M h2 n2 s2 at2 rL ⟨w, hw, p9.refl w⟩ hc f2) fun v3 h3 n3 hn3 f3 ⟨e3, p, hp, hpl, s3, c3⟩ => ?_
  subst e3
  simp only [tyr, fgr, hkr, aR, gE]
  have hwm : ∀ j, D j → ¬ M j := fun j q w => (mn j w).2 q
  have at3 : AtN h3 n3 id sw w := ⟨a.aO (c3.old id at2.idn (hwm id d1)) (fun j q => c3.old j (at2.sn j q) (hwm j (d2 j q))), by have := at2.idn; omega, fun j q => by have := at2.sn j q; omega⟩
  have hwS : w ∈ S := perm.mem_iff.1 hw
  refine aU f3 (V2 x id sw w _ S D M h3 n3 s3 at3 rS ⟨w, hwS, X0.refl w⟩ (by rw [← perm.length_eq]; exact hc) f3) fun v4 h4 n4 hn4 f4 ⟨e4, q, hq, hql, s4, c4⟩ => ?_
  subst e4
  simp only [fgr, gE]
  obtain ⟨hp1, hp2⟩ := nR rL hp hw
  obtain ⟨hq1, hq2⟩ := nR rS hq hwS
  have perm2 : (iB L p).Perm (iB S q) := by
    have e1 := jU hp1
    have e2 := jU hq1
    rw [hp2] at e1
    rw [hq2] at e2
    exact (List.perm_cons w).1 (e1.symm.trans (perm.trans e2))
  have e : iB L p = kV L w := by unfold kV; rw [← hp.eq]
  have ok2 : ∀ v ∈ iB L p, v.Ok ∧ v.aI.length ≤ 1000000 := fun v hv => ok v ((jU hp1).mem_iff.2 (List.mem_cons_of_mem _ hv))
  rw [e] at s4 perm2 ok2
  exact ⟨.inr ⟨w, hw, hkey, ⟨⟨_, s4, qL rS q, perm2⟩, by rw [← e]; exact qL rL p, ok2⟩⟩, ⟨((Ch2.of f2 (by omega) old2).trans c3).trans c4, fun j q => q, fun j q => .inl q⟩⟩
theorem af0 {a b : Ver} (h : GO a b = 0) : eO a b = 0 := by
  unfold GO orI at h
  split at h
  · exact h
  · contradiction
def vV (v : Ver) : Bool := decide (v.made < 0) || (decide (v.c8 ≠ 0) && (decide (v.c8 < v.made) || decide (v.c8 < 0)))
def CC (v : Ver) (L : List Ver) : Prop := vV v = true ∨ ∃ w ∈ L, eO w v = 0
theorem MZ {h : Hp} {n : Nat} {D M : Nat → Prop} {x : Nat} {tv : Ver} {L S : List Ver} {p q : Nat} (hp : Pos false L tv p) (hq : Pos true S tv q) (rL : cP false L) (rS : cP true S) (perm : L.Perm S) (ok : ∀ v ∈ L, v.Ok ∧ v.aI.length ≤ 1000000) (okt : tv.Ok ∧ tv.aI.length ≤ 1000000)
    (hno : ∀ w ∈ L, eO w tv ≠ 0) (hs : IxS h n D M x (fB L p tv) (fB S q tv)) : Ix h n D M x (kW L tv) := by
  have e : fB L p tv = kW L tv := by unfold kW; rw [← hp.eq]
  have rL2 := uN rL hp hno
  have rS2 := uN rS hq (fun w hw he => hno w (perm.mem_iff.2 hw) (af0 he))
  have pm : (fB L p tv).Perm (fB S q tv) := (uO L p tv).trans ((List.Perm.cons tv perm).trans (uO S q tv).symm)
  have ok2 : ∀ v ∈ fB L p tv, v.Ok ∧ v.aI.length ≤ 1000000 := fun v hv => by
    rcases DT.1 hv with rfl | hv
    · exact okt
    · exact ok v hv
  rw [e] at hs rL2 pm ok2
  exact ⟨⟨_, hs, rS2, pm⟩, rL2, ok2⟩
end Go.Am.Ytlgebaofkolkoaa
set_option linter.unusedSimpArgs false
set_option linter.unusedVariables false
set_option linter.defProp false
set_option maxRecDepth 10000
namespace Go.Am.Ytlgebaofkolkoaa
open Go Go.Am Go.Proofs
theorem f33 (x : Nat) (v : Ver) (sv : a9) (ov : v.Ok) (hsl : v.aI.length ≤ 1000000) (L : List Ver) (D M : Nat → Prop) (h : Hp) (n : Nat) (hs : Ix h n D M x L) (hb : Bytes h sv v.aI) (hsn : ∀ j, aT sv = some j → j < n) (hc : L.length ≤ 900000) (hf : bB h n) :
    Wp (aQ env (aE env) 33 [.ptr x 0, .agg (aN v sv)]) h n fun v' h' n' => (CC v L ∧ v' = .int .i64 210 ∧ Ix h' n' D M x L ∧ Chg h n D M h' n' D M) ∨ (¬ CC v L ∧ v' = .int .i64 0 ∧ ∃ D' M', Ix h' n' D' M' x (kW L v) ∧ Chg h n D M h' n' D' M') := by
  obtain ⟨⟨S, s, rS, perm⟩, rL, ok⟩ := hs
  have s0 := s
  obtain ⟨vl, vs, xl, xs, iv, mx, ml, ms, mn⟩ := s0
  refine aW aU5 aK7 ?_
  simp only [ab8, Try.f33, Option.getD_some, List.replicate, Nat.reduceAdd, Nat.reduceSub, gE]
  refine cX (v := .agg (aN v sv)) eR rfl hf fun H1 r1 o1 f1 => ?_
  have old1 : Old h H1 n := fun j hj => o1 j (by omega)
  have s1 := s.old (n' := n + 1) (by omega) old1
  simp only [fgr, hkr, gE]
  refine dJ (f73 x _ true H1 (n + 1) (iv.row.aO (old1 x iv.xn)) rfl) ?_
  simp only [tyr, fgr, aR, gE]
  rw [aH (fZ r1 ov)]
  have bad : vV v = true → (CC v L ∧ a9.int .i64 210 = a9.int .i64 210 ∧ Ix H1 (n + 1) D M x L ∧ Chg h n D M H1 (n + 1) D M) ∨ (¬ CC v L ∧ a9.int .i64 210 = a9.int .i64 0 ∧ ∃ D' M', Ix H1 (n + 1) D' M' x (kW L v) ∧ Chg h n D M H1 (n + 1) D' M') := fun e =>
    .inl ⟨.inl e, rfl, ⟨⟨S, s1, rS, perm⟩, rL, ok⟩, .of f1 (by omega) old1⟩
  by_cases c1 : v.made < 0
  · simp only [fgr, bor, bH, c1, gE]
    have := bad (by unfold vV; simp [c1])
    simpa using this
  simp only [tyr, bor, aR, c1, gE]
  rw [aH (dN r1 ov)]
  have go : (v.c8 = 0 ∨ (¬ v.c8 = 0 ∧ ¬ v.c8 < v.made ∧ ¬ v.c8 < 0)) ∨ (¬ v.c8 = 0 ∧ (v.c8 < v.made ∨ (¬ v.c8 < v.made ∧ v.c8 < 0))) := by omega
  rcases go with (c2 | ⟨c2, c3, c4⟩) | ⟨c2, c3 | ⟨c3, c4⟩⟩
  rotate_left 2
  · simp only [tyr, bor, aR, c2, gE]
    rw [aH (dN r1 ov)]
    simp only [tyr, aR, gE]
    rw [aH (fZ r1 ov)]
    simp only [fgr, bor, bH, c3, gE]
    have := bad (by unfold vV; simp [c2, c3])
    simpa using this
  · simp only [tyr, bor, aR, c2, gE]
    rw [aH (dN r1 ov)]
    simp only [tyr, aR, gE]
    rw [aH (fZ r1 ov)]
    simp only [tyr, bor, aR, c3, gE]
    rw [aH (dN r1 ov)]
    simp only [fgr, bor, bH, c4, gE]
    have := bad (by unfold vV; simp [c2, c4])
    simpa using this
  all_goals
    have ne : vV v = false := by
      unfold vV
      first | (simp [c1, c2, c3, c4]; done) | (simp [c1, c2]; done)
    first
      | (simp only [tyr, bor, bH, aR, c2, gE]
         rw [aH (j5 r1 ov)])
      | (simp only [tyr, bor, aR, c2, gE]
         rw [aH (dN r1 ov)]
         simp only [tyr, aR, gE]
         rw [aH (fZ r1 ov)]
         simp only [tyr, bor, aR, c3, gE]
         rw [aH (dN r1 ov)]
         simp only [tyr, bor, bH, aR, c4, gE]
         rw [aH (j5 r1 ov)])
    simp only [tyr, aR, gE]
    rw [aH (fZ r1 ov)]
    simp only [hkr, gE]
    refine aU f1 (f76 x v.aP v.pn v.made ov.h L S D M H1 (n + 1) s1 rL (by omega) f1) fun v2 h2 n2 hn2 f2 ⟨hh, o2⟩ => ?_
    have old2 : Old h h2 n := fun j hj => by rw [o2 j (by omega), old1 j hj]
    have s2 := s1.old hn2 o2
    rcases hh with ⟨hno, e2⟩ | ⟨id, sw, w, hw, hkey, e2, a, d1, d2⟩
    rotate_left
    · subst e2
      simp only [tyr, fgr, bor, bP, gR, bH, bU, equal, iF, fH, fI, gE]
      exact .inl ⟨.inr ⟨w, hw, hkey⟩, ⟨⟨S, s2, rS, perm⟩, rL, ok⟩, .of f2 (by omega) old2⟩
    subst e2
    simp only [tyr, fgr, bor, bP, gR, bH, bU, equal, iF, fH, fI, gE]
    have r2 := r1.aO (o2 n (by omega))
    rw [aH (fM r2 ov)]
    simp only [hkr, gE]
    refine aU f2 (f77 v sv ov h2 n2 (hb.aO fun j q => old2 j (hsn j q)) (fun j q => by have := hsn j q; omega) hsl f2) fun v3 h3 n3 hn3 f3 ⟨s', e3, b3, i3, o3⟩ => ?_
    subst e3
    simp only [gE]
    rw [cC eR rfl]
    simp only [cel, gE]
    refine dF (v := .agg (aN v s')) eR rfl (bR ov.h ov.b) (cU b3.kind.2.1) f3 fun H4 r4 o4 f4 => ?_
    have old4 : Old h2 H4 n2 := fun j hj => by rw [o4 j (by omega), o3 j hj]
    have s4 := s2.old (n' := n3 + 1) (by omega) old4
    have at4 : AtN H4 (n3 + 1) n3 s' v := ⟨⟨r4, b3.aO fun j q => o4 j (by have := i3 j q; omega), ov⟩, by omega, fun j q => by have := i3 j q; omega⟩
    simp only [tyr, fgr, hkr, aR, gE]
    refine aU f4 (al9 x n3 s' v L S D M H4 (n3 + 1) s4 at4 (fun q => by have := (mn _ q).1; omega) (fun j q w => by have := (mn _ w).1; have := i3 j q; omega) rL (by omega) f4) fun v5 h5 n5 hn5 f5 ⟨e5, p, M5, hp, s5, c5⟩ => ?_
    subst e5
    simp only [tyr, fgr, hkr, aR, gE]
    have nm5 : ∀ j, n2 ≤ j → j < n3 + 1 → ¬ M5 j := fun j q1 q2 w => by
      rcases c5.m' j w with w | w
      · have := (mn _ w).1; omega
      · omega
    have at5 : AtN h5 n5 n3 s' v := ⟨at4.toAt.aO (c5.old n3 (by omega) (fun q => by have := (mn _ q).1; omega)) (fun j q => c5.old j (at4.sn j q) (fun w => by have := (mn _ w).1; have := i3 j q; omega)), by omega, fun j q => by have := at4.sn j q; omega⟩
    refine aU f5 (al8 x n3 s' v _ S _ M5 h5 n5 s5 at5 (nm5 n3 (by omega) (by omega)) (fun j q => nm5 j (i3 j q).1 (by have := i3 j q; omega)) rS (by rw [← perm.length_eq]; omega) f5) fun v6 h6 n6 hn6 f6 ⟨e6, q, M6, hq, s6, c6⟩ => ?_
    subst e6
    simp only [fgr, gE]
    have nP : ¬ CC v L := fun w => by
      rcases w with w | ⟨w, hw, he⟩
      · rw [ne] at w; cases w
      · exact hno w hw he
    have o04 : Old h H4 n := fun j hj => by rw [old4 j (by omega), old2 j hj]
    refine .inr ⟨nP, _, _, MZ hp hq rL rS perm ok ⟨ov, hsl⟩ hno s6, ((Ch2.of f4 (by omega) o04).trans c5).trans c6, fun j w => .inl (.inl w), fun j w => ?_⟩
    rcases w with (w | w | w) | w | w
    · exact .inl w
    · subst w; exact .inr (by omega)
    · exact .inr (by have := i3 j w; omega)
    · subst w; exact .inr (by omega)
    · exact .inr (by have := i3 j w; omega)
theorem CE {L : List Ver} {p : Nat} {w : Ver} (h : w ∈ iB L p) : w ∈ L := by
  unfold iB at h
  rcases List.mem_append.1 h with h | h
  · exact List.mem_of_mem_take h
  · exact List.mem_of_mem_drop h
theorem ae8 {o : Bool} {L : List Ver} {p : Nat} {w t : Ver} (r : cP o L) (hp : Pos o L w p) (hw : w ∈ L) (he : gW o w t = 0) : ∀ a ∈ iB L p, gW o a t ≠ 0 := by
  intro a ha h0
  obtain ⟨hp1, hp2⟩ := nR r hp hw
  have haw : gW o a w = 0 := by
    have := (BH o).eqr (d := a) he
    omega
  have e : a = w := kE r (CE ha) hw haw
  subst e
  have pm := jU hp1
  rw [hp2] at pm
  have nd : L.Nodup := by
    refine List.Pairwise.imp ?_ r
    intro a b hab e
    subst e
    have := (BH o).refl a
    omega
  have := pm.nodup_iff.1 nd
  exact (List.nodup_cons.1 this).1 ha
theorem f80 (x id : Nat) (sw : a9) (w v : Ver) (L : List Ver) (D M : Nat → Prop) (h : Hp) (n : Nat) (hs : Ix h n D M x L) (hw : w ∈ L) (a : At h id sw w) (d1 : D id) (d2 : ∀ j, aT sw = some j → D j) (hv : eO w v = 0) (hvs : v.aI = w.aI) (ov : v.Ok) (hc : L.length ≤ 900000) (hf : bB h n) :
    Wp (aQ env (aE env) 80 [.ptr x 0, .ptr id 0, .agg (aN v sw)]) h n fun v' h' n' => v' = .tup [] ∧ ∃ D' M', Ix h' n' D' M' x (kW (kV L w) v) ∧ Chg h n D M h' n' D' M' := by
  obtain ⟨⟨S, s, rS, perm⟩, rL, ok⟩ := hs
  have s0 := s
  obtain ⟨vl, vs, xl, xs, iv, mx, ml, ms, mn⟩ := s0
  refine aW aR9 aI1 ?_
  simp only [ZS, Try.f80, Option.getD_some, List.replicate, Nat.reduceAdd, Nat.reduceSub, gE]
  refine cX (v := .agg (aN v sw)) eR rfl hf fun H1 r1 o1 f1 => ?_
  have old1 : Old h H1 n := fun j hj => o1 j (by omega)
  have s1 := s.old (n' := n + 1) (by omega) old1
  have hdm : ∀ j, D j → ¬ M j := fun j q w => (mn j w).2 q
  have a1 : AtN H1 (n + 1) id sw w := ⟨a.aO (old1 id (iv.dn id d1)) (fun j q => old1 j (iv.dn j (d2 j q))), by have := iv.dn id d1; omega, fun j q => by have := iv.dn j (d2 j q); omega⟩
  have b1 : AtN H1 (n + 1) n sw v := ⟨⟨r1, by rw [hvs]; exact a1.s, ov⟩, by omega, a1.sn⟩
  simp only [tyr, fgr, hkr, aR, gE]
  refine aU f1 (V3 x id sw w L S D M H1 (n + 1) s1 a1 rL ⟨w, hw, p9.refl w⟩ (by omega) f1) fun v3 h3 n3 hn3 f3 ⟨e3, p, hp, hpl, s3, c3⟩ => ?_
  subst e3
  simp only [tyr, fgr, hkr, aR, gE]
  have nM : ¬ M n := fun q => by have := (mn n q).1; omega
  have a3 : AtN h3 n3 id sw w := ⟨a1.toAt.aO (c3.old id a1.idn (hdm id d1)) (fun j q => c3.old j (a1.sn j q) (hdm j (d2 j q))), by have := a1.idn; omega, fun j q => by have := a1.sn j q; omega⟩
  have b3 : AtN h3 n3 n sw v := ⟨b1.toAt.aO (c3.old n (by omega) nM) (fun j q => c3.old j (a1.sn j q) (hdm j (d2 j q))), by omega, a3.sn⟩
  have hwS : w ∈ S := perm.mem_iff.1 hw
  refine aU f3 (V2 x id sw w _ S D M h3 n3 s3 a3 rS ⟨w, hwS, X0.refl w⟩ (by rw [← perm.length_eq]; omega) f3) fun v4 h4 n4 hn4 f4 ⟨e4, q, hq, hql, s4, c4⟩ => ?_
  subst e4
  simp only [tyr, fgr, hkr, aR, gE]
  have b4 : AtN h4 n4 n sw v := ⟨b3.toAt.aO (c4.old n (by omega) nM) (fun j q => c4.old j (a3.sn j q) (hdm j (d2 j q))), by omega, fun j q => by have := a3.sn j q; omega⟩
  obtain ⟨hp1, hp2⟩ := nR rL hp hw
  obtain ⟨hq1, hq2⟩ := nR rS hq hwS
  have perm2 : (iB L p).Perm (iB S q) := by
    have e1 := jU hp1
    have e2 := jU hq1
    rw [hp2] at e1
    rw [hq2] at e2
    exact (List.perm_cons w).1 (e1.symm.trans (perm.trans e2))
  have e : iB L p = kV L w := by unfold kV; rw [← hp.eq]
  have ok2 : ∀ v ∈ iB L p, v.Ok ∧ v.aI.length ≤ 1000000 := fun v hv => ok v (CE hv)
  have hno : ∀ a ∈ iB L p, eO a v ≠ 0 := ae8 rL hp hw hv
  have rL2 := qL rL p
  have rS2 := qL rS q
  have hl2 : (iB L p).length ≤ 900000 := by have := pN hp1; omega
  refine aU f4 (al9 x n sw v _ _ D M h4 n4 s4 b4 nM (fun j q => hdm j (d2 j q)) rL2 (by omega) f4) fun v5 h5 n5 hn5 f5 ⟨e5, p5, M5, hp5, s5, c5⟩ => ?_
  subst e5
  simp only [tyr, fgr, hkr, aR, gE]
  have nm5 : ∀ j, j < n4 → ¬ M j → ¬ M5 j := fun j q1 q2 w => by
    rcases c5.m' j w with w | w
    · exact q2 w
    · omega
  have b5 : AtN h5 n5 n sw v := ⟨b4.toAt.aO (c5.old n (by omega) nM) (fun j q => c5.old j (b4.sn j q) (hdm j (d2 j q))), by omega, fun j q => by have := b4.sn j q; omega⟩
  refine aU f5 (al8 x n sw v _ _ _ M5 h5 n5 s5 b5 (nm5 n (by omega) nM) (fun j q => nm5 j (b4.sn j q) (hdm j (d2 j q))) rS2 (by rw [← perm2.length_eq]; omega) f5) fun v6 h6 n6 hn6 f6 ⟨e6, q6, M6, hq6, s6, c6⟩ => ?_
  subst e6
  simp only [bK, fgr, bQ, put, aJ, true_and]
  have fin := MZ hp5 hq6 rL2 rS2 perm2 ok2 ⟨ov, by rw [hvs]; exact (ok w hw).2⟩ hno s6
  rw [e] at fin
  refine ⟨_, _, fin, ((((Ch2.of f1 (by omega) old1).trans c3).trans c4).trans c5).trans c6, fun j w => .inl (.inl w), fun j w => ?_⟩
  rcases w with (w | w | w) | w | w
  · exact .inl w
  · subst w; exact .inr (by omega)
  · exact .inl (d2 j w)
  · subst w; exact .inr (by omega)
  · exact .inl (d2 j w)
theorem lJ {pre mid eV vs : List a9} {off : Nat} (h1 : pre.length = off) (h2 : mid.length = vs.length) : bV (pre ++ (mid ++ eV)) off vs = pre ++ (vs ++ eV) := by
  have e : (pre ++ (mid ++ eV)).drop (off + vs.length) = eV := by rw [← List.append_assoc, List.drop_left' (by rw [List.length_append]; omega)]
  unfold bV
  rw [List.take_left' h1, e]
theorem qY {w : Ver} {sv : a9} (h : w.aP.length = 32) (s : Int) : bV (aN w sv) 37 [.int .i64 s] = aN { w with c8 := s } sv := by
  have e : aN w sv = (aV w.aP w.pn ++ [.int .i64 w.made, .int .i64 w.value, sv, .bool w.dH]) ++ ([.int .i64 w.c8] ++ w.by_.map u8) := by simp [aN, mP]
  rw [e, lJ (mid := [.int .i64 w.c8]) (vs := [.int .i64 s]) (by rw [List.length_append, bW h]; rfl) rfl]
  simp [aN, mP]
theorem wS {w : Ver} {sv : a9} (h : w.aP.length = 32) (h2 : w.by_.length = 32) (b : List UInt8) (hb : b.length = 32) : bV (aN w sv) 38 (b.map u8) = aN { w with by_ := b } sv := by
  have e : aN w sv = (aV w.aP w.pn ++ [.int .i64 w.made, .int .i64 w.value, sv, .bool w.dH, .int .i64 w.c8]) ++ (w.by_.map u8 ++ []) := by simp [aN, mP]
  rw [e, lJ (by rw [List.length_append, bW h]; rfl) (by simp [h2, hb])]
  simp [aN, mP]
def fT (w : Ver) (s : Int) (b : List UInt8) : Ver := { w with c8 := s, by_ := b }
theorem f36 (x : Nat) (aP : List UInt8) (pn made s : Int) (b : List UInt8) (hl : aP.length = 32) (hbl : b.length = 32) (L : List Ver) (D M : Nat → Prop) (h : Hp) (n : Nat) (hs : Ix h n D M x L) (hc : L.length ≤ 900000) (hf : bB h n) :
    Wp (aQ env (aE env) 36 [.ptr x 0, .agg (aV aP pn), .int .i64 made, .int .i64 s, .agg (b.map u8)]) h n fun v' h' n' =>
      ((∀ w ∈ L, eO w (key aP pn made) = 0 → (w.c8 ≠ 0 ∨ s < 1 ∨ s < made)) ∧ v' = .int .i64 210 ∧ Ix h' n' D M x L ∧ Chg h n D M h' n' D M) ∨
      (∃ w ∈ L, eO w (key aP pn made) = 0 ∧ w.c8 = 0 ∧ 1 ≤ s ∧ made ≤ s ∧ v' = .int .i64 0 ∧ ∃ D' M', Ix h' n' D' M' x (kW (kV L w) (fT w s b)) ∧ Chg h n D M h' n' D' M') := by
  have hs0 := hs
  obtain ⟨⟨S, s0, rS, perm⟩, rL, ok⟩ := hs
  have s00 := s0
  obtain ⟨vl, vs, xl, xs, iv, mx, ml, ms, mn⟩ := s00
  refine aW aU3 aK5 ?_
  simp only [ab6, Try.f36, Option.getD_some, List.replicate, Nat.reduceAdd, Nat.reduceSub, gE]
  refine cX (v := .agg (aV aP pn)) jJ rfl hf fun H1 r1 o1 f1 => ?_
  simp only [gE]
  refine cX (v := .agg (b.map u8)) nK rfl f1 fun H2 r2 o2 f2 => ?_
  have old2 : Old h H2 n := fun j hj => by rw [o2 j (by omega), o1 j (by omega)]
  have r1 := r1.aO (o2 n (by omega))
  simp only [fgr, hkr, gE]
  refine dJ (f73 x _ true H2 (n + 1 + 1) (iv.row.aO (old2 x iv.xn)) rfl) ?_
  simp only [fgr, gE]
  have hld : Rd (load env 28 (.ptr n 0)) H2 (n + 1 + 1) [n] (.agg (aV aP pn)) := Row.gY r1 jJ rfl (bW hl)
  rw [aH hld]
  simp only [hkr, gE]
  have s2 := s0.old (n' := n + 1 + 1) (by omega) old2
  refine aU f2 (f76 x aP pn made hl L S D M H2 _ s2 rL (by omega) f2) fun v3 h3 n3 hn3 f3 ⟨hh, o3⟩ => ?_
  have old3 : Old h h3 n := fun j hj => by rw [o3 j (by omega), old2 j hj]
  have ix3 : Ix h3 n3 D M x L := hs0.old (by omega) old3
  rcases hh with ⟨hno, e2⟩ | ⟨id, sw, w, hw, hkey, e2, a, d1, d2⟩
  · subst e2
    simp only [tyr, fgr, bor, bP, gR, bH, bU, equal, iF, fH, fI, gE]
    exact .inl ⟨fun w hw he => absurd he (hno w hw), ix3, .of f3 (by omega) old3⟩
  subst e2
  have uq : ∀ u ∈ L, eO u (key aP pn made) = 0 → u = w := fun u hu he => kE rL hu hw (by
    have := p9.eqr (d := u) hkey
    show eO u w = 0
    omega)
  have okw := ok w hw
  by_cases c1 : w.c8 = 0
  rotate_left
  · simp only [tyr, fgr, bor, bP, gR, aR, bU, equal, iF, fH, fI, gE]
    rw [aH (dN a.row okw.1)]
    simp only [fgr, bor, bH, c1, gE]
    exact .inl ⟨fun u hu he => by rw [uq u hu he]; exact .inl c1, ix3, .of f3 (by omega) old3⟩
  by_cases c2 : s < 1
  · simp only [tyr, fgr, bor, bP, gR, aR, bU, equal, iF, fH, fI, gE]
    rw [aH (dN a.row okw.1)]
    simp only [fgr, bor, bH, c1, c2, gE]
    exact .inl ⟨fun u hu he => by simp, ix3, .of f3 (by omega) old3⟩
  by_cases c3 : s < made
  · simp only [tyr, fgr, bor, bP, gR, aR, bU, equal, iF, fH, fI, gE]
    rw [aH (dN a.row okw.1)]
    simp only [fgr, bor, bH, c1, c2, c3, gE]
    exact .inl ⟨fun u hu he => by simp, ix3, .of f3 (by omega) old3⟩
  simp only [tyr, fgr, bor, bP, gR, aR, bU, equal, iF, fH, fI, gE]
  rw [aH (dN a.row okw.1)]
  simp only [fgr, bor, bH, c1, c2, c3, gE]
  rw [aH (fM a.row okw.1)]
  simp only [gE]
  rw [cC eR rfl]
  simp only [cel, gE]
  refine dF (v := .agg (aN w sw)) eR rfl (bR okw.1.h okw.1.b) (cU a.s.kind.2.1) f3 fun H4 r4 o4 f4 => ?_
  have r2 : Row H4 (n + 1) (b.map u8) := (r2.aO (o3 (n + 1) (by omega))).aO (o4 (n + 1) (by omega))
  obtain ⟨e4, r4⟩ := r4
  simp only [bK, fgr, bQ, aJ]
  refine c9 ⟨rfl, ?_⟩
  simp only [gE]
  have hld2 : Rd (load env 25 (.ptr (n + 1) 0)) H4 (n3 + 1) [n + 1] (.agg (b.map u8)) := Row.gY r2 nK rfl (by simp [hbl])
  rw [aZ hld2]
  simp only [tyr, aR, Nat.reduceAdd, gE]
  refine kN (Row.write (v := .int .i64 s) r4 ti3 rfl (by show 37 + 1 ≤ (aN w sw).length; rw [bR okw.1.h okw.1.b]; decide) rfl) ?_
  simp only [tyr, cel, aR, Nat.reduceAdd, gE]
  have w1 : bV (aN w sw) 37 [a9.int .i64 s] = aN { w with c8 := s } sw := qY okw.1.h s
  rw [w1]
  refine kN (Row.write (v := .agg (b.map u8)) (aM _ _ _) nK (by simp [a9.cells, hbl]) (by show 38 + 32 ≤ _; rw [bR (v := { w with c8 := s }) okw.1.h okw.1.b]; decide) (uB b)) ?_
  have w2 : bV (aN { w with c8 := s } sw) 38 (a9.agg (b.map u8)).cells = aN (fT w s b) sw := wS (w := { w with c8 := s }) okw.1.h okw.1.b b hbl
  rw [w2]
  simp only [fgr, Nat.reduceAdd, gE]
  refine ⟨(by (try simp (disch := omega) only [cM, gF]); repeat' (first | rfl | exact (Bool.or_eq_true _ _).mpr (.inr rfl) | refine (Bool.and_eq_true _ _).mpr ⟨?_, ?_⟩)), ?_⟩
  have f5 : bB (upd (upd H4 n3 (some (Blk.row (bI.l (aN { w with c8 := s } sw)) e4))) n3 (some (Blk.row (bI.l (aN (fT w s b) sw)) e4))) (n3 + 1) := (f4.upd (by omega)).upd (by omega)
  obtain ⟨H5, hH5⟩ : ∃ H5, H5 = upd (upd H4 n3 (some (Blk.row (bI.l (aN { w with c8 := s } sw)) e4))) n3 (some (Blk.row (bI.l (aN (fT w s b) sw)) e4)) := ⟨_, rfl⟩
  have o5 : ∀ j, j ≠ n3 → H5 j = h3 j := fun j hj => by rw [hH5, aK _ _ hj, aK _ _ hj, o4 j hj]
  have r5 : Row H5 n3 (aN (fT w s b) sw) := by rw [hH5]; exact Row.new _ _ _ _
  rw [← hH5] at f5
  rw [← hH5]
  clear hH5
  have ov5 : (fT w s b).Ok := ⟨okw.1.h, hbl⟩
  rw [aH (fM r5 ov5)]
  simp only [hkr, gE]
  have old5 : Old h H5 n := fun j hj => by rw [o5 j (by omega), old3 j hj]
  have ix5 : Ix H5 (n3 + 1) D M x L := hs0.old (by omega) old5
  have a5 : At H5 id sw w := a.aO (o5 id (by have := iv.dn id d1; omega)) (fun j q => o5 j (by have := iv.dn j (d2 j q); omega))
  refine aU f5 (f80 x id sw w (fT w s b) L D M H5 (n3 + 1) ix5 hw a5 d1 d2 (p9.refl w) rfl ov5 hc f5) fun v6 h6 n6 hn6 f6 ⟨e6, D', M', ix6, c6⟩ => ?_
  subst e6
  simp only [fgr, gE]
  exact .inr ⟨w, hw, hkey, c1, by omega, by omega, D', M', ix6, (Chg.of f5 (by omega) old5).trans c6⟩
def z32 : List UInt8 := List.replicate 32 0
theorem b25 : build env 25 [] = M.pure (.agg (z32.map u8)) := rfl
theorem f38 (x : Nat) (aP : List UInt8) (pn made : Int) (hl : aP.length = 32) (L : List Ver) (D M : Nat → Prop) (h : Hp) (n : Nat) (hs : Ix h n D M x L) (hc : L.length ≤ 900000) (hf : bB h n) :
    Wp (aQ env (aE env) 38 [.ptr x 0, .agg (aV aP pn), .int .i64 made]) h n fun v' h' n' =>
      ((∀ w ∈ L, eO w (key aP pn made) = 0 → w.c8 = 0) ∧ v' = .int .i64 210 ∧ Ix h' n' D M x L ∧ Chg h n D M h' n' D M) ∨
      (∃ w ∈ L, eO w (key aP pn made) = 0 ∧ w.c8 ≠ 0 ∧ v' = .int .i64 0 ∧ ∃ D' M', Ix h' n' D' M' x (kW (kV L w) (fT w 0 z32)) ∧ Chg h n D M h' n' D' M') := by
  have hs0 := hs
  obtain ⟨⟨S, s0, rS, perm⟩, rL, ok⟩ := hs
  have s00 := s0
  obtain ⟨vl, vs, xl, xs, iv, mx, ml, ms, mn⟩ := s00
  refine aW aU1 aK3 ?_
  simp only [ab4, Try.f38, Option.getD_some, List.replicate, Nat.reduceAdd, Nat.reduceSub, gE]
  refine cX (v := .agg (aV aP pn)) jJ rfl hf fun H2 r1 o1 f2 => ?_
  have old2 : Old h H2 n := fun j hj => by rw [o1 j (by omega)]
  simp only [fgr, hkr, gE]
  refine dJ (f73 x _ true H2 (n + 1) (iv.row.aO (old2 x iv.xn)) rfl) ?_
  simp only [fgr, gE]
  have hld : Rd (load env 28 (.ptr n 0)) H2 (n + 1) [n] (.agg (aV aP pn)) := Row.gY r1 jJ rfl (bW hl)
  rw [aH hld]
  simp only [hkr, gE]
  have s2 := s0.old (n' := n + 1) (by omega) old2
  refine aU f2 (f76 x aP pn made hl L S D M H2 _ s2 rL (by omega) f2) fun v3 h3 n3 hn3 f3 ⟨hh, o3⟩ => ?_
  have old3 : Old h h3 n := fun j hj => by rw [o3 j (by omega), old2 j hj]
  have ix3 : Ix h3 n3 D M x L := hs0.old (by omega) old3
  rcases hh with ⟨hno, e2⟩ | ⟨id, sw, w, hw, hkey, e2, a, d1, d2⟩
  · subst e2
    simp only [tyr, fgr, bor, bP, gR, bH, bU, equal, iF, fH, fI, gE]
    exact .inl ⟨fun w hw he => absurd he (hno w hw), ix3, .of f3 (by omega) old3⟩
  subst e2
  have uq : ∀ u ∈ L, eO u (key aP pn made) = 0 → u = w := fun u hu he => kE rL hu hw (by
    have := p9.eqr (d := u) hkey
    show eO u w = 0
    omega)
  have okw := ok w hw
  by_cases c1 : w.c8 = 0
  · simp only [tyr, fgr, bor, bP, gR, aR, bU, equal, iF, fH, fI, gE]
    rw [aH (dN a.row okw.1)]
    simp only [fgr, bor, bH, c1, gE]
    exact .inl ⟨fun u hu he => by rw [uq u hu he]; exact c1, ix3, .of f3 (by omega) old3⟩
  simp only [tyr, fgr, bor, bP, gR, aR, bU, equal, iF, fH, fI, gE]
  rw [aH (dN a.row okw.1)]
  simp only [fgr, bor, bH, c1, gE]
  rw [aH (fM a.row okw.1)]
  simp only [gE]
  rw [cC eR rfl]
  simp only [cel, gE]
  refine dF (v := .agg (aN w sw)) eR rfl (bR okw.1.h okw.1.b) (cU a.s.kind.2.1) f3 fun H4 r4 o4 f4 => ?_
  obtain ⟨e4, r4⟩ := r4
  simp only [tyr, fgr, aR, b25, gE]
  rw [dE (Row.write (v := .int .i64 0) r4 ti3 rfl (by show 37 + 1 ≤ (aN w sw).length; rw [bR okw.1.h okw.1.b]; decide) rfl)]
  simp only [tyr, cel, aR, gE]
  have w1 : bV (aN w sw) 37 [a9.int .i64 0] = aN { w with c8 := 0 } sw := qY okw.1.h 0
  rw [w1]
  rw [dE (Row.write (v := .agg (z32.map u8)) (aM _ _ _) nK rfl (by show 38 + 32 ≤ _; rw [bR (v := { w with c8 := 0 }) okw.1.h okw.1.b]; decide) (uB z32))]
  have w2 : bV (aN { w with c8 := 0 } sw) 38 (a9.agg (z32.map u8)).cells = aN (fT w 0 z32) sw := wS (w := { w with c8 := 0 }) okw.1.h okw.1.b z32 rfl
  rw [w2]
  simp only [fgr, gE]
  have f5 : bB (upd (upd H4 n3 (some (Blk.row (bI.l (aN { w with c8 := 0 } sw)) e4))) n3 (some (Blk.row (bI.l (aN (fT w 0 z32) sw)) e4))) (n3 + 1) := (f4.upd (by omega)).upd (by omega)
  obtain ⟨H5, hH5⟩ : ∃ H5, H5 = upd (upd H4 n3 (some (Blk.row (bI.l (aN { w with c8 := 0 } sw)) e4))) n3 (some (Blk.row (bI.l (aN (fT w 0 z32) sw)) e4)) := ⟨_, rfl⟩
  have o5 : ∀ j, j ≠ n3 → H5 j = h3 j := fun j hj => by rw [hH5, aK _ _ hj, aK _ _ hj, o4 j hj]
  have r5 : Row H5 n3 (aN (fT w 0 z32) sw) := by rw [hH5]; exact Row.new _ _ _ _
  rw [← hH5] at f5
  rw [← hH5]
  clear hH5
  have ov5 : (fT w 0 z32).Ok := ⟨okw.1.h, rfl⟩
  rw [aH (fM r5 ov5)]
  simp only [hkr, gE]
  have old5 : Old h H5 n := fun j hj => by rw [o5 j (by omega), old3 j hj]
  have ix5 : Ix H5 (n3 + 1) D M x L := hs0.old (by omega) old5
  have a5 : At H5 id sw w := a.aO (o5 id (by have := iv.dn id d1; omega)) (fun j q => o5 j (by have := iv.dn j (d2 j q); omega))
  refine aU f5 (f80 x id sw w (fT w 0 z32) L D M H5 (n3 + 1) ix5 hw a5 d1 d2 (p9.refl w) rfl ov5 hc f5) fun v6 h6 n6 hn6 f6 ⟨e6, D', M', ix6, c6⟩ => ?_
  subst e6
  simp only [fgr, gE]
  exact .inr ⟨w, hw, hkey, c1, D', M', ix6, (Chg.of f5 (by omega) old5).trans c6⟩
structure Vs (h : Hp) (D : Nat → Prop) (cells : List a9) (vs : List Ver) : Prop where
  len : cells.length = vs.length * 70
  at_ : ∀ (j : Nat) (hj : j < vs.length), ∃ sv, (cells.drop (j * 70)).take 70 = aN vs[j] sv ∧ Bytes h sv vs[j].aI ∧ vs[j].Ok ∧ ∀ i, aT sv = some i → D i
theorem Vs.nil (h : Hp) (D : Nat → Prop) : Vs h D [] [] := ⟨rfl, fun j hj => by simp at hj⟩
theorem Vs.mono {h h' : Hp} {D D' : Nat → Prop} {cells : List a9} {vs : List Ver} (p : Vs h D cells vs) (hd : ∀ j, D j → D' j) (hk : ∀ j, D j → h' j = h j) : Vs h' D' cells vs :=
  ⟨p.len, fun j hj => by
    obtain ⟨sv, e, b, o, d⟩ := p.at_ j hj
    exact ⟨sv, e, b.aO (fun i hi => hk i (d i hi)), o, fun i hi => hd i (d i hi)⟩⟩
theorem Vs.D8 {h : Hp} {D : Nat → Prop} {cells : List a9} {vs : List Ver} (p : Vs h D cells vs) {v : Ver} {sv : a9} (hb : Bytes h sv v.aI) (ho : v.Ok) (hd : ∀ i, aT sv = some i → D i) : Vs h D (cells ++ aN v sv) (vs ++ [v]) := by
  have hl := p.len
  have hv := bR (sv := sv) ho.h ho.b
  refine ⟨by simp [hl, hv]; omega, fun j hj => ?_⟩
  by_cases c : j < vs.length
  · obtain ⟨s2, e, b, o, d⟩ := p.at_ j c
    refine ⟨s2, ?_, ?_, ?_, d⟩
    · rw [List.drop_append_of_le_length (by omega), List.take_append_of_le_length (by rw [List.length_drop]; omega), e, List.getElem_append_left c]
    · rw [List.getElem_append_left c]; exact b
    · rw [List.getElem_append_left c]; exact o
  · have e : j = vs.length := by simp at hj; omega
    subst e
    refine ⟨sv, ?_, ?_, ?_, hd⟩
    · rw [← hl, List.drop_left, List.take_of_length_le (by omega)]; simp
    · simpa using hb
    · simpa using ho
theorem u43 : und env 43 = M.pure (.slice 31) := rfl
theorem V8 : sizeOf env 31 = M.pure 70 := rfl
theorem U5 {X : List a9} (hX : X.length = 70) : buildSlice env 43 1 [(0, .agg X)] = (newRow env 31 X).bind fun id => M.pure (.sl id 0 1 (some 1) 70) := by
  have e1 : fill (fun k => some (k * 70, 70)) (eS eQ.i.zero.cells 1) [(0, .agg X)] = some X := by
    have : eS eQ.i.zero.cells 1 = [] ++ eQ.i.zero.cells ++ [] := rfl
    rw [this, gN (off := 0) (sz := 70) (pre := []) (mid := eQ.i.zero.cells) (eV := []) (v := .agg X) (rest := []) rfl rfl rfl hX rfl]
    simp [fill, a9.cells]
  have e2 : buildSlice env 43 1 [(0, .agg X)] = (fS "buildSlice" (fill (fun k => some (k * 70, 70)) (eS eQ.i.zero.cells 1) [(0, .agg X)])).bind fun cs => (newRow env 31 cs).bind fun id => M.pure (.sl id 0 1 (some 1) 70) := rfl
  rw [e2, e1]
  rfl
def IsF (F : a9) (is : Ver → Bool) (h0 : Hp) (n0 : Nat) : Prop := ∀ (h : Hp) (n id : Nat) (sv : a9) (v : Ver), n0 ≤ n → Old h0 h n0 → AtN h n id sv v → bB h n → Wp (jH env (aE env) F [.ptr id 0]) h n fun v' h' n' => v' = .bool (is v) ∧ Old h h' n
theorem YP (Q : dG) (ks : List Kf) (F : a9) (is : Ver → Bool) (v : a9) (cnt : Nat) (xs : List a9) (vs : List Ver) (D : Nat → Prop) (h0 : Hp) (n0 : Nat) (hF : IsF F is h0 n0) (hc : cnt ≤ 1000000) (hv : Rds h0 1 v cnt xs) (hvn : ∀ j, aT v = some j → j < n0) (hp : Ps h0 D xs vs) (hD : ∀ j, D j → j < n0) (hsl : ∀ v ∈ vs, v.aI.length ≤ 1000000)
    (hT : ∀ (h : Hp) (n : Nat) (acc : a9) (cells : List a9) (x4 x7 x11 x16 : a9), Lst h 31 70 acc (vs.filter is).length cells → Vs h (fun j => n0 ≤ j ∧ j < n ∧ aT acc ≠ some j) cells (vs.filter is) → (∀ j, aT acc = some j → n0 ≤ j) → n0 ≤ n → bB h n → Old h0 h n0 →
      cT env 74 none Q ks (.exit 0) (v :: F :: a9.aA :: a9.aA :: x4 :: acc :: a9.aA :: x7 :: v :: .int .i64 (cnt : Nat) :: .int .i64 (cnt : Nat) :: x11 :: a9.aA :: a9.aA :: a9.aA :: a9.aA :: x16 :: a9.aA :: a9.aA :: a9.aA :: a9.aA :: a9.aA :: a9.aA :: a9.aA :: a9.aA :: a9.aA :: []) h n) :
    ∀ (m i : Nat) (h : Hp) (n : Nat) (acc : a9) (cells : List a9) (x4 x7 x11 x16 : a9), i + m = cnt → Lst h 31 70 acc ((vs.take i).filter is).length cells → Vs h (fun j => n0 ≤ j ∧ j < n ∧ aT acc ≠ some j) cells ((vs.take i).filter is) → (∀ j, aT acc = some j → n0 ≤ j) → n0 ≤ n → bB h n → Old h0 h n0 →
      Run env 74 none Q (.loop FX) ks (v :: F :: a9.aA :: a9.aA :: x4 :: acc :: a9.aA :: x7 :: v :: .int .i64 (cnt : Nat) :: .int .i64 (i : Nat) :: x11 :: a9.aA :: a9.aA :: a9.aA :: a9.aA :: x16 :: a9.aA :: a9.aA :: a9.aA :: a9.aA :: a9.aA :: a9.aA :: a9.aA :: a9.aA :: a9.aA :: []) h n := by
  have hcl : cnt = vs.length := by have := hv.length; have := hp.len; omega
  intro m
  induction m with
  | zero =>
    intro i h n acc cells x4 x7 x11 x16 hm ha hV hi hn hf ho
    have : i = cnt := by omega
    subst this
    rw [bT]
    have hcc : ¬ (((i : Nat) : Int) < ((i : Nat) : Int)) := by omega
    simp only [FX, bD, Try.f74, Option.getD_some, fgr, bor, List.getD_cons_zero, hcc, gE]
    rw [hcl, List.take_length] at ha hV
    exact hT h n acc cells _ _ _ _ ha hV hi hn hf ho
  | succ m ih =>
    intro i h n acc cells x4 x7 x11 x16 hm ha hV hi hn hf ho
    rw [bT]
    have hil : i < cnt := by omega
    have hcc : (((i : Nat) : Int) < ((cnt : Nat) : Int)) := by omega
    have hv' := hv.aO (h' := h) (fun j hj => ho j (hvn j hj))
    have hp' := hp.mono (D' := D) (fun _ q => q) (fun j hj => ho j (hD j hj))
    obtain ⟨id, sv, hx, a, d1, d2⟩ := hp'.get (j := i) (by omega)
    have hidx := hv'.idx (E := env) u95 qR (kk := .i64) (z := ((i : Nat) : Int)) (j := i) rfl hil (h' := h) (n' := n)
    have hld := hv'.load (E := env) iO rfl (k := i * 1) (n := n) (by rw [Nat.mul_one]; exact hx)
    have atn : AtN h n id sv (vs[i]'(by omega)) := ⟨a, by have := hD _ d1; omega, fun q hq => by have := hD _ (d2 q hq); omega⟩
    have w1 : IntKind.i64.wrap (((i : Nat) : Int) + 1) = ((i + 1 : Nat) : Int) := by rw [w64 (by omega) (by omega)]; omega
    have htk : vs.take (i + 1) = vs.take i ++ [vs[i]'(by omega)] := by rw [List.take_add_one, List.getElem?_eq_getElem (by omega)]; rfl
    simp only [FX, bD, Try.f74, Option.getD_some, fgr, bor, List.getD_cons_zero, hcc, gE]
    rw [aH hidx]
    simp only [gE]
    rw [aH hld]
    simp only [fgr, gE]
    refine aU hf (hF h n id sv _ hn ho atn hf) fun v1 h1 n1 hn1 f1 ⟨e1, o1⟩ => ?_
    subst e1
    have ho1 : Old h0 h1 n0 := fun q hq => (o1 q (by omega)).trans (ho q hq)
    have ha1 := ha.aO (h' := h1) (fun j q => o1 j (ha.dL hf q))
    have hV1 := hV.mono (h' := h1) (D' := fun j => n0 ≤ j ∧ j < n1 ∧ aT acc ≠ some j) (fun j q => ⟨q.1, by omega, q.2.2⟩) (fun j q => o1 j q.2.1)
    have at1 := atn.old hn1 o1
    cases hq : is (vs[i]'(by omega)) with
    | false =>
      simp only [fgr, bor, bZ, w1, gE]
      exact ih (i + 1) h1 n1 acc cells _ _ _ _ (by omega) (by rw [htk, List.filter_append]; simpa [hq] using ha1) (by rw [htk, List.filter_append]; simpa [hq] using hV1) hi (by omega) f1 ho1
    | true =>
      simp only [fgr, gE]
      rw [aH (fM at1.row at1.ok)]
      simp only [hkr, gE]
      refine aU f1 (f77 _ sv at1.ok h1 n1 at1.s at1.sn (hsl _ (List.getElem_mem _)) f1) fun v2 h2 n2 hn2 f2 ⟨s', e2, b2, i2, o2⟩ => ?_
      subst e2
      simp only [tyr, builtin, newRow, U5 (bR at1.ok.h at1.ok.b), gE]
      obtain ⟨H3, hH3⟩ : ∃ H3, H3 = upd h2 n2 (some (Blk.row (bI.l (aN (vs[i]'(by omega)) s')) 31)) := ⟨_, rfl⟩
      have f3 : bB H3 (n2 + 1) := by rw [hH3]; exact f2.new
      have o3 : ∀ j, j ≠ n2 → H3 j = h2 j := fun j hj => by rw [hH3, aK _ _ hj]
      have r3 : H3 n2 = some (Blk.row (bI.l (aN (vs[i]'(by omega)) s')) 31) := by rw [hH3, aM]
      rw [← hH3]
      clear hH3
      have o13 : Old h1 H3 n1 := fun j hj => by rw [o3 j (by omega), o2 j hj]
      have ha3 := ha1.aO (h' := H3) (fun j q => o13 j (ha1.dL f1 q))
      have hlen : ((vs.take i).filter is).length ≤ 1000000 := by
        have h1 := List.length_filter_le is (vs.take i)
        have h2 : (vs.take i).length ≤ vs.length := by rw [List.length_take]; omega
        omega
      refine fE (i := eQ.i) (e := 31) ha3 (nO (cnt := 1) r3 (by rw [bR at1.ok.h at1.ok.b]; rfl)) u43 u43 eR (cU b2.kind.2.1) (by decide) (by show 2 * (_ + 1) * 128 ≤ _; omega) (by omega) f3 ?_
      intro acc' h4 n4 hn4 f4 l4 i4 o4
      simp only [fgr, bor, bZ, w1, gE]
      have i4' : ∀ j, aT acc' = some j → n0 ≤ j := fun j q => by
        rcases i4 with w | ⟨w, _⟩
        · rw [w] at q; exact hi j q
        · rw [w] at q; injection q with q; omega
      have accl : ∀ j, aT acc = some j → j < n1 := fun j q => ha1.dL f1 q
      have keep4 : ∀ j, j < n2 + 1 → aT acc ≠ some j → h4 j = H3 j := fun j hj hn => o4 j hj hn
      have hne : ∀ j, j < n2 + 1 → aT acc ≠ some j → aT acc' ≠ some j := fun j hj hn q => by
        rcases i4 with w | ⟨w, _⟩
        · rw [w] at q; exact hn q
        · rw [w] at q; injection q with q; omega
      have hV4 := hV1.mono (h' := h4) (D' := fun j => n0 ≤ j ∧ j < n4 ∧ aT acc' ≠ some j) (fun j q => ⟨q.1, by omega, hne j (by omega) q.2.2⟩) (fun j q => by rw [keep4 j (by omega) q.2.2, o13 j q.2.1])
      have an2 : ∀ j, n1 ≤ j → aT acc ≠ some j := fun j hj q => by have := accl j q; omega
      have hV5 := hV4.D8 (b2.aO (h' := h4) fun j q => by rw [keep4 j (by have := i2 j q; omega) (an2 j (i2 j q).1), o3 j (by have := i2 j q; omega)]) at1.ok (fun j q => ⟨by have := i2 j q; omega, by have := i2 j q; omega, hne j (by have := i2 j q; omega) (an2 j (i2 j q).1)⟩)
      have hfl : (vs.take (i + 1)).filter is = (vs.take i).filter is ++ [vs[i]'(by omega)] := by rw [htk, List.filter_append]; simp [hq]
      have ho4 : Old h0 h4 n0 := fun j hj => by rw [keep4 j (by omega) (fun q => by have := hi j q; omega), o13 j (by omega)]; exact ho1 j hj
      exact ih (i + 1) h4 n4 acc' _ _ _ _ _ (by omega) (by rw [hfl, List.length_append]; exact l4) (by rw [hfl]; exact hV5) i4' (by omega) f4 ho4
def VL (h : Hp) (n0 n : Nat) (v : a9) (vs : List Ver) : Prop := ∃ cells, Lst h 31 70 v vs.length cells ∧ Vs h (fun j => n0 ≤ j ∧ j < n ∧ aT v ≠ some j) cells vs ∧ ∀ j, aT v = some j → n0 ≤ j ∧ j < n
theorem f74 (F : a9) (is : Ver → Bool) (v : a9) (cnt : Nat) (xs : List a9) (vs : List Ver) (D : Nat → Prop) (h : Hp) (n : Nat) (hF : IsF F is h n) (hc : cnt ≤ 1000000) (hv : Rds h 1 v cnt xs) (hvn : ∀ j, aT v = some j → j < n) (hp : Ps h D xs vs) (hD : ∀ j, D j → j < n) (hsl : ∀ v ∈ vs, v.aI.length ≤ 1000000) (hf : bB h n) :
    Wp (aQ env (aE env) 74 [v, F]) h n fun v' h' n' => VL h' n n' v' (vs.filter is) ∧ Old h h' n := by
  refine aW aS5 aI7 ?_
  simp only [ZY, Try.f74, Option.getD_some, List.replicate, fgr, builtin, Nat.reduceAdd, Nat.reduceSub, hv.cA u95, gE]
  refine YP _ _ F is v cnt xs vs D h n hF hc hv hvn hp hD hsl ?_ cnt 0 h n .aL [] _ _ _ _ (by omega) (by rw [List.take_zero]; exact .nil) (by rw [List.take_zero]; exact Vs.nil _ _) (fun j q => by cases q) (Nat.le_refl _) hf (Old.refl _ _)
  intro h1 n1 acc cells x4 x7 x11 x16 hl hV hi hn hf1 ho
  simp only [fgr, gE]
  exact ⟨⟨cells, hl, hV, fun j q => ⟨hi j q, hl.dL hf1 q⟩⟩, ho⟩
theorem f83 (id t : Nat) (sv : a9) (v : Ver) (z : Int) (h : Hp) (n : Nat) (ha : AtN h n id sv v) (ht : Row h t [.int .i64 z]) (hf : bB h n) :
    Wp (aQ env (aE env) 83 [.ptr id 0, .ptr t 0]) h n fun v' h' n' => v' = .bool (cI v z) ∧ Old h h' n := by
  refine aW aR6 aH8 ?_
  simp only [ZP, Try.f83, Option.getD_some, List.replicate, fgr, Nat.reduceAdd, Nat.reduceSub, gE]
  refine c9 ⟨rfl, ?_⟩
  simp only [Nat.reduceAdd, gE]
  rw [aZ (fM ha.row ha.ok)]
  simp only [Nat.reduceAdd, gE]
  rw [aZ (ht.one (off := 0) rfl ti3 rfl)]
  simp only [hkr, Nat.reduceAdd, gE]
  refine dC hf (f82 v sv ha.ok z h n hf) fun v5 h5 n5 r5 w5 hn5 f5 ⟨e1, o1⟩ => ?_
  subst e1
  simp only [fgr, Nat.reduceAdd, gE]
  refine ⟨(by (try simp (disch := first | assumption | omega) only [cM, gF]); repeat' (first | rfl | exact (Bool.or_eq_true _ _).mpr (.inr rfl) | refine (Bool.and_eq_true _ _).mpr ⟨?_, ?_⟩)), ?_⟩
  exact o1
theorem JV (h0 : Hp) (n0 : Nat) : IsF (.fn (.func 75) [] []) (fun _ => true) h0 n0 := by
  intro h n id sv v hn ho ha hf
  simp only [hkr, dV, List.nil_append, List.append_nil]
  exact cN (f75 h n _) fun v' h' n' ⟨e1, e2, e3⟩ => ⟨e1, by subst e2; exact Old.refl _ _⟩
theorem TA (t : Nat) (z : Int) (h0 : Hp) (n0 : Nat) (ht : Row h0 t [.int .i64 z]) (htn : t < n0) : IsF (.fn (.func 83) [] [.ptr t 0]) (fun v => cI v z) h0 n0 := by
  intro h n id sv v hn ho ha hf
  simp only [hkr, dV, List.cons_append, List.nil_append]
  exact f83 id t sv v z h n ha (ht.aO (ho t htn)) hf
theorem f32 (x : Nat) (L : List Ver) (D M : Nat → Prop) (h : Hp) (n : Nat) (hs : Ix h n D M x L) (hc : L.length ≤ 1000000) (hf : bB h n) :
    Wp (aQ env (aE env) 32 [.ptr x 0]) h n fun v' h' n' => VL h' n n' v' L ∧ Old h h' n := by
  obtain ⟨⟨S, s0, rS, perm⟩, rL, ok⟩ := hs
  obtain ⟨vl, vs, xl, xs, iv, mx, ml, ms, mn⟩ := s0
  refine aW aU6 aK8 ?_
  simp only [ab9, Try.f32, Option.getD_some, List.replicate, fgr, hkr, Nat.reduceSub, gE]
  refine dJ (f73 x _ true h n iv.row rfl) ?_
  simp only [tyr, fgr, aR, gE]
  rw [aH (iv.row.one (off := 1) rfl oQ rfl)]
  simp only [hkr, gE]
  refine aU hf (f74 _ _ vl L.length xl L D h n (JV h n) hc iv.l.rds (fun j q => (mn j (ml j q)).1) iv.lp iv.dn (fun v hv => (ok v hv).2) hf) fun v1 h1 n1 hn1 f1 ⟨l1, o1⟩ => ?_
  simp only [fgr, gE]
  rw [show L.filter (fun _ => true) = L from List.filter_eq_self.2 fun _ _ => rfl] at l1
  exact ⟨l1, o1⟩
theorem f39 (x : Nat) (z : Int) (L : List Ver) (D M : Nat → Prop) (h : Hp) (n : Nat) (hs : Ix h n D M x L) (hc : L.length ≤ 1000000) (hf : bB h n) :
    Wp (aQ env (aE env) 39 [.ptr x 0, .int .i64 z]) h n fun v' h' n' => VL h' n n' v' (L.filter fun v => cI v z) ∧ Old h h' n := by
  obtain ⟨⟨S, s0, rS, perm⟩, rL, ok⟩ := hs
  obtain ⟨vl, vs, xl, xs, iv, mx, ml, ms, mn⟩ := s0
  refine aW aU0 aK2 ?_
  simp only [ab3, Try.f39, Option.getD_some, List.replicate, Nat.reduceAdd, Nat.reduceSub, gE]
  refine cX (v := .int .i64 z) ti3 rfl hf fun H1 r1 o1 f1 => ?_
  have old1 : Old h H1 n := fun j hj => o1 j (by omega)
  simp only [fgr, hkr, gE]
  have row1 := iv.row.aO (old1 x iv.xn)
  refine dJ (f73 x _ true H1 (n + 1) row1 rfl) ?_
  simp only [tyr, fgr, aR, gE]
  rw [aH (row1.one (off := 1) rfl oQ rfl)]
  simp only [hkr, gE]
  refine aU f1 (f74 _ _ vl L.length xl L D H1 (n + 1) (TA n z H1 (n + 1) r1 (by omega)) hc (iv.l.aO (fun j q => old1 j (mn j (ml j q)).1)).rds (fun j q => by have := (mn j (ml j q)).1; omega) (iv.lp.mono (fun j q => q) (fun j q => old1 j (iv.dn j q))) (fun j q => by have := iv.dn j q; omega) (fun v hv => (ok v hv).2) f1) fun v2 h2 n2 hn2 f2 ⟨l2, o2⟩ => ?_
  simp only [fgr, gE]
  obtain ⟨cells, a1, a2, a3⟩ := l2
  exact ⟨⟨cells, a1, a2.mono (fun j q => ⟨by have := q.1; omega, q.2⟩) (fun j q => rfl), fun j q => by have := a3 j q; omega⟩, fun j hj => by rw [o2 j (by omega), old1 j hj]⟩
def yes (b : Bool) (v : a9) : Prop := v = .fQ b ∨ v = .bool b
theorem T3 (Q : dG) (ks : List Kf) (Y : a9) (v : a9) (cnt p : Nat) (xs : List a9) (vs : List Ver) (D : Nat → Prop) (P : Nat → Hp → Nat → Prop) (R : Hp → Nat → Prop) (y1 y2 : a9) (hc : cnt ≤ 1000000) (hpc : p ≤ cnt)
    (hP : ∀ k h n, P k h n → Rds h 1 v cnt xs ∧ Ps h D xs vs ∧ bB h n)
    (hY : ∀ (k : Nat) (hk : k < vs.length) (id : Nat) (sv : a9) (h : Hp) (n : Nat), p ≤ k → P k h n → xs[k]? = some (.ptr id 0) → At h id sv vs[k] → D id → (∀ j, aT sv = some j → D j) → Wp (jH env (aE env) Y [.ptr id 0]) h n fun v' h' n' => (yes true v' ∧ P (k + 1) h' n') ∨ (yes false v' ∧ R h' n'))
    (hE : ∀ (h : Hp) (n : Nat) (tm : List a9), P cnt h n → cT env 109 none Q ks (.exit 0) tm h n)
    (hR : ∀ (h : Hp) (n : Nat) (tm : List a9), R h n → cT env 109 none Q ks .ret tm h n) :
    ∀ (m i : Nat) (h : Hp) (n : Nat) (x4 x7 x22 x28 : a9), p + i + m = cnt → P (p + i) h n → Run env 109 none Q (.loop C0) ks (Y :: y1 :: y2 :: a9.aA :: x4 :: a9.aA :: a9.aA :: x7 :: a9.aA :: a9.aA :: a9.aA :: a9.aA :: a9.aA :: a9.aA :: a9.aA :: a9.aA :: a9.aA :: a9.aA :: a9.aA :: jK p cnt v :: .int .i64 (cnt - p : Nat) :: .int .i64 (i : Nat) :: x22 :: a9.aA :: a9.aA :: a9.aA :: a9.aA :: a9.aA :: x28 :: a9.aA :: []) h n := by
  intro m
  induction m with
  | zero =>
    intro i h n x4 x7 x22 x28 hm hp
    rw [bT]
    have hcc : ¬ (((i : Nat) : Int) < ((cnt - p : Nat) : Int)) := by omega
    simp only [C0, bD, Try.f109, Option.getD_some, fgr, bor, List.getD_cons_zero, hcc, gE]
    exact hE h n _ (by rw [show cnt = p + i by omega]; exact hp)
  | succ m ih =>
    intro i h n x4 x7 x22 x28 hm hp
    rw [bT]
    obtain ⟨hv, hps, hf⟩ := hP _ _ _ hp
    have hcl : cnt = vs.length := by have := hv.length; have := hps.len; omega
    have hil : i < cnt - p := by omega
    have hcc : (((i : Nat) : Int) < ((cnt - p : Nat) : Int)) := by omega
    have hsub := hv.sub (lo := p) (hi := cnt) hpc (Nat.le_refl _)
    obtain ⟨id, sv, hx, a, d1, d2⟩ := hps.get (j := p + i) (by omega)
    have hidx := hsub.idx (E := env) u95 qR (kk := .i64) (z := ((i : Nat) : Int)) (j := i) rfl hil (h' := h) (n' := n)
    have hld := hsub.load (E := env) iO rfl (k := i * 1) (n := n) (x := .ptr id 0) (by
      rw [Nat.mul_one, Nat.mul_one, Nat.mul_one, List.getElem?_take, if_pos hil, List.getElem?_drop]; exact hx)
    have w1 : IntKind.i64.wrap (((i : Nat) : Int) + 1) = ((i + 1 : Nat) : Int) := by rw [w64 (by omega) (by omega)]; omega
    simp only [C0, bD, Try.f109, Option.getD_some, fgr, bor, List.getD_cons_zero, hcc, gE]
    rw [aH hidx]
    simp only [gE]
    rw [aH hld]
    simp only [fgr, gE]
    refine aU hf (hY (p + i) (by omega) id sv h n (by omega) hp hx a d1 d2) fun v1 h1 n1 hn1 f1 hh => ?_
    rcases hh with ⟨e1 | e1, hp1⟩ | ⟨e1 | e1, hr1⟩
    · subst e1
      simp only [fgr, bor, bZ, unOp, w1, gE]
      exact ih (i + 1) h1 n1 _ _ _ _ (by omega) hp1
    · subst e1
      simp only [fgr, bor, bZ, unOp, w1, gE]
      exact ih (i + 1) h1 n1 _ _ _ _ (by omega) hp1
    · subst e1
      simp only [fgr, unOp, gE]
      exact hR h1 n1 _ hr1
    · subst e1
      simp only [fgr, unOp, gE]
      exact hR h1 n1 _ hr1
theorem f109 (o : Bool) (Y : a9) (b1 b2 x off : Nat) (cs : List a9) (v : a9) (t : Nat) (st : a9) (tv : Ver) (cnt : Nat) (xs : List a9) (vs : List Ver) (D : Nat → Prop) (P : Nat → Hp → Nat → Prop) (R : Hp → Nat → Prop) (h : Hp) (n : Nat)
    (hb1 : Row h b1 [.ptr x off]) (hb2 : Row h b2 [.ptr t 0]) (hr : Row h x cs) (hc0 : cs[off]? = some v) (hc1 : cs[off + 1]? = some (fo o)) (hc : cnt ≤ 1000000) (hv : Rds h 1 v cnt xs) (hro : vN v) (hvn : ∀ j, aT v = some j → j < n) (hp : Ps h D xs vs) (hD : ∀ j, D j → j < n) (ht : AtN h n t st tv) (hmono : KV o vs tv) (hf : bB h n)
    (hn1 : b1 < n) (hxn : x < n)
    (hP : ∀ k h n, P k h n → Rds h 1 v cnt xs ∧ Ps h D xs vs ∧ bB h n)
    (hS : ∀ p h' n', Pos o vs tv p → n ≤ n' → bB h' n' → Old h h' n → P p h' n')
    (hY : ∀ (p k : Nat) (hk : k < vs.length) (id : Nat) (sv : a9) (h : Hp) (n : Nat), Pos o vs tv p → p ≤ k → P k h n → xs[k]? = some (.ptr id 0) → At h id sv vs[k] → D id → (∀ j, aT sv = some j → D j) → Wp (jH env (aE env) Y [.ptr id 0]) h n fun v' h' n' => (yes true v' ∧ P (k + 1) h' n') ∨ (yes false v' ∧ R h' n')) :
    Wp (aQ env (aE env) 109 [Y, .ptr b1 0, .ptr b2 0]) h n fun v' h' n' => v' = .tup [] ∧ (P cnt h' n' ∨ R h' n') := by
  have hcl : cnt = vs.length := by have := hv.length; have := hp.len; omega
  refine aW av7 aq8 ?_
  simp only [OX, Try.f109, Option.getD_some, List.replicate, Nat.reduceAdd, Nat.reduceSub, gE]
  rw [aH (hb1.one (off := 0) rfl LY rfl)]
  simp only [gE]
  rw [aH (hb2.one (off := 0) rfl iO rfl)]
  simp only [hkr, gE]
  refine aU hf (f103 o x off cs v t st tv cnt xs vs D h n hr hc0 hc1 (by omega) hv hvn hp hD ht hmono hf) fun v1 h1 n1 hn1' f1 ⟨p, hpos, e1, o1⟩ => ?_
  subst e1
  have hpc : p ≤ cnt := by have := hpos.le; omega
  have hv1 := hv.aO (h' := h1) (fun j q => o1 j (hvn j q))
  simp only [fgr, gE]
  rw [aH ((hb1.aO (o1 b1 hn1)).one (off := 0) rfl LY rfl)]
  simp only [tyr, aR, gE]
  rw [aH ((hr.aO (o1 x hxn)).one hc0 oQ rfl)]
  simp only [opt, gE]
  rw [aH (hv1.HN u95 qR rfl hpc)]
  have hsub := hv1.sub (lo := p) (hi := cnt) hpc (Nat.le_refl _)
  simp only [fgr, builtin, hsub.cA u95, gE]
  refine T3 _ _ Y v cnt p xs vs D P R _ _ hc hpc hP (fun k hk id sv h n => hY p k hk id sv h n hpos) ?_ ?_ (cnt - p) 0 h1 n1 _ _ _ _ (by omega) (hS p h1 n1 hpos (by omega) f1 o1)
  · intro h2 n2 tm hp2
    simp only [bK, true_and]
    exact .inl hp2
  · intro h2 n2 tm hr2
    simp only [bK, true_and]
    exact .inr hr2
theorem f88 (x off t : Nat) (h : Hp) (n : Nat) : Wp (aQ env (aE env) 88 [.ptr x off, .ptr t 0]) h n fun v' h' n' => v' = .fn (.func 109) [] [.ptr n 0, .ptr (n + 1) 0] ∧ h' = upd (upd h n (some (.row (.l [.ptr x off]) 156))) (n + 1) (some (.row (.l [.ptr t 0]) 128)) ∧ n' = n + 1 + 1 := by
  refine aW aR2 aH4 ?_
  simp only [ZL, Try.f88, Option.getD_some, List.replicate, tyr, fgr, cel, alloc, newRow, Nat.reduceAdd, Nat.reduceSub, gE]
theorem f81 (x : Nat) (aP : List UInt8) (pn : Int) (h : Hp) (n : Nat) : Wp (aQ env (aE env) 81 [.ptr x 0, .agg (aV aP pn)]) h n fun v' h' n' => v' = .fn (.func 106) [] [.ptr n 0, .ptr (n + 1) 0] ∧ h' = upd (upd h n (some (.row (.l [.ptr x 0]) 56))) (n + 1) (some (.row (.l (aV aP pn)) 28)) ∧ n' = n + 1 + 1 := by
  refine aW aR8 aI0 ?_
  simp only [ZR, Try.f81, Option.getD_some, List.replicate, tyr, fgr, cel, alloc, newRow, Nat.reduceAdd, Nat.reduceSub, gE]
theorem nG {α : Type} {f : α → M Bool} {g : α → Bool} : ∀ (l : List α), (∀ x ∈ l, f x = M.pure (g x)) → vY f l = M.pure (l.all g)
  | [], _ => rfl
  | x :: l, h => by
    simp only [vY, h x (List.mem_cons_self), aD, nG l fun y hy => h y (List.mem_cons_of_mem _ hy), List.all_cons]
theorem xJ {a : List UInt8} {i : Nat} (hi : i < a.length) : part env 5 (a.map u8) i = M.pure (u8 a[i]) := by
  simp only [part, ti5, aD, kS, List.getElem?_map, List.getElem?_eq_getElem hi, Option.map_some, fS]
theorem eq5 (d : Nat) (x y : UInt8) : equal env (d + 1) 5 (u8 x) (u8 y) = M.pure (x == y) := by
  have : ((x.toNat : Int) == (y.toNat : Int)) = (x == y) := by
    by_cases e : x = y
    · subst e; simp
    · have h2 : ¬ ((x.toNat : Int) = (y.toNat : Int)) := fun q => e (UInt8.toNat_inj.1 (by omega))
      rw [beq_eq_false_iff_ne.2 h2, beq_eq_false_iff_ne.2 e]
  simp only [equal, u8, und, ti5, aD, decide_true]
  rw [this]
theorem PD (d : Nat) (a b : List UInt8) (ha : a.length = 32) (hb : b.length = 32) : equal env (d + 1 + 1) 25 (.agg (a.map u8)) (.agg (b.map u8)) = M.pure (decide (a = b)) := by
  have hq : zL env env.eqs 25 = true := rfl
  have h1 : equal env (d + 1 + 1) 25 (.agg (a.map u8)) (.agg (b.map u8)) = vY (fun i => (part env 5 (a.map u8) (i * 1)).bind fun x => (part env 5 (b.map u8) (i * 1)).bind fun y => equal env (d + 1) 5 x y) (List.range 32) := by
    rw [equal]
    · simp only [und, nK, aD, hq, gR, sizeOf, ti5]
    all_goals (intro k n h; cases h)
  rw [h1, nG (g := fun i => (a.getD i 0 == b.getD i 0)) _ fun i hi => ?_]
  · congr 1
    rw [Bool.eq_iff_iff, List.all_eq_true, decide_eq_true_iff]
    constructor
    · intro h
      apply List.ext_getElem (by omega)
      intro i h1 h2
      have := h i (List.mem_range.2 (by omega))
      rw [List.getD_eq_getElem?_getD, List.getD_eq_getElem?_getD, List.getElem?_eq_getElem h1, List.getElem?_eq_getElem h2] at this
      simpa using this
    · rintro rfl i _
      simp
  · have hi := List.mem_range.1 hi
    rw [Nat.mul_one, xJ (by omega), aD, xJ (by omega), aD, eq5]
    rw [List.getD_eq_getElem?_getD, List.getD_eq_getElem?_getD, List.getElem?_eq_getElem (by omega), List.getElem?_eq_getElem (by omega)]
    rfl
theorem TR (d : Nat) (h1 h2 : List UInt8) (n1 n2 : Int) (l1 : h1.length = 32) (l2 : h2.length = 32) : equal env (d + 1 + 1 + 1) 28 (.agg (aV h1 n1)) (.agg (aV h2 n2)) = M.pure (decide (h1 = h2) && (n1 == n2)) := by
  have hq : zL env env.eqs 28 = true := rfl
  have p0 : ∀ (hh : List UInt8) (nn : Int), hh.length = 32 → part env 25 (aV hh nn) 0 = M.pure (.agg (hh.map u8)) := fun hh nn hl => by
    simp only [part, nK, aD, kS, List.drop_zero]
    rw [show (aV hh nn).take 32 = hh.map u8 by unfold aV; rw [List.take_append_of_le_length (by simp [hl]), List.take_of_length_le (by simp [hl])]]
  have p1 : ∀ (hh : List UInt8) (nn : Int), hh.length = 32 → part env 26 (aV hh nn) 32 = M.pure (.int .u32 nn) := fun hh nn hl => by
    simp only [part, uG, aD, kS, kG hl, fS]
  have p2 : equal env (d + 1 + 1) 26 (.int .u32 n1) (.int .u32 n2) = M.pure (n1 == n2) := by
    simp only [equal, und, uG, aD, decide_true]
  rw [equal]
  · simp only [und, jJ, aD, hq, gR]
    simp only [vY, show decide ("Tx" = "_") = false from rfl, show decide ("N" = "_") = false from rfl, p0 h1 n1 l1, p0 h2 n2 l2, p1 h1 n1 l1, p1 h2 n2 l2, aD, PD d h1 h2 l1 l2, p2, Bool.and_true]
  all_goals (intro k n h; cases h)
theorem am5 (h1 h2 : List UInt8) (n1 n2 : Int) (l1 : h1.length = 32) (l2 : h2.length = 32) : binOp env .neq 28 (.agg (aV h1 n1)) (.agg (aV h2 n2)) = M.pure (.bool (!(decide (h1 = h2) && (n1 == n2)))) := by
  have e := TR 97 h1 h2 n1 n2 l1 l2
  show bP env .neq 28 (.agg (aV h1 n1)) (.agg (aV h2 n2)) = _
  unfold bP
  simp only
  unfold bU
  rw [e, aD]
noncomputable def CR (tm : List a9) : m9 := { state := .ready, pending := none, fn := 106, tmps := tm, params := [14], assign := HT, body := HS }
def same (aP : List UInt8) (pn : Int) (v : Ver) : Bool := decide (v.aP = aP) && (v.pn == pn)
def aY2 (aP : List UInt8) (pn : Int) (L : List Ver) (P : Nat → Nat → Hp → Nat → Prop) (R : Nat → Hp → Nat → Prop) (n0 : Nat) (h : Hp) (n : Nat) : Prop :=
  ∃ nS, n0 ≤ nS ∧ ((∃ k, pos false L (key aP pn 0) ≤ k ∧ P nS k h n ∧ ∀ hk : k < L.length, same aP pn L[k] = false) ∨ R nS h n)
set_option maxHeartbeats 4000000 in
theorem f106 (Y : a9) (c1 c2 x : Nat) (aP : List UInt8) (pn : Int) (hl : aP.length = 32) (L S : List Ver) (D : Nat → Prop) (P : Nat → Nat → Hp → Nat → Prop) (R : Nat → Hp → Nat → Prop) (vl vs : a9) (xl xs : List a9) (h : Hp) (n : Nat)
    (iv : IxV h n D x vl vs xl xs L S) (mn : ∀ j, aT vl = some j → j < n) (rL : cP false L) (hc : L.length ≤ 1000000)
    (hY1 : Y.cells = [Y] ∧ bC Y = true ∧ dA Y = false) (hc1 : Row h c1 [.ptr x 0]) (hc2 : Row h c2 (aV aP pn)) (hn1 : c1 < n) (hn2 : c2 < n) (hf : bB h n)
    (hP : ∀ nS k h n, P nS k h n → Rds h 1 vl L.length xl ∧ Ps h D xl L ∧ bB h n)
    (hS : ∀ h' nS, n ≤ nS → bB h' nS → Old h h' n → P nS (pos false L (key aP pn 0)) h' nS)
    (hst : ∀ nS k h1 n1 i b, n ≤ i → i < nS → P nS k h1 n1 → P nS k (upd h1 i b) n1)
    (hsr : ∀ nS h1 n1 i b, n ≤ i → i < nS → R nS h1 n1 → R nS (upd h1 i b) n1)
    (hY : ∀ (nS k : Nat) (hk : k < L.length) (id : Nat) (sv : a9) (h1 : Hp) (n1 : Nat), n ≤ nS → pos false L (key aP pn 0) ≤ k → P nS k h1 n1 → At h1 id sv L[k] → D id → (∀ j, aT sv = some j → D j) → same aP pn L[k] = true →
      Wp (jH env (aE env) Y [.ptr id 0]) h1 n1 fun v' h' n' => ((yes true v' ∧ P nS (k + 1) h' n') ∨ (yes false v' ∧ R nS h' n')) ∧ (∀ j, n ≤ j → j < nS → h' j = h1 j) ∧ h' c2 = h1 c2) :
    Wp (aQ env (aE env) 106 [Y, .ptr c1 0, .ptr c2 0]) h n fun v' h' n' => v' = .tup [] ∧ aY2 aP pn L P R n h' n' := by
  refine aW aw0 ar1 ?_
  simp only [P0, Try.f106, Option.getD_some, List.replicate, Nat.reduceAdd, Nat.reduceSub, gE]
  refine cX (v := Y) M3 hY1.2.2 hf fun H1 r1 o1 f1 => ?_
  rw [hY1.1] at r1
  have old1 : Old h H1 n := fun j hj => o1 j (by omega)
  simp only [fgr, gE]
  rw [aH ((hc1.aO (old1 c1 hn1)).one (off := 0) rfl sL rfl)]
  simp only [hkr, gE]
  refine dJ (f73 x _ true H1 (n + 1) (iv.row.aO (old1 x iv.xn)) rfl) ?_
  simp only [bK, fgr, opd, bQ, put, nth, aJ, Bool.not_true]
  refine c9 ⟨rfl, ?_⟩
  simp only [gE]
  rw [aZ ((hc1.aO (old1 c1 hn1)).one (off := 0) rfl sL rfl)]
  simp only [tyr, aR, Nat.reduceAdd, gE]
  have hld : Rd (load env 28 (.ptr c2 0)) H1 (n + 1) [c2] (.agg (aV aP pn)) := Row.gY (hc2.aO (old1 c2 hn2)) jJ rfl (bW hl)
  rw [aZ hld]
  have b31 : build env 31 [(0, .agg (aV aP pn))] = M.pure (.agg (aN (key aP pn 0) .aL)) := by
    have h1 : (a9.agg (aV aP pn)).cells.length = 33 := bW hl
    have e1 : ∀ pl : Nat → Option (Nat × Nat), pl 0 = some (0, 33) → fill pl eQ.i.zero.cells [(0, .agg (aV aP pn))] = some (aN (key aP pn 0) .aL) := fun pl p0 => by
      rw [z31, gN p0 rfl rfl h1 rfl, List.nil_append]
      simp only [fill]
      congr 1
    have e2 : build env 31 [(0, .agg (aV aP pn))] = (fS "build" (fill ([(0, 33), (33, 1), (34, 1), (35, 1), (36, 1), (37, 1), (38, 32)][·]?) eQ.i.zero.cells [(0, .agg (aV aP pn))])).bind fun cs => M.pure (.agg cs) := rfl
    rw [e2, e1 _ rfl]
    rfl
  simp only [cel, alloc, Nat.reduceAdd, b31, gE]
  refine kL (xs := aN (key aP pn 0) .aL) eR f1 fun H2 r2 o2 f2 => ?_
  have old2 : Old h H2 n := fun j hj => by rw [o2 j (by omega), old1 j hj]
  simp only [hkr, Nat.reduceAdd, gE]
  refine dC f2 (f88 x 1 (n + 1) H2 (n + 1 + 1)) fun v3 h3 n3 r3 w3 hn3 f3 ⟨e3, eh3, en3⟩ => ?_
  subst e3; subst en3
  simp only [oD, bK, fgr, bQ, put, aJ, Nat.reduceAdd]
  refine ⟨(by (try simp (disch := first | assumption | omega) only [cM, gF]); repeat' (first | rfl | exact (Bool.or_eq_true _ _).mpr (.inr rfl) | refine (Bool.and_eq_true _ _).mpr ⟨?_, ?_⟩)), ?_⟩
  have g0 : Row h3 n [Y] := by rw [eh3]; exact ((r1.aO (o2 n (by omega))).upd (by omega)).upd (by omega)
  have g1 : h3 (n + 1) = some (.row (.l (aN (key aP pn 0) .aL)) 31) := by rw [eh3, aK _ _ (by omega), aK _ _ (by omega)]; exact r2
  have g2 : Row h3 (n + 1 + 1) [.ptr x 1] := by rw [eh3]; exact (Row.new _ _ _ _).upd (by omega)
  have g3 : Row h3 (n + 1 + 1 + 1) [.ptr (n + 1) 0] := by rw [eh3]; exact Row.new _ _ _ _
  have old3 : Old h h3 n := fun j hj => by rw [eh3, aK _ _ (by omega), aK _ _ (by omega), old2 j hj]
  clear eh3
  refine mT (g := 109) (first := []) (cap := [.ptr (n + 1 + 1) 0, .ptr (n + 1 + 1 + 1) 0]) rfl rfl ?_
  let TM : List a9 := (Y :: .ptr c1 0 :: .ptr c2 0 :: .ptr n 0 :: undef :: a9.aA :: .bool false :: a9.aA :: a9.aA :: a9.aA :: a9.aA :: a9.aA :: a9.aA :: .fn (.func 109) [] [.ptr (n + 1 + 1) 0, .ptr (n + 1 + 1 + 1) 0] :: undef :: a9.aA :: a9.aA :: a9.aA :: a9.aA :: a9.aA :: a9.aA :: a9.aA :: a9.aA :: a9.aA :: a9.aA :: a9.aA :: undef :: [])
  obtain ⟨H4, hH4⟩ : ∃ H4, H4 = upd h3 (n + 1 + 1 + 1 + 1) (some (Blk.loop (CR TM))) := ⟨_, rfl⟩
  have f4 : bB H4 (n + 1 + 1 + 1 + 1 + 1) := by rw [hH4]; exact f3.new
  have o4 : ∀ j, j ≠ n + 1 + 1 + 1 + 1 → H4 j = h3 j := fun j hj => by rw [hH4, aK _ _ hj]
  have r4 : H4 (n + 1 + 1 + 1 + 1) = some (Blk.loop (CR TM)) := by rw [hH4, aM]
  have old4 : Old h H4 n := fun j hj => by rw [o4 j (by omega), old3 j hj]
  show Wp (bM env (aE env) 109 [a9.fn (Fn.yield (n + 1 + 1 + 1 + 1)) [] [], a9.ptr (n + 1 + 1) 0, a9.ptr (n + 1 + 1 + 1) 0]) (upd h3 (n + 1 + 1 + 1 + 1) (some (Blk.loop (CR TM)))) (n + 1 + 1 + 1 + 1 + 1) _
  rw [ON, ← hH4]
  clear hH4
  have hl0 := iv.l.aO (h' := H4) (fun j q => old4 j (mn j q))
  have hp0 := iv.lp.mono (D' := D) (fun j q => q) (fun j q => old4 j (iv.dn j q))
  have kt : AtN H4 (n + 1 + 1 + 1 + 1 + 1) (n + 1) .aL (key aP pn 0) := ⟨⟨⟨_, (o4 (n + 1) (by omega)).trans g1⟩, .aL, OD hl⟩, by omega, fun j q => by cases q⟩
  have hro : vN vl := by
    have q := iv.l
    generalize L.length = len at q
    cases q with
    | nil => trivial
    | zero => exact Nat.le_refl _
    | sl => trivial
  refine cN (f109 false (.fn (.yield (n + 1 + 1 + 1 + 1)) [] []) (n + 1 + 1) (n + 1 + 1 + 1) x 1 _ vl (n + 1) .aL (key aP pn 0) L.length xl L D
    (fun k h1 n1 => ∃ nS, n + 1 + 1 + 1 + 1 < nS ∧ P nS k h1 n1 ∧ h1 (n + 1 + 1 + 1 + 1) = some (.loop (CR TM)) ∧ Row h1 n [Y] ∧ Row h1 c2 (aV aP pn))
    (fun h1 n1 => ∃ l nS, h1 (n + 1 + 1 + 1 + 1) = some (.loop l) ∧ l.state = .done ∧ l.pending = some .ret ∧ n + 1 + 1 + 1 + 1 < nS ∧ ((∃ k, pos false L (key aP pn 0) ≤ k ∧ P nS k h1 n1 ∧ ∀ hk : k < L.length, same aP pn L[k] = false) ∨ R nS h1 n1))
    H4 (n + 1 + 1 + 1 + 1 + 1) (g2.aO (o4 _ (by omega))) (g3.aO (o4 _ (by omega))) (iv.row.aO (old4 x iv.xn)) rfl rfl hc hl0.rds hro (fun j q => by have := mn j q; omega) hp0 (fun j q => by have := iv.dn j q; omega) kt (rL.mono _) f4 (by omega) (by have := iv.xn; omega) ?_ ?_ ?_) ?_
  · rintro k h1 n1 ⟨nS, _, hp, _⟩
    exact hP nS k h1 n1 hp
  · intro p h' n' hpos hn' hf' ho'
    have oo : Old h h' n := fun j hj => by rw [ho' j (by omega), old4 j hj]
    refine ⟨n', by omega, by rw [hpos.eq]; exact hS h' n' (by omega) hf' oo, (ho' _ (by omega)).trans r4, (g0.aO (o4 n (by omega))).aO (ho' n (by omega)), hc2.aO (oo c2 hn2)⟩
  · rintro p k hk id sv h1 n1 hpos hpk ⟨nS, hnS, hp, hlo, hrY, hrc⟩ hx a d1 d2
    obtain ⟨_, hps, hf1'⟩ := hP nS k h1 n1 hp
    refine oO hlo rfl rfl ?_
    simp only [HT, List.getD_cons_zero, mL, List.zip_cons_cons, List.zip_nil_left, CR, TM, cG, Try.f106, Option.getD_some, fgr, gE]
    refine ⟨_, hlo, rfl, ?_⟩
    have hidn : id < n := iv.dn id d1
    have hpk' : pos false L (key aP pn 0) ≤ k := by rw [← hpos.eq]; exact hpk
    obtain ⟨h2, hh2⟩ : ∃ h2, h2 = upd h1 (n + 1 + 1 + 1 + 1) (some (Blk.loop { CR TM with state := .busy })) := ⟨_, rfl⟩
    have ho2 : ∀ j, j ≠ n + 1 + 1 + 1 + 1 → h2 j = h1 j := fun j hj => by rw [hh2, aK _ _ hj]
    have hlo2 : h2 (n + 1 + 1 + 1 + 1) = some (.loop { CR TM with state := .busy }) := by rw [hh2, aM]
    have hp2 : P nS k h2 n1 := by rw [hh2]; exact hst nS k h1 n1 _ _ (by omega) hnS hp
    have a2 : At h2 id sv L[k] := a.aO (ho2 id (by omega)) (fun j q => ho2 j (by have := iv.dn j (d2 j q); omega))
    have hrY2 := hrY.aO (ho2 n (by omega))
    have hrc2 := hrc.aO (ho2 c2 (by omega))
    show Run env 106 _ _ _ _ _ (upd h1 (n + 1 + 1 + 1 + 1) (some (Blk.loop { CR TM with state := .busy }))) n1
    rw [← hh2]
    clear hh2
    obtain ⟨_, _, hf2⟩ := hP nS k h2 n1 hp2
    simp only [HS, List.getD_cons_zero, cG, Try.f106, Option.getD_some, bK, fgr, List.nil_append, List.append_nil]
    refine c9 ⟨rfl, ?_⟩
    simp only [tyr, aR, Nat.reduceAdd, gE]
    rw [aZ (j5 a2.row a2.ok)]
    simp only [Nat.reduceAdd, gE]
    have hld2 : Rd (load env 28 (.ptr c2 0)) h2 n1 [c2] (.agg (aV aP pn)) := Row.gY hrc2 jJ rfl (bW hl)
    rw [aZ hld2]
    have hne := am5 L[k].aP aP L[k].pn pn a2.ok.h hl
    cases hsm : same aP pn L[k] with
    | false =>
      have e1 : (decide (L[k].aP = aP) && (L[k].pn == pn)) = false := hsm
      rw [e1] at hne
      simp only [fgr, bH, Nat.reduceAdd, hne, gE]
      exact ⟨(by (try simp (disch := first | assumption | omega) only [cM, gF]); repeat' (first | rfl | exact (Bool.or_eq_true _ _).mpr (.inr rfl) | refine (Bool.and_eq_true _ _).mpr ⟨?_, ?_⟩)), _, hlo2, .inr ⟨.inl rfl, _, nS, aM _ _ _, rfl, rfl, hnS, .inl ⟨k, hpk', hst nS _ _ _ _ _ (by omega) hnS hp2, fun _ => hsm⟩⟩⟩
    | true =>
      have e1 : (decide (L[k].aP = aP) && (L[k].pn == pn)) = true := hsm
      rw [e1] at hne
      simp only [Nat.reduceAdd, hne, gE]
      rw [aZ (hrY2.one (off := 0) rfl M3 rfl)]
      simp only [Nat.reduceAdd, gE]
      refine dC hf2 (hY nS k hk id sv h2 n1 (by omega) hpk' hp2 a2 d1 d2 hsm) fun v6 h6 n6 r6 w6 hn6 f6 ⟨hres, hkeep, hkc⟩ => ?_
      have hlo6 : h6 (n + 1 + 1 + 1 + 1) = some (.loop { CR TM with state := .busy }) := (hkeep _ (by omega) hnS).trans hlo2
      rcases hres with ⟨e6 | e6, hp6⟩ | ⟨e6 | e6, hr6⟩
      · subst e6
        simp only [fgr, unOp, bH, Nat.reduceAdd, gE]
        exact ⟨(by (try simp (disch := first | assumption | omega) only [cM, gF]); repeat' (first | rfl | exact (Bool.or_eq_true _ _).mpr (.inr rfl) | refine (Bool.and_eq_true _ _).mpr ⟨?_, ?_⟩)), _, hlo6, .inl ⟨.inl rfl, nS, hnS, hst nS _ _ _ _ _ (by omega) hnS hp6, aM _ _ _, (hrY2.aO (hkeep n (Nat.le_refl _) (by omega))).upd (by omega), (hrc2.aO hkc).upd (by omega)⟩⟩
      · subst e6
        simp only [fgr, unOp, bH, Nat.reduceAdd, gE]
        exact ⟨(by (try simp (disch := first | assumption | omega) only [cM, gF]); repeat' (first | rfl | exact (Bool.or_eq_true _ _).mpr (.inr rfl) | refine (Bool.and_eq_true _ _).mpr ⟨?_, ?_⟩)), _, hlo6, .inl ⟨.inl rfl, nS, hnS, hst nS _ _ _ _ _ (by omega) hnS hp6, aM _ _ _, (hrY2.aO (hkeep n (Nat.le_refl _) (by omega))).upd (by omega), (hrc2.aO hkc).upd (by omega)⟩⟩
      · subst e6
        simp only [fgr, unOp, bH, Nat.reduceAdd, gE]
        exact ⟨(by (try simp (disch := first | assumption | omega) only [cM, gF]); repeat' (first | rfl | exact (Bool.or_eq_true _ _).mpr (.inr rfl) | refine (Bool.and_eq_true _ _).mpr ⟨?_, ?_⟩)), _, hlo6, .inr ⟨.inl rfl, _, nS, aM _ _ _, rfl, rfl, hnS, .inr (hsr nS _ _ _ _ (by omega) hnS hr6)⟩⟩
      · subst e6
        simp only [fgr, unOp, bH, Nat.reduceAdd, gE]
        exact ⟨(by (try simp (disch := first | assumption | omega) only [cM, gF]); repeat' (first | rfl | exact (Bool.or_eq_true _ _).mpr (.inr rfl) | refine (Bool.and_eq_true _ _).mpr ⟨?_, ?_⟩)), _, hlo6, .inr ⟨.inl rfl, _, nS, aM _ _ _, rfl, rfl, hnS, .inr (hsr nS _ _ _ _ (by omega) hnS hr6)⟩⟩
  · rintro v5 h5 n5 ⟨e5, hh⟩
    rcases hh with ⟨nS, hnS, hp, hlo, hrY, hrc⟩ | ⟨l, nS, hlo, hst1, hpe, hnS, hh⟩
    · refine ⟨_, hlo, (fun q => by cases q), .normal, rfl, ?_⟩
      simp only [bK, true_and]
      refine ⟨nS, by omega, .inl ⟨L.length, Nat.le_trans (List.countP_le_length) (Nat.le_refl _), hst nS _ _ _ _ _ (by omega) (by omega) hp, fun hk => absurd hk (Nat.lt_irrefl _)⟩⟩
    · refine ⟨_, hlo, (fun q => by rw [hst1] at q; cases q), .ret, by rw [hpe], ?_⟩
      simp only [bK, true_and]
      refine ⟨nS, by omega, ?_⟩
      rcases hh with ⟨k, hk1, hk2, hk3⟩ | hr
      · exact .inl ⟨k, hk1, hst nS _ _ _ _ _ (by omega) (by omega) hk2, hk3⟩
      · exact .inr (hsr nS _ _ _ _ (by omega) (by omega) hr)
noncomputable def L37 (tm : List a9) : m9 := { state := .ready, pending := none, fn := 37, tmps := tm, params := [13], assign := MX, body := MT }
def fnd (L : List Ver) (p k : Nat) (z : Int) : Option Ver := (((L.take k).drop p).filter fun v => cI v z).getLast?
theorem ap4 (L : List Ver) (p : Nat) (z : Int) : fnd L p p z = none := by
  unfold fnd
  rw [List.drop_eq_nil_of_le (by rw [List.length_take]; omega)]; rfl
theorem UY {L : List Ver} {p k : Nat} (hp : p ≤ k) (hk : k < L.length) (z : Int) : fnd L p (k + 1) z = if cI L[k] z then some L[k] else fnd L p k z := by
  unfold fnd
  rw [List.take_add_one, List.getElem?_eq_getElem hk, List.drop_append_of_le_length (by rw [List.length_take]; omega), List.filter_append]
  by_cases c : cI L[k] z = true
  · rw [if_pos c]; simp [c]
  · rw [if_neg c]; simp [c]
theorem TG {L : List Ver} {p k : Nat} {z : Int} {w : Ver} (h : fnd L p k z = some w) : w ∈ L := by
  have := List.mem_of_getLast? h
  exact List.mem_of_mem_take (List.mem_of_mem_drop (List.mem_filter.1 this).1)
theorem aX9 : build env 31 [] = M.pure (.agg eQ.i.zero.cells) := rfl
def ah5 (H : Hp) (D : Nat → Prop) (c : a9) (o : Option Ver) : Prop := (c = .cY ∧ o = none) ∨ ∃ id sv w, c = .ptr id 0 ∧ o = some w ∧ At H id sv w ∧ D id ∧ ∀ j, aT sv = some j → D j
structure P37 (H6 : Hp) (n : Nat) (D : Nat → Prop) (L : List Ver) (aP : List UInt8) (pn z : Int) (lo : m9) (nS k : Nat) (h1 : Hp) (n1 : Nat) : Prop where
  fr : bB h1 n1
  ns : nS ≤ n1
  kp : ∀ j, j < n + 1 + 1 + 1 + 1 + 1 + 1 + 1 → j ≠ n + 1 + 1 + 1 → j ≠ n + 1 + 1 + 1 + 1 + 1 + 1 → h1 j = H6 j
  lp : h1 (n + 1 + 1 + 1 + 1 + 1 + 1) = some (.loop lo)
  cl : ∃ c, h1 (n + 1 + 1 + 1) = some (.row (.l [c]) 128) ∧ ah5 H6 D c (fnd L (pos false L (key aP pn 0)) k z)
  sm : ∀ i (hi : i < L.length), pos false L (key aP pn 0) ≤ i → i < k → same aP pn L[i] = true
end Go.Am.Ytlgebaofkolkoaa
