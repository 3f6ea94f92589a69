/- What the statement reaches, gone through; and the abstract machine that goes through it. -/
import Derived.Test.YtlgebaofkolkoaaGC
import Derived.KernelRfl
import Derived.Test.YtlgebaofkolkoaaProg
set_option maxRecDepth 100000
set_option linter.defProp false
namespace Go.Am.Ytlgebaofkolkoaa
open Go Go.Am Go.Proofs
noncomputable def ty2 : TE Try.prog := ⟨2, ⟨Try.t2.desc, 1, 8, .int .i64 (0)⟩, ⟨⟨Try.t2, _, rfl, rfl, rfl, rfl, rfl⟩, rfl, rfl, Try.underlying2⟩⟩
noncomputable def ty3 : TE Try.prog := ⟨3, ⟨Try.t3.desc, 1, 8, .int .i64 (0)⟩, ⟨⟨Try.t3, _, rfl, rfl, rfl, rfl, rfl⟩, rfl, rfl, Try.underlying3⟩⟩
noncomputable def ty4 : TE Try.prog := ⟨4, ⟨Try.t4.desc, 1, 1, .bool false⟩, ⟨⟨Try.t4, _, rfl, rfl, rfl, rfl, rfl⟩, rfl, rfl, Try.underlying4⟩⟩
noncomputable def ty5 : TE Try.prog := ⟨5, ⟨Try.t5.desc, 1, 1, .int .u8 (0)⟩, ⟨⟨Try.t5, _, rfl, rfl, rfl, rfl, rfl⟩, rfl, rfl, Try.underlying5⟩⟩
noncomputable def ty9 : TE Try.prog := ⟨9, ⟨Try.t9.desc, 1, 16, .str []⟩, ⟨⟨Try.t9, _, rfl, rfl, rfl, rfl, rfl⟩, rfl, rfl, Try.underlying9⟩⟩
noncomputable def WG : TE Try.prog := ⟨12, ⟨Try.t12.desc, 1, 8, .int .u64 (0)⟩, ⟨⟨Try.t12, _, rfl, rfl, rfl, rfl, rfl⟩, rfl, rfl, Try.underlying12⟩⟩
noncomputable def WE : TE Try.prog := ⟨17, ⟨Try.t17.desc, 1, 8, .dG⟩, ⟨⟨Try.t17, _, rfl, rfl, rfl, rfl, rfl⟩, rfl, rfl, Try.underlying17⟩⟩
noncomputable def aw0 : TE Try.prog := ⟨18, ⟨Try.t18.desc, 1, 8, .agg [.dG]⟩, ⟨⟨Try.t18, _, rfl, rfl, rfl, rfl, rfl⟩, rfl, rfl, Try.underlying18⟩⟩
noncomputable def WD : TE Try.prog := ⟨21, ⟨Try.t21.desc, 1, 4, .int .i32 (0)⟩, ⟨⟨Try.t21, _, rfl, rfl, rfl, rfl, rfl⟩, rfl, rfl, Try.underlying21⟩⟩
noncomputable def WC : TE Try.prog := ⟨22, ⟨Try.t22.desc, 1, 8, .dG⟩, ⟨⟨Try.t22, _, rfl, rfl, rfl, rfl, rfl⟩, rfl, rfl, Try.underlying22⟩⟩
noncomputable def WB : TE Try.prog := ⟨24, ⟨Try.t24.desc, 32, 32, .agg (jR [(32, .int .u8 (0))])⟩, ⟨⟨Try.t24, _, rfl, rfl, rfl, rfl, rfl⟩, rfl, rfl, Try.underlying24⟩⟩
noncomputable def WA : TE Try.prog := ⟨25, ⟨Try.t24.desc, 32, 32, .agg (jR [(32, .int .u8 (0))])⟩, ⟨⟨Try.t25, _, rfl, rfl, rfl, rfl, rfl⟩, rfl, rfl, Try.underlying25⟩⟩
noncomputable def W9 : TE Try.prog := ⟨26, ⟨Try.t26.desc, 1, 4, .int .u32 (0)⟩, ⟨⟨Try.t26, _, rfl, rfl, rfl, rfl, rfl⟩, rfl, rfl, Try.underlying26⟩⟩
noncomputable def W8 : TE Try.prog := ⟨27, ⟨Try.t27.desc, 33, 36, .agg (jR [(32, .int .u8 (0)), (1, .int .u32 (0))])⟩, ⟨⟨Try.t27, _, rfl, rfl, rfl, rfl, rfl⟩, rfl, rfl, Try.underlying27⟩⟩
noncomputable def JI : TE Try.prog := ⟨28, ⟨Try.t27.desc, 33, 36, .agg (jR [(32, .int .u8 (0)), (1, .int .u32 (0))])⟩, ⟨⟨Try.t28, _, rfl, rfl, rfl, rfl, rfl⟩, rfl, rfl, Try.underlying28⟩⟩
noncomputable def W7 : TE Try.prog := ⟨29, ⟨Try.t29.desc, 1, 24, .aN⟩, ⟨⟨Try.t29, _, rfl, rfl, rfl, rfl, rfl⟩, rfl, rfl, Try.underlying29⟩⟩
noncomputable def W6 : TE Try.prog := ⟨30, ⟨Try.t30.desc, 70, 128, .agg (jR [(32, .int .u8 (0)), (1, .int .u32 (0)), (2, .int .i64 (0)), (1, .aN), (1, .bool false), (1, .int .i64 (0)), (32, .int .u8 (0))])⟩, ⟨⟨Try.t30, _, rfl, rfl, rfl, rfl, rfl⟩, rfl, rfl, Try.underlying30⟩⟩
noncomputable def eK : TE Try.prog := ⟨31, ⟨Try.t30.desc, 70, 128, .agg (jR [(32, .int .u8 (0)), (1, .int .u32 (0)), (2, .int .i64 (0)), (1, .aN), (1, .bool false), (1, .int .i64 (0)), (32, .int .u8 (0))])⟩, ⟨⟨Try.t31, _, rfl, rfl, rfl, rfl, rfl⟩, rfl, rfl, Try.underlying31⟩⟩
noncomputable def W5 : TE Try.prog := ⟨32, ⟨Try.t3.desc, 1, 8, .int .i64 (0)⟩, ⟨⟨Try.t32, _, rfl, rfl, rfl, rfl, rfl⟩, rfl, rfl, Try.underlying32⟩⟩
noncomputable def av9 : TE Try.prog := ⟨35, ⟨Try.t35.desc, 1, 8, .cF⟩, ⟨⟨Try.t35, _, rfl, rfl, rfl, rfl, rfl⟩, rfl, rfl, Try.underlying35⟩⟩
noncomputable def W4 : TE Try.prog := ⟨36, ⟨Try.t36.desc, 1, 24, .aN⟩, ⟨⟨Try.t36, _, rfl, rfl, rfl, rfl, rfl⟩, rfl, rfl, Try.underlying36⟩⟩
noncomputable def av8 : TE Try.prog := ⟨37, ⟨Try.t37.desc, 1, 0, .tup [.aN, .int .i64 (0)]⟩, ⟨⟨Try.t37, _, rfl, rfl, rfl, rfl, rfl⟩, rfl, rfl, Try.underlying37⟩⟩
noncomputable def W3 : TE Try.prog := ⟨40, ⟨Try.t40.desc, 2, 32, .agg [.aN, .int .i64 (0)]⟩, ⟨⟨Try.t40, _, rfl, rfl, rfl, rfl, rfl⟩, rfl, rfl, Try.underlying40⟩⟩
noncomputable def SM : TE Try.prog := ⟨41, ⟨Try.t40.desc, 2, 32, .agg [.aN, .int .i64 (0)]⟩, ⟨⟨Try.t41, _, rfl, rfl, rfl, rfl, rfl⟩, rfl, rfl, Try.underlying41⟩⟩
noncomputable def W2 : TE Try.prog := ⟨43, ⟨Try.t43.desc, 1, 24, .aN⟩, ⟨⟨Try.t43, _, rfl, rfl, rfl, rfl, rfl⟩, rfl, rfl, Try.underlying43⟩⟩
noncomputable def W1 : TE Try.prog := ⟨44, ⟨Try.t44.desc, 1, 24, .aN⟩, ⟨⟨Try.t44, _, rfl, rfl, rfl, rfl, rfl⟩, rfl, rfl, Try.underlying44⟩⟩
noncomputable def W0 : TE Try.prog := ⟨45, ⟨Try.t45.desc, 37, 104, .agg (jR [(1, .int .i64 (0)), (32, .int .u8 (0)), (2, .aN), (2, .int .i64 (0))])⟩, ⟨⟨Try.t45, _, rfl, rfl, rfl, rfl, rfl⟩, rfl, rfl, Try.underlying45⟩⟩
noncomputable def VZ : TE Try.prog := ⟨46, ⟨Try.t45.desc, 37, 104, .agg (jR [(1, .int .i64 (0)), (32, .int .u8 (0)), (2, .aN), (2, .int .i64 (0))])⟩, ⟨⟨Try.t46, _, rfl, rfl, rfl, rfl, rfl⟩, rfl, rfl, Try.underlying46⟩⟩
noncomputable def VY : TE Try.prog := ⟨47, ⟨Try.t47.desc, 65, 68, .agg (jR [(32, .int .u8 (0)), (1, .int .u32 (0)), (32, .int .u8 (0))])⟩, ⟨⟨Try.t47, _, rfl, rfl, rfl, rfl, rfl⟩, rfl, rfl, Try.underlying47⟩⟩
noncomputable def BD : TE Try.prog := ⟨48, ⟨Try.t47.desc, 65, 68, .agg (jR [(32, .int .u8 (0)), (1, .int .u32 (0)), (32, .int .u8 (0))])⟩, ⟨⟨Try.t48, _, rfl, rfl, rfl, rfl, rfl⟩, rfl, rfl, Try.underlying48⟩⟩
noncomputable def av7 : TE Try.prog := ⟨49, ⟨Try.t49.desc, 1, 8, .cF⟩, ⟨⟨Try.t49, _, rfl, rfl, rfl, rfl, rfl⟩, rfl, rfl, Try.underlying49⟩⟩
noncomputable def VX : TE Try.prog := ⟨56, ⟨Try.t56.desc, 1, 8, .dG⟩, ⟨⟨Try.t56, _, rfl, rfl, rfl, rfl, rfl⟩, rfl, rfl, Try.underlying56⟩⟩
noncomputable def SK : TE Try.prog := ⟨57, ⟨Try.t57.desc, 1, 24, .aN⟩, ⟨⟨Try.t57, _, rfl, rfl, rfl, rfl, rfl⟩, rfl, rfl, Try.underlying57⟩⟩
noncomputable def VW : TE Try.prog := ⟨58, ⟨Try.t58.desc, 2, 32, .agg [.dG, .aN]⟩, ⟨⟨Try.t58, _, rfl, rfl, rfl, rfl, rfl⟩, rfl, rfl, Try.underlying58⟩⟩
noncomputable def VV : TE Try.prog := ⟨59, ⟨Try.t58.desc, 2, 32, .agg [.dG, .aN]⟩, ⟨⟨Try.t59, _, rfl, rfl, rfl, rfl, rfl⟩, rfl, rfl, Try.underlying59⟩⟩
noncomputable def VU : TE Try.prog := ⟨60, ⟨Try.t60.desc, 37, 72, .agg (jR [(1, .int .i64 (0)), (32, .int .u8 (0)), (4, .int .i64 (0))])⟩, ⟨⟨Try.t60, _, rfl, rfl, rfl, rfl, rfl⟩, rfl, rfl, Try.underlying60⟩⟩
noncomputable def uV : TE Try.prog := ⟨61, ⟨Try.t60.desc, 37, 72, .agg (jR [(1, .int .i64 (0)), (32, .int .u8 (0)), (4, .int .i64 (0))])⟩, ⟨⟨Try.t61, _, rfl, rfl, rfl, rfl, rfl⟩, rfl, rfl, Try.underlying61⟩⟩
noncomputable def av6 : TE Try.prog := ⟨67, ⟨Try.t67.desc, 1, 8, .cF⟩, ⟨⟨Try.t67, _, rfl, rfl, rfl, rfl, rfl⟩, rfl, rfl, Try.underlying67⟩⟩
noncomputable def av5 : TE Try.prog := ⟨69, ⟨Try.t69.desc, 1, 8, .cF⟩, ⟨⟨Try.t69, _, rfl, rfl, rfl, rfl, rfl⟩, rfl, rfl, Try.underlying69⟩⟩
noncomputable def av4 : TE Try.prog := ⟨74, ⟨Try.t74.desc, 1, 8, .cF⟩, ⟨⟨Try.t74, _, rfl, rfl, rfl, rfl, rfl⟩, rfl, rfl, Try.underlying74⟩⟩
noncomputable def av3 : TE Try.prog := ⟨77, ⟨Try.t77.desc, 1, 8, .cF⟩, ⟨⟨Try.t77, _, rfl, rfl, rfl, rfl, rfl⟩, rfl, rfl, Try.underlying77⟩⟩
noncomputable def av2 : TE Try.prog := ⟨81, ⟨Try.t81.desc, 1, 24, .aN⟩, ⟨⟨Try.t81, _, rfl, rfl, rfl, rfl, rfl⟩, rfl, rfl, Try.underlying81⟩⟩
noncomputable def av1 : TE Try.prog := ⟨86, ⟨Try.t86.desc, 1, 24, .agg [.aN]⟩, ⟨⟨Try.t86, _, rfl, rfl, rfl, rfl, rfl⟩, rfl, rfl, Try.underlying86⟩⟩
noncomputable def av0 : TE Try.prog := ⟨87, ⟨Try.t86.desc, 1, 24, .agg [.aN]⟩, ⟨⟨Try.t87, _, rfl, rfl, rfl, rfl, rfl⟩, rfl, rfl, Try.underlying87⟩⟩
noncomputable def VT : TE Try.prog := ⟨95, ⟨Try.t95.desc, 1, 24, .aN⟩, ⟨⟨Try.t95, _, rfl, rfl, rfl, rfl, rfl⟩, rfl, rfl, Try.underlying95⟩⟩
noncomputable def VS : TE Try.prog := ⟨96, ⟨Try.t96.desc, 1, 8, .cF⟩, ⟨⟨Try.t96, _, rfl, rfl, rfl, rfl, rfl⟩, rfl, rfl, Try.underlying96⟩⟩
noncomputable def VR : TE Try.prog := ⟨97, ⟨Try.t97.desc, 2, 32, .agg [.aN, .cF]⟩, ⟨⟨Try.t97, _, rfl, rfl, rfl, rfl, rfl⟩, rfl, rfl, Try.underlying97⟩⟩
noncomputable def VQ : TE Try.prog := ⟨98, ⟨Try.t97.desc, 2, 32, .agg [.aN, .cF]⟩, ⟨⟨Try.t98, _, rfl, rfl, rfl, rfl, rfl⟩, rfl, rfl, Try.underlying98⟩⟩
noncomputable def VP : TE Try.prog := ⟨99, ⟨Try.t99.desc, 5, 72, .agg [.bool false, .aN, .cF, .aN, .cF]⟩, ⟨⟨Try.t99, _, rfl, rfl, rfl, rfl, rfl⟩, rfl, rfl, Try.underlying99⟩⟩
noncomputable def MC : TE Try.prog := ⟨100, ⟨Try.t99.desc, 5, 72, .agg [.bool false, .aN, .cF, .aN, .cF]⟩, ⟨⟨Try.t100, _, rfl, rfl, rfl, rfl, rfl⟩, rfl, rfl, Try.underlying100⟩⟩
noncomputable def ag1 : TE Try.prog := ⟨101, ⟨Try.t101.desc, 1, 24, .aN⟩, ⟨⟨Try.t101, _, rfl, rfl, rfl, rfl, rfl⟩, rfl, rfl, Try.underlying101⟩⟩
noncomputable def ag0 : TE Try.prog := ⟨102, ⟨Try.t102.desc, 1, 8, .cF⟩, ⟨⟨Try.t102, _, rfl, rfl, rfl, rfl, rfl⟩, rfl, rfl, Try.underlying102⟩⟩
noncomputable def MB : TE Try.prog := ⟨104, ⟨Try.t104.desc, 40, 128, .agg (jR [(2, .int .i64 (0)), (32, .int .u8 (0)), (2, .aN), (2, .int .i64 (0)), (1, .bool false), (1, .int .i64 (0))])⟩, ⟨⟨Try.t104, _, rfl, rfl, rfl, rfl, rfl⟩, rfl, rfl, Try.underlying104⟩⟩
noncomputable def af9 : TE Try.prog := ⟨105, ⟨Try.t104.desc, 40, 128, .agg (jR [(2, .int .i64 (0)), (32, .int .u8 (0)), (2, .aN), (2, .int .i64 (0)), (1, .bool false), (1, .int .i64 (0))])⟩, ⟨⟨Try.t105, _, rfl, rfl, rfl, rfl, rfl⟩, rfl, rfl, Try.underlying105⟩⟩
noncomputable def af8 : TE Try.prog := ⟨106, ⟨Try.t106.desc, 1, 8, .cF⟩, ⟨⟨Try.t106, _, rfl, rfl, rfl, rfl, rfl⟩, rfl, rfl, Try.underlying106⟩⟩
noncomputable def af7 : TE Try.prog := ⟨109, ⟨Try.t109.desc, 1, 8, .cF⟩, ⟨⟨Try.t109, _, rfl, rfl, rfl, rfl, rfl⟩, rfl, rfl, Try.underlying109⟩⟩
noncomputable def af6 : TE Try.prog := ⟨113, ⟨Try.t113.desc, 1, 8, .cF⟩, ⟨⟨Try.t113, _, rfl, rfl, rfl, rfl, rfl⟩, rfl, rfl, Try.underlying113⟩⟩
noncomputable def af5 : TE Try.prog := ⟨114, ⟨Try.t114.desc, 1, 8, .cF⟩, ⟨⟨Try.t114, _, rfl, rfl, rfl, rfl, rfl⟩, rfl, rfl, Try.underlying114⟩⟩
noncomputable def MA : TE Try.prog := ⟨115, ⟨Try.t115.desc, 1, 8, .kZ⟩, ⟨⟨Try.t115, _, rfl, rfl, rfl, rfl, rfl⟩, rfl, rfl, Try.underlying115⟩⟩
noncomputable def af4 : TE Try.prog := ⟨120, ⟨Try.t120.desc, 1, 8, .int .u64 (0)⟩, ⟨⟨Try.t120, _, rfl, rfl, rfl, rfl, rfl⟩, rfl, rfl, Try.underlying120⟩⟩
noncomputable def af3 : TE Try.prog := ⟨124, ⟨Try.t124.desc, 1, 8, .cF⟩, ⟨⟨Try.t124, _, rfl, rfl, rfl, rfl, rfl⟩, rfl, rfl, Try.underlying124⟩⟩
noncomputable def af2 : TE Try.prog := ⟨125, ⟨Try.t124.desc, 1, 8, .cF⟩, ⟨⟨Try.t125, _, rfl, rfl, rfl, rfl, rfl⟩, rfl, rfl, Try.underlying125⟩⟩
noncomputable def oY : TE Try.prog := ⟨128, ⟨Try.t128.desc, 1, 8, .dG⟩, ⟨⟨Try.t128, _, rfl, rfl, rfl, rfl, rfl⟩, rfl, rfl, Try.underlying128⟩⟩
noncomputable def af1 : TE Try.prog := ⟨129, ⟨Try.t129.desc, 1, 8, .cF⟩, ⟨⟨Try.t129, _, rfl, rfl, rfl, rfl, rfl⟩, rfl, rfl, Try.underlying129⟩⟩
noncomputable def af0 : TE Try.prog := ⟨134, ⟨Try.t134.desc, 1, 8, .cF⟩, ⟨⟨Try.t134, _, rfl, rfl, rfl, rfl, rfl⟩, rfl, rfl, Try.underlying134⟩⟩
noncomputable def ae9 : TE Try.prog := ⟨135, ⟨Try.t134.desc, 1, 8, .cF⟩, ⟨⟨Try.t135, _, rfl, rfl, rfl, rfl, rfl⟩, rfl, rfl, Try.underlying135⟩⟩
noncomputable def M9 : TE Try.prog := ⟨147, ⟨Try.t147.desc, 1, 24, .aN⟩, ⟨⟨Try.t147, _, rfl, rfl, rfl, rfl, rfl⟩, rfl, rfl, Try.underlying147⟩⟩
noncomputable def ae8 : TE Try.prog := ⟨150, ⟨Try.t150.desc, 1, 8, .cF⟩, ⟨⟨Try.t150, _, rfl, rfl, rfl, rfl, rfl⟩, rfl, rfl, Try.underlying150⟩⟩
noncomputable def ae7 : TE Try.prog := ⟨151, ⟨Try.t150.desc, 1, 8, .cF⟩, ⟨⟨Try.t151, _, rfl, rfl, rfl, rfl, rfl⟩, rfl, rfl, Try.underlying151⟩⟩
noncomputable def ae6 : TE Try.prog := ⟨153, ⟨Try.t153.desc, 1, 8, .cF⟩, ⟨⟨Try.t153, _, rfl, rfl, rfl, rfl, rfl⟩, rfl, rfl, Try.underlying153⟩⟩
noncomputable def ae5 : TE Try.prog := ⟨156, ⟨Try.t156.desc, 1, 8, .dG⟩, ⟨⟨Try.t156, _, rfl, rfl, rfl, rfl, rfl⟩, rfl, rfl, Try.underlying156⟩⟩
noncomputable def ae4 : TE Try.prog := ⟨160, ⟨Try.t160.desc, 1, 8, .cF⟩, ⟨⟨Try.t160, _, rfl, rfl, rfl, rfl, rfl⟩, rfl, rfl, Try.underlying160⟩⟩
noncomputable def M8 : TE Try.prog := ⟨161, ⟨Try.t161.desc, 1, 8, .kZ⟩, ⟨⟨Try.t161, _, rfl, rfl, rfl, rfl, rfl⟩, rfl, rfl, Try.underlying161⟩⟩
noncomputable def ae3 : TE Try.prog := ⟨166, ⟨Try.t166.desc, 1, 8, .int .u64 (0)⟩, ⟨⟨Try.t166, _, rfl, rfl, rfl, rfl, rfl⟩, rfl, rfl, Try.underlying166⟩⟩
noncomputable def M7 : TE Try.prog := ⟨176, ⟨Try.t5.desc, 1, 1, .int .u8 (0)⟩, ⟨⟨Try.t176, _, rfl, rfl, rfl, rfl, rfl⟩, rfl, rfl, Try.underlying176⟩⟩
noncomputable def M4 : TE Try.prog := ⟨177, ⟨Try.t5.desc, 1, 1, .int .u8 (0)⟩, ⟨⟨Try.t177, _, rfl, rfl, rfl, rfl, rfl⟩, rfl, rfl, Try.underlying177⟩⟩
noncomputable def M3 : TE Try.prog := ⟨178, ⟨Try.t178.desc, 1, 8, .cF⟩, ⟨⟨Try.t178, _, rfl, rfl, rfl, rfl, rfl⟩, rfl, rfl, Try.underlying178⟩⟩
noncomputable def LZ : TE Try.prog := ⟨179, ⟨Try.t179.desc, 1, 8, .dG⟩, ⟨⟨Try.t179, _, rfl, rfl, rfl, rfl, rfl⟩, rfl, rfl, Try.underlying179⟩⟩
noncomputable def LY : TE Try.prog := ⟨180, ⟨Try.t21.desc, 1, 4, .int .i32 (0)⟩, ⟨⟨Try.t180, _, rfl, rfl, rfl, rfl, rfl⟩, rfl, rfl, Try.underlying180⟩⟩
noncomputable def LX : TE Try.prog := ⟨181, ⟨Try.t21.desc, 1, 4, .int .i32 (0)⟩, ⟨⟨Try.t181, _, rfl, rfl, rfl, rfl, rfl⟩, rfl, rfl, Try.underlying181⟩⟩
noncomputable def LW : TE Try.prog := ⟨182, ⟨Try.t182.desc, 11, 48, .agg [.int .u64 (0), .int .u64 (0), .int .u32 (0), .int .u8 (0), .int .u8 (0), .int .u8 (0), .int .u8 (0), .cF, .dG, .int .i32 (0), .int .i32 (0)]⟩, ⟨⟨Try.t182, _, rfl, rfl, rfl, rfl, rfl⟩, rfl, rfl, Try.underlying182⟩⟩
noncomputable def LV : TE Try.prog := ⟨183, ⟨Try.t182.desc, 11, 48, .agg [.int .u64 (0), .int .u64 (0), .int .u32 (0), .int .u8 (0), .int .u8 (0), .int .u8 (0), .int .u8 (0), .cF, .dG, .int .i32 (0), .int .i32 (0)]⟩, ⟨⟨Try.t183, _, rfl, rfl, rfl, rfl, rfl⟩, rfl, rfl, Try.underlying183⟩⟩
noncomputable def ZV : FE Try.prog := ⟨13, ⟨Try.f13.body.getD .skip, 194, [.tmp 8], some (rle true [4, 1, 1, 2, 6, 1, 4, 1, 4, 1, 3, 1, 3, 1, 2, 12, 1, 5, 1, 12, 1, 127])⟩, ⟨⟨Try.f13, Try.func13, rfl, rfl, rfl⟩, Try.call13⟩⟩
noncomputable def ZU : FE Try.prog := ⟨14, ⟨Try.f14.body.getD .skip, 38, [.tmp 0], some (rle true [4, 32, 1, 1])⟩, ⟨⟨Try.f14, Try.func14, rfl, rfl, rfl⟩, Try.call14⟩⟩
noncomputable def ZT : FE Try.prog := ⟨15, ⟨Try.f15.body.getD .skip, 37, [.cell 6 31, .tmp 7, .tmp 8], some (rle true [3, 1, 1, 1, 3, 1, 3, 7, 1, 16])⟩, ⟨⟨Try.f15, Try.func15, rfl, rfl, rfl⟩, Try.call15⟩⟩
noncomputable def ZS : FE Try.prog := ⟨16, ⟨Try.f16.body.getD .skip, 5, [.cell 2 28], some (rle true [1, 1, 1, 2])⟩, ⟨⟨Try.f16, Try.func16, rfl, rfl, rfl⟩, Try.call16⟩⟩
noncomputable def KR : FE Try.prog := ⟨17, ⟨Try.f17.body.getD .skip, 85, [.tmp 6, .tmp 7], some (rle true [3, 3, 2, 1, 2, 1, 6, 7, 1, 7, 4, 19, 1, 1, 1, 1, 1, 11, 1, 12])⟩, ⟨⟨Try.f17, Try.func17, rfl, rfl, rfl⟩, Try.call17⟩⟩
noncomputable def ZR : FE Try.prog := ⟨18, ⟨Try.f18.body.getD .skip, 43, [.tmp 4], some (rle true [2, 2, 2, 4, 1, 3, 1, 27, 1])⟩, ⟨⟨Try.f18, Try.func18, rfl, rfl, rfl⟩, Try.call18⟩⟩
noncomputable def ZQ : FE Try.prog := ⟨19, ⟨Try.f19.body.getD .skip, 100, [.tmp 4], some (rle true [2, 1, 9, 2, 1, 51, 1, 33])⟩, ⟨⟨Try.f19, Try.func19, rfl, rfl, rfl⟩, Try.call19⟩⟩
noncomputable def ZO : FE Try.prog := ⟨21, ⟨Try.f21.body.getD .skip, 45, [.tmp 6, .tmp 7], some (rle true [3, 1, 1, 1, 2, 1, 2, 1, 1, 7, 1, 6, 4, 5, 1, 8])⟩, ⟨⟨Try.f21, Try.func21, rfl, rfl, rfl⟩, Try.call21⟩⟩
noncomputable def ZN : FE Try.prog := ⟨22, ⟨Try.f22.body.getD .skip, 75, [.tmp 4], some (rle true [2, 2, 2, 1, 2, 2, 1, 14, 4, 2, 1, 10, 1, 31])⟩, ⟨⟨Try.f22, Try.func22, rfl, rfl, rfl⟩, Try.call22⟩⟩
noncomputable def ZM : FE Try.prog := ⟨24, ⟨Try.f24.body.getD .skip, 10, [.tmp 2], some (rle true [1, 1, 1, 1, 1, 5])⟩, ⟨⟨Try.f24, Try.func24, rfl, rfl, rfl⟩, Try.call24⟩⟩
noncomputable def ZL : FE Try.prog := ⟨25, ⟨Try.f25.body.getD .skip, 22, [.cell 4 61, .tmp 5], some (rle true [2, 1, 6, 1, 1, 2, 2, 3, 1, 3])⟩, ⟨⟨Try.f25, Try.func25, rfl, rfl, rfl⟩, Try.call25⟩⟩
noncomputable def ZK : FE Try.prog := ⟨26, ⟨Try.f26.body.getD .skip, 4, [.tmp 0], some (rle true [1, 3])⟩, ⟨⟨Try.f26, Try.func26, rfl, rfl, rfl⟩, Try.call26⟩⟩
noncomputable def ZJ : FE Try.prog := ⟨27, ⟨Try.f27.body.getD .skip, 52, [.tmp 0], some (rle true [8, 44])⟩, ⟨⟨Try.f27, Try.func27, rfl, rfl, rfl⟩, Try.call27⟩⟩
noncomputable def ZI : FE Try.prog := ⟨28, ⟨Try.f28.body.getD .skip, 17, [.tmp 2], some (rle true [1, 1, 1, 1, 1, 12])⟩, ⟨⟨Try.f28, Try.func28, rfl, rfl, rfl⟩, Try.call28⟩⟩
noncomputable def ZH : FE Try.prog := ⟨32, ⟨Try.f32.body.getD .skip, 11, [.tmp 2], some (rle true [1, 1, 1, 1, 1, 6])⟩, ⟨⟨Try.f32, Try.func32, rfl, rfl, rfl⟩, Try.call32⟩⟩
noncomputable def ZG : FE Try.prog := ⟨33, ⟨Try.f33.body.getD .skip, 49, [.tmp 4], some (rle true [2, 1, 4, 2, 1, 39])⟩, ⟨⟨Try.f33, Try.func33, rfl, rfl, rfl⟩, Try.call33⟩⟩
noncomputable def ZF : FE Try.prog := ⟨34, ⟨Try.f34.body.getD .skip, 26, [.tmp 6], some (rle true [3, 1, 1, 1, 2, 1, 1, 5, 1, 10])⟩, ⟨⟨Try.f34, Try.func34, rfl, rfl, rfl⟩, Try.call34⟩⟩
noncomputable def U0 : FE Try.prog := ⟨35, ⟨Try.f35.body.getD .skip, 29, [.tmp 4], some (rle true [2, 2, 3, 4, 1, 3, 1, 12, 1])⟩, ⟨⟨Try.f35, Try.func35, rfl, rfl, rfl⟩, Try.call35⟩⟩
noncomputable def ZE : FE Try.prog := ⟨36, ⟨Try.f36.body.getD .skip, 48, [.tmp 10], some (rle true [5, 1, 1, 2, 4, 1, 1, 21, 1, 11])⟩, ⟨⟨Try.f36, Try.func36, rfl, rfl, rfl⟩, Try.call36⟩⟩
noncomputable def ZD : FE Try.prog := ⟨37, ⟨Try.f37.body.getD .skip, 28, [.cell 6 31, .tmp 7], some (rle true [3, 1, 6, 2, 2, 5, 1, 2, 1, 5])⟩, ⟨⟨Try.f37, Try.func37, rfl, rfl, rfl⟩, Try.call37⟩⟩
noncomputable def ZC : FE Try.prog := ⟨38, ⟨Try.f38.body.getD .skip, 34, [.tmp 6], some (rle true [3, 1, 1, 1, 3, 1, 1, 12, 1, 10])⟩, ⟨⟨Try.f38, Try.func38, rfl, rfl, rfl⟩, Try.call38⟩⟩
noncomputable def ZB : FE Try.prog := ⟨39, ⟨Try.f39.body.getD .skip, 14, [.tmp 4], some (rle true [2, 1, 2, 1, 1, 7])⟩, ⟨⟨Try.f39, Try.func39, rfl, rfl, rfl⟩, Try.call39⟩⟩
noncomputable def ZA : FE Try.prog := ⟨40, ⟨Try.f40.body.getD .skip, 13, [.tmp 0], some (rle true [2, 11])⟩, ⟨⟨Try.f40, Try.func40, rfl, rfl, rfl⟩, Try.call40⟩⟩
noncomputable def Z9 : FE Try.prog := ⟨41, ⟨Try.f41.body.getD .skip, 28, [.tmp 2], some (rle true [1, 1, 2, 1, 1, 22])⟩, ⟨⟨Try.f41, Try.func41, rfl, rfl, rfl⟩, Try.call41⟩⟩
noncomputable def Z8 : FE Try.prog := ⟨42, ⟨Try.f42.body.getD .skip, 57, [.tmp 4], some (rle true [6, 51])⟩, ⟨⟨Try.f42, Try.func42, rfl, rfl, rfl⟩, Try.call42⟩⟩
noncomputable def Z7 : FE Try.prog := ⟨43, ⟨Try.f43.body.getD .skip, 40, [.tmp 6], some (rle true [3, 1, 5, 1, 1, 7, 2, 6, 1, 4, 1, 8])⟩, ⟨⟨Try.f43, Try.func43, rfl, rfl, rfl⟩, Try.call43⟩⟩
noncomputable def Z6 : FE Try.prog := ⟨49, ⟨Try.f49.body.getD .skip, 19, [.tmp 4], some (rle true [2, 1, 4, 2, 2, 8])⟩, ⟨⟨Try.f49, Try.func49, rfl, rfl, rfl⟩, Try.call49⟩⟩
noncomputable def Z5 : FE Try.prog := ⟨57, ⟨Try.f57.body.getD .skip, 55, [.tmp 2], some (rle true [1, 1, 3, 2, 1, 1, 3, 18, 1, 6, 3, 12, 1, 2])⟩, ⟨⟨Try.f57, Try.func57, rfl, rfl, rfl⟩, Try.call57⟩⟩
noncomputable def Z4 : FE Try.prog := ⟨58, ⟨Try.f58.body.getD .skip, 31, [.tmp 2], some (rle true [1, 1, 2, 1, 1, 1, 4, 3, 2, 7, 1, 7])⟩, ⟨⟨Try.f58, Try.func58, rfl, rfl, rfl⟩, Try.call58⟩⟩
noncomputable def Z3 : FE Try.prog := ⟨59, ⟨Try.f59.body.getD .skip, 30, [.cell 4 46], some (rle true [3, 1, 3, 4, 1, 5, 3, 10])⟩, ⟨⟨Try.f59, Try.func59, rfl, rfl, rfl⟩, Try.call59⟩⟩
noncomputable def Z2 : FE Try.prog := ⟨60, ⟨Try.f60.body.getD .skip, 40, [.tmp 6, .tmp 7], some (rle true [3, 3, 2, 1, 2, 1, 1, 7, 1, 7, 4, 8])⟩, ⟨⟨Try.f60, Try.func60, rfl, rfl, rfl⟩, Try.call60⟩⟩
noncomputable def Z1 : FE Try.prog := ⟨61, ⟨Try.f61.body.getD .skip, 49, [.tmp 4], some (rle true [2, 2, 5, 4, 3, 16, 1, 16])⟩, ⟨⟨Try.f61, Try.func61, rfl, rfl, rfl⟩, Try.call61⟩⟩
noncomputable def Z0 : FE Try.prog := ⟨62, ⟨Try.f62.body.getD .skip, 13, [.cell 4 31], some (rle true [3, 1, 1, 3, 1, 4])⟩, ⟨⟨Try.f62, Try.func62, rfl, rfl, rfl⟩, Try.call62⟩⟩
noncomputable def yA : FE Try.prog := ⟨63, ⟨Try.f63.body.getD .skip, 18, [.tmp 2], some (rle true [1, 1, 2, 1, 5, 4, 1, 3])⟩, ⟨⟨Try.f63, Try.func63, rfl, rfl, rfl⟩, Try.call63⟩⟩
noncomputable def ED : FE Try.prog := ⟨64, ⟨Try.f64.body.getD .skip, 20, [.tmp 4], some (rle true [2, 2, 3, 4, 3, 2, 1, 2, 1])⟩, ⟨⟨Try.f64, Try.func64, rfl, rfl, rfl⟩, Try.call64⟩⟩
noncomputable def KQ : FE Try.prog := ⟨65, ⟨Try.f65.body.getD .skip, 8, [.tmp 4], some (rle true [2, 2, 1, 3])⟩, ⟨⟨Try.f65, Try.func65, rfl, rfl, rfl⟩, Try.call65⟩⟩
noncomputable def GP : FE Try.prog := ⟨66, ⟨Try.f66.body.getD .skip, 12, [.tmp 2], some (rle true [1, 1, 1, 9])⟩, ⟨⟨Try.f66, Try.func66, rfl, rfl, rfl⟩, Try.call66⟩⟩
noncomputable def YZ : FE Try.prog := ⟨67, ⟨Try.f67.body.getD .skip, 43, [.tmp 2], some (rle true [4, 1, 1, 26, 1, 1, 1, 5, 1, 1, 1])⟩, ⟨⟨Try.f67, Try.func67, rfl, rfl, rfl⟩, Try.call67⟩⟩
noncomputable def YY : FE Try.prog := ⟨68, ⟨Try.f68.body.getD .skip, 22, [.cell 2 61], some (rle true [1, 1, 1, 5, 1, 13])⟩, ⟨⟨Try.f68, Try.func68, rfl, rfl, rfl⟩, Try.call68⟩⟩
noncomputable def YX : FE Try.prog := ⟨69, ⟨Try.f69.body.getD .skip, 88, [.tmp 8, .tmp 9], some (rle true [4, 2, 1, 1, 2, 1, 1, 1, 1, 1, 3, 1, 4, 20, 1, 7, 4, 25, 1, 7])⟩, ⟨⟨Try.f69, Try.func69, rfl, rfl, rfl⟩, Try.call69⟩⟩
noncomputable def YW : FE Try.prog := ⟨70, ⟨Try.f70.body.getD .skip, 9, [.tmp 2], some (rle true [1, 1, 1, 6])⟩, ⟨⟨Try.f70, Try.func70, rfl, rfl, rfl⟩, Try.call70⟩⟩
noncomputable def YV : FE Try.prog := ⟨71, ⟨Try.f71.body.getD .skip, 8, [.tmp 2], some (rle true [1, 1, 1, 1, 1, 3])⟩, ⟨⟨Try.f71, Try.func71, rfl, rfl, rfl⟩, Try.call71⟩⟩
noncomputable def YU : FE Try.prog := ⟨72, ⟨Try.f72.body.getD .skip, 4, [.tmp 2], some (rle true [3, 1])⟩, ⟨⟨Try.f72, Try.func72, rfl, rfl, rfl⟩, Try.call72⟩⟩
noncomputable def YT : FE Try.prog := ⟨73, ⟨Try.f73.body.getD .skip, 12, [.tmp 2], some (rle true [1, 1, 1, 9])⟩, ⟨⟨Try.f73, Try.func73, rfl, rfl, rfl⟩, Try.call73⟩⟩
noncomputable def YS : FE Try.prog := ⟨74, ⟨Try.f74.body.getD .skip, 26, [.tmp 4], some (rle true [2, 2, 2, 1, 5, 4, 1, 9])⟩, ⟨⟨Try.f74, Try.func74, rfl, rfl, rfl⟩, Try.call74⟩⟩
noncomputable def YR : FE Try.prog := ⟨75, ⟨Try.f75.body.getD .skip, 3, [.tmp 2], some (rle true [0, 2, 1])⟩, ⟨⟨Try.f75, Try.func75, rfl, rfl, rfl⟩, Try.call75⟩⟩
noncomputable def YQ : FE Try.prog := ⟨76, ⟨Try.f76.body.getD .skip, 30, [.tmp 6], some (rle true [3, 1, 1, 1, 3, 12, 1, 8])⟩, ⟨⟨Try.f76, Try.func76, rfl, rfl, rfl⟩, Try.call76⟩⟩
noncomputable def YP : FE Try.prog := ⟨77, ⟨Try.f77.body.getD .skip, 8, [.cell 2 31], some (rle true [3, 5])⟩, ⟨⟨Try.f77, Try.func77, rfl, rfl, rfl⟩, Try.call77⟩⟩
noncomputable def YO : FE Try.prog := ⟨78, ⟨Try.f78.body.getD .skip, 23, [], some (rle true [2, 2, 1, 18])⟩, ⟨⟨Try.f78, Try.func78, rfl, rfl, rfl⟩, Try.call78⟩⟩
noncomputable def YN : FE Try.prog := ⟨79, ⟨Try.f79.body.getD .skip, 23, [], some (rle true [2, 2, 1, 18])⟩, ⟨⟨Try.f79, Try.func79, rfl, rfl, rfl⟩, Try.call79⟩⟩
noncomputable def YM : FE Try.prog := ⟨80, ⟨Try.f80.body.getD .skip, 24, [], some (rle true [3, 2, 1, 18])⟩, ⟨⟨Try.f80, Try.func80, rfl, rfl, rfl⟩, Try.call80⟩⟩
noncomputable def YL : FE Try.prog := ⟨81, ⟨Try.f81.body.getD .skip, 6, [.tmp 4], some (rle true [5, 1])⟩, ⟨⟨Try.f81, Try.func81, rfl, rfl, rfl⟩, Try.call81⟩⟩
noncomputable def YK : FE Try.prog := ⟨82, ⟨Try.f82.body.getD .skip, 20, [.tmp 4], some (rle true [3, 1, 1, 15])⟩, ⟨⟨Try.f82, Try.func82, rfl, rfl, rfl⟩, Try.call82⟩⟩
noncomputable def YJ : FE Try.prog := ⟨83, ⟨Try.f83.body.getD .skip, 9, [.tmp 3], some (rle true [2, 1, 1, 5])⟩, ⟨⟨Try.f83, Try.func83, rfl, rfl, rfl⟩, Try.call83⟩⟩
noncomputable def YI : FE Try.prog := ⟨84, ⟨Try.f84.body.getD .skip, 12, [.tmp 4], some (rle true [2, 2, 1, 7])⟩, ⟨⟨Try.f84, Try.func84, rfl, rfl, rfl⟩, Try.call84⟩⟩
noncomputable def YH : FE Try.prog := ⟨85, ⟨Try.f85.body.getD .skip, 19, [.tmp 4], some (rle true [2, 2, 1, 14])⟩, ⟨⟨Try.f85, Try.func85, rfl, rfl, rfl⟩, Try.call85⟩⟩
noncomputable def YG : FE Try.prog := ⟨86, ⟨Try.f86.body.getD .skip, 8, [.tmp 2], some (rle true [1, 1, 1, 1, 1, 3])⟩, ⟨⟨Try.f86, Try.func86, rfl, rfl, rfl⟩, Try.call86⟩⟩
noncomputable def YF : FE Try.prog := ⟨87, ⟨Try.f87.body.getD .skip, 38, [.tmp 4], some (rle true [6, 1, 1, 10, 1, 8, 1, 4, 1, 4, 1])⟩, ⟨⟨Try.f87, Try.func87, rfl, rfl, rfl⟩, Try.call87⟩⟩
noncomputable def YE : FE Try.prog := ⟨88, ⟨Try.f88.body.getD .skip, 6, [.tmp 4], some (rle true [5, 1])⟩, ⟨⟨Try.f88, Try.func88, rfl, rfl, rfl⟩, Try.call88⟩⟩
noncomputable def YD : FE Try.prog := ⟨89, ⟨Try.f89.body.getD .skip, 10, [.tmp 4], some (rle true [2, 2, 1, 5])⟩, ⟨⟨Try.f89, Try.func89, rfl, rfl, rfl⟩, Try.call89⟩⟩
noncomputable def YC : FE Try.prog := ⟨90, ⟨Try.f90.body.getD .skip, 8, [.tmp 2], some (rle true [1, 1, 1, 1, 1, 3])⟩, ⟨⟨Try.f90, Try.func90, rfl, rfl, rfl⟩, Try.call90⟩⟩
noncomputable def YB : FE Try.prog := ⟨96, ⟨Try.f96.body.getD .skip, 38, [.cell 2 46], some (rle true [6, 7, 1, 24])⟩, ⟨⟨Try.f96, Try.func96, rfl, rfl, rfl⟩, Try.call96⟩⟩
noncomputable def KP : FE Try.prog := ⟨97, ⟨Try.f97.body.getD .skip, 6, [.tmp 2], some (rle true [1, 1, 1, 3])⟩, ⟨⟨Try.f97, Try.func97, rfl, rfl, rfl⟩, Try.call97⟩⟩
noncomputable def KO : FE Try.prog := ⟨98, ⟨Try.f98.body.getD .skip, 8, [.tmp 4], some (rle true [2, 2, 1, 3])⟩, ⟨⟨Try.f98, Try.func98, rfl, rfl, rfl⟩, Try.call98⟩⟩
noncomputable def TZ : FE Try.prog := ⟨99, ⟨Try.f99.body.getD .skip, 9, [.tmp 2], some (rle true [1, 1, 1, 6])⟩, ⟨⟨Try.f99, Try.func99, rfl, rfl, rfl⟩, Try.call99⟩⟩
noncomputable def IU : FE Try.prog := ⟨100, ⟨Try.f100.body.getD .skip, 9, [.tmp 2], some (rle true [1, 1, 1, 6])⟩, ⟨⟨Try.f100, Try.func100, rfl, rfl, rfl⟩, Try.call100⟩⟩
noncomputable def PZ : FE Try.prog := ⟨101, ⟨Try.f101.body.getD .skip, 4, [.tmp 2], some (rle true [3, 1])⟩, ⟨⟨Try.f101, Try.func101, rfl, rfl, rfl⟩, Try.call101⟩⟩
noncomputable def PY : FE Try.prog := ⟨102, ⟨Try.f102.body.getD .skip, 23, [], some (rle true [2, 1, 1, 4, 3, 10, 1, 1])⟩, ⟨⟨Try.f102, Try.func102, rfl, rfl, rfl⟩, Try.call102⟩⟩
noncomputable def PX : FE Try.prog := ⟨103, ⟨Try.f103.body.getD .skip, 18, [.tmp 4, .tmp 5], some (rle true [2, 2, 2, 12])⟩, ⟨⟨Try.f103, Try.func103, rfl, rfl, rfl⟩, Try.call103⟩⟩
noncomputable def PW : FE Try.prog := ⟨105, ⟨Try.f105.body.getD .skip, 33, [.tmp 6], some (rle true [3, 3, 2, 8, 1, 16])⟩, ⟨⟨Try.f105, Try.func105, rfl, rfl, rfl⟩, Try.call105⟩⟩
noncomputable def PV : FE Try.prog := ⟨106, ⟨Try.f106.body.getD .skip, 27, [], some (rle true [5, 1, 1, 6, 2, 11, 1])⟩, ⟨⟨Try.f106, Try.func106, rfl, rfl, rfl⟩, Try.call106⟩⟩
noncomputable def PU : FE Try.prog := ⟨107, ⟨Try.f107.body.getD .skip, 17, [.tmp 4], some (rle true [5, 12])⟩, ⟨⟨Try.f107, Try.func107, rfl, rfl, rfl⟩, Try.call107⟩⟩
noncomputable def PS : FE Try.prog := ⟨109, ⟨Try.f109.body.getD .skip, 30, [], some (rle true [3, 1, 1, 2, 1, 11, 4, 5, 1, 1])⟩, ⟨⟨Try.f109, Try.func109, rfl, rfl, rfl⟩, Try.call109⟩⟩
noncomputable def PR : FE Try.prog := ⟨111, ⟨Try.f111.body.getD .skip, 7, [.tmp 2], some (rle true [1, 1, 2, 3])⟩, ⟨⟨Try.f111, Try.func111, rfl, rfl, rfl⟩, Try.call111⟩⟩
noncomputable def PQ : FE Try.prog := ⟨113, ⟨Try.f113.body.getD .skip, 91, [], some (rle true [2, 1, 1, 1, 2, 1, 1, 2, 4, 48, 1, 3, 4, 18, 1, 1])⟩, ⟨⟨Try.f113, Try.func113, rfl, rfl, rfl⟩, Try.call113⟩⟩
noncomputable def PO : FE Try.prog := ⟨114, ⟨Try.f114.body.getD .skip, 49, [.tmp 6, .tmp 7], some (rle true [3, 3, 6, 5, 1, 13, 1, 17])⟩, ⟨⟨Try.f114, Try.func114, rfl, rfl, rfl⟩, Try.call114⟩⟩
noncomputable def V8 : FE Try.prog := ⟨116, ⟨Try.f116.body.getD .skip, 10, [], some (rle true [2, 8])⟩, ⟨⟨Try.f116, Try.func116, rfl, rfl, rfl⟩, Try.call116⟩⟩
noncomputable def PN : FE Try.prog := ⟨117, ⟨Try.f117.body.getD .skip, 17, [.tmp 4], some (rle true [5, 12])⟩, ⟨⟨Try.f117, Try.func117, rfl, rfl, rfl⟩, Try.call117⟩⟩
noncomputable def IT : FE Try.prog := ⟨118, ⟨Try.f118.body.getD .skip, 20, [.tmp 4], some (rle true [2, 2, 3, 4, 3, 2, 1, 2, 1])⟩, ⟨⟨Try.f118, Try.func118, rfl, rfl, rfl⟩, Try.call118⟩⟩
noncomputable def V7 : FE Try.prog := ⟨120, ⟨Try.f120.body.getD .skip, 14, [], some (rle true [2, 12])⟩, ⟨⟨Try.f120, Try.func120, rfl, rfl, rfl⟩, Try.call120⟩⟩
noncomputable def IS : FE Try.prog := ⟨121, ⟨Try.f121.body.getD .skip, 20, [.tmp 4], some (rle true [2, 2, 3, 4, 3, 2, 1, 2, 1])⟩, ⟨⟨Try.f121, Try.func121, rfl, rfl, rfl⟩, Try.call121⟩⟩
noncomputable def PM : FE Try.prog := ⟨122, ⟨Try.f122.body.getD .skip, 6, [.tmp 2], some (rle true [1, 1, 1, 3])⟩, ⟨⟨Try.f122, Try.func122, rfl, rfl, rfl⟩, Try.call122⟩⟩
noncomputable def V6 : FE Try.prog := ⟨123, ⟨Try.f123.body.getD .skip, 28, [], some (rle true [1, 1, 2, 5, 1, 18])⟩, ⟨⟨Try.f123, Try.func123, rfl, rfl, rfl⟩, Try.call123⟩⟩
noncomputable def PL : FE Try.prog := ⟨124, ⟨Try.f124.body.getD .skip, 6, [.tmp 2], some (rle true [1, 1, 1, 3])⟩, ⟨⟨Try.f124, Try.func124, rfl, rfl, rfl⟩, Try.call124⟩⟩
noncomputable def ay1 : uR Try.prog := ⟨20, Ins.B9, Ins.ai0⟩
noncomputable def ak3 : uR Try.prog := ⟨104, (vG 128 oY.i), SU Ins.SJ rfl⟩
noncomputable def ak2 : uR Try.prog := ⟨108, cN, Ins.X3⟩
noncomputable def PF : uR Try.prog := ⟨112, cN, mL Try.func112 (by kernel_rfl) (by kernel_rfl) (by kernel_rfl) (by kernel_rfl)⟩
noncomputable def PE : uR Try.prog := ⟨115, (gM 128), tJ (tS := 95) (tR := 4) (e := 128) (size := 1) Try.func115 (by kernel_rfl) (by kernel_rfl) (by kernel_rfl) (by kernel_rfl) Try.underlying95 (fun w => oY.ok.cZ) (fun h => TypeDesc.noConfusion (Option.some.inj (Try.underlying128.symm.trans h)))⟩
noncomputable def PD : uR Try.prog := ⟨119, cN, mL Try.func119 (by kernel_rfl) (by kernel_rfl) (by kernel_rfl) (by kernel_rfl)⟩
noncomputable def eqs : List (QE Try.prog) := [⟨25, by kernel_rfl, by kernel_rfl⟩, ⟨28, by kernel_rfl, by kernel_rfl⟩, ⟨61, by kernel_rfl, by kernel_rfl⟩]
noncomputable def env : Env := { P := Try.prog, IG := by kernel_rfl, types := (.node 81 (.node 36 (.node 24 (.node 12 (.node 4 (.node 3 (.leaf ty2) (.leaf ty3)) (.node 5 (.leaf ty4) (.node 9 (.leaf ty5) (.leaf ty9)))) (.node 18 (.node 17 (.leaf WG) (.leaf WE)) (.node 21 (.leaf aw0) (.node 22 (.leaf WD) (.leaf WC))))) (.node 29 (.node 26 (.node 25 (.leaf WB) (.leaf WA)) (.node 27 (.leaf W9) (.node 28 (.leaf W8) (.leaf JI)))) (.node 31 (.node 30 (.leaf W7) (.leaf W6)) (.node 32 (.leaf eK) (.node 35 (.leaf W5) (.leaf av9)))))) (.node 49 (.node 44 (.node 40 (.node 37 (.leaf W4) (.leaf av8)) (.node 41 (.leaf W3) (.node 43 (.leaf SM) (.leaf W2)))) (.node 46 (.node 45 (.leaf W1) (.leaf W0)) (.node 47 (.leaf VZ) (.node 48 (.leaf VY) (.leaf BD))))) (.node 60 (.node 57 (.node 56 (.leaf av7) (.leaf VX)) (.node 58 (.leaf SK) (.node 59 (.leaf VW) (.leaf VV)))) (.node 69 (.node 61 (.leaf VU) (.node 67 (.leaf uV) (.leaf av6))) (.node 74 (.leaf av5) (.node 77 (.leaf av4) (.leaf av3))))))) (.node 125 (.node 102 (.node 97 (.node 87 (.node 86 (.leaf av2) (.leaf av1)) (.node 95 (.leaf av0) (.node 96 (.leaf VT) (.leaf VS)))) (.node 99 (.node 98 (.leaf VR) (.leaf VQ)) (.node 100 (.leaf VP) (.node 101 (.leaf MC) (.leaf ag1))))) (.node 113 (.node 105 (.node 104 (.leaf ag0) (.leaf MB)) (.node 106 (.leaf af9) (.node 109 (.leaf af8) (.leaf af7)))) (.node 115 (.node 114 (.leaf af6) (.leaf af5)) (.node 120 (.leaf MA) (.node 124 (.leaf af4) (.leaf af3)))))) (.node 160 (.node 147 (.node 129 (.node 128 (.leaf af2) (.leaf oY)) (.node 134 (.leaf af1) (.node 135 (.leaf af0) (.leaf ae9)))) (.node 151 (.node 150 (.leaf M9) (.leaf ae8)) (.node 153 (.leaf ae7) (.node 156 (.leaf ae6) (.leaf ae5))))) (.node 178 (.node 166 (.node 161 (.leaf ae4) (.leaf M8)) (.node 176 (.leaf ae3) (.node 177 (.leaf M7) (.leaf M4)))) (.node 181 (.node 179 (.leaf M3) (.node 180 (.leaf LZ) (.leaf LY))) (.node 182 (.leaf LX) (.node 183 (.leaf LW) (.leaf LV)))))))), funcs := (.node 72 (.node 39 (.node 25 (.node 18 (.node 15 (.node 14 (.leaf ZV) (.leaf ZU)) (.node 16 (.leaf ZT) (.node 17 (.leaf ZS) (.leaf KR)))) (.node 21 (.node 19 (.leaf ZR) (.leaf ZQ)) (.node 22 (.leaf ZO) (.node 24 (.leaf ZN) (.leaf ZM))))) (.node 33 (.node 27 (.node 26 (.leaf ZL) (.leaf ZK)) (.node 28 (.leaf ZJ) (.node 32 (.leaf ZI) (.leaf ZH)))) (.node 36 (.node 34 (.leaf ZG) (.node 35 (.leaf ZF) (.leaf U0))) (.node 37 (.leaf ZE) (.node 38 (.leaf ZD) (.leaf ZC)))))) (.node 61 (.node 49 (.node 41 (.node 40 (.leaf ZB) (.leaf ZA)) (.node 42 (.leaf Z9) (.node 43 (.leaf Z8) (.leaf Z7)))) (.node 58 (.node 57 (.leaf Z6) (.leaf Z5)) (.node 59 (.leaf Z4) (.node 60 (.leaf Z3) (.leaf Z2))))) (.node 66 (.node 63 (.node 62 (.leaf Z1) (.leaf Z0)) (.node 64 (.leaf yA) (.node 65 (.leaf ED) (.leaf KQ)))) (.node 69 (.node 67 (.leaf GP) (.node 68 (.leaf YZ) (.leaf YY))) (.node 70 (.leaf YX) (.node 71 (.leaf YW) (.leaf YV))))))) (.node 98 (.node 82 (.node 77 (.node 74 (.node 73 (.leaf YU) (.leaf YT)) (.node 75 (.leaf YS) (.node 76 (.leaf YR) (.leaf YQ)))) (.node 79 (.node 78 (.leaf YP) (.leaf YO)) (.node 80 (.leaf YN) (.node 81 (.leaf YM) (.leaf YL))))) (.node 87 (.node 84 (.node 83 (.leaf YK) (.leaf YJ)) (.node 85 (.leaf YI) (.node 86 (.leaf YH) (.leaf YG)))) (.node 90 (.node 88 (.leaf YF) (.node 89 (.leaf YE) (.leaf YD))) (.node 96 (.leaf YC) (.node 97 (.leaf YB) (.leaf KP)))))) (.node 111 (.node 103 (.node 100 (.node 99 (.leaf KO) (.leaf TZ)) (.node 101 (.leaf IU) (.node 102 (.leaf PZ) (.leaf PY)))) (.node 106 (.node 105 (.leaf PX) (.leaf PW)) (.node 107 (.leaf PV) (.node 109 (.leaf PU) (.leaf PS))))) (.node 118 (.node 114 (.node 113 (.leaf PR) (.leaf PQ)) (.node 116 (.leaf PO) (.node 117 (.leaf V8) (.leaf PN)))) (.node 122 (.node 120 (.leaf IT) (.node 121 (.leaf V7) (.leaf IS))) (.node 123 (.leaf PM) (.node 124 (.leaf V6) (.leaf PL)))))))), y7 := [ay1, ak3, ak2, PF, PE, PD], eqs := eqs, sQ := [Ins.BM, Ins.tL], jB := [Ins.X5] }
theorem HK (f : Nat) (h : (env.y7.all fun x => !(x.f.beq f)) = true) : ∀ args : List a9, fX env (aV env) f args = bH env (aV env) f args := fun _ => GO f h
theorem NB (f : Nat) (h : (env.jB.all fun x => !(x.fn.beq f)) = true) : ∀ k, k9 env.jB f k = true := OT f h
abbrev FI (k : Nat) (f : FE Try.prog) : Prop := (env.funcs.find k).i = f.i
abbrev FF (k : Nat) : Prop := (env.funcs.find k).f.beq k = true
theorem ON : k9 env.jB 17 0 = true := rfl
theorem OM : k9 env.jB 17 1 = true := rfl
theorem OL : k9 env.jB 17 2 = true := rfl
theorem OK : k9 env.jB 17 3 = true := rfl
theorem OJ : k9 env.jB 17 5 = true := rfl
theorem ti2 : ti env 2 = M.pure ⟨Go.TypeDesc.int (Go.IntKind.i64), 1, 8, .int .i64 (0)⟩ := rfl
theorem ti3 : ti env 3 = M.pure ⟨Go.TypeDesc.int (Go.IntKind.i64), 1, 8, .int .i64 (0)⟩ := rfl
theorem ti4 : ti env 4 = M.pure ⟨Go.TypeDesc.bool, 1, 1, .bool false⟩ := rfl
theorem ti5 : ti env 5 = M.pure ⟨Go.TypeDesc.int (Go.IntKind.u8), 1, 1, .int .u8 (0)⟩ := rfl
theorem ti9 : ti env 9 = M.pure ⟨Go.TypeDesc.string, 1, 16, .str []⟩ := rfl
theorem WW : ti env 12 = M.pure ⟨Go.TypeDesc.int (Go.IntKind.u64), 1, 8, .int .u64 (0)⟩ := rfl
theorem WV : ti env 17 = M.pure ⟨Go.TypeDesc.pointer 183, 1, 8, .dG⟩ := rfl
theorem ax1 : ti env 18 = M.pure ⟨Go.TypeDesc.struct #[⟨"typ", 17, 0, false, "", "internal/runtime/maps", 0⟩], 1, 8, .agg [.dG]⟩ := rfl
theorem WU : ti env 21 = M.pure ⟨Go.TypeDesc.int (Go.IntKind.i32), 1, 4, .int .i32 (0)⟩ := rfl
theorem JK : ti env 22 = M.pure ⟨Go.TypeDesc.pointer 59, 1, 8, .dG⟩ := rfl
theorem WT : ti env 24 = M.pure ⟨Go.TypeDesc.array 32 5, 32, 32, .agg [.int .u8 (0), .int .u8 (0), .int .u8 (0), .int .u8 (0), .int .u8 (0), .int .u8 (0), .int .u8 (0), .int .u8 (0), .int .u8 (0), .int .u8 (0), .int .u8 (0), .int .u8 (0), .int .u8 (0), .int .u8 (0), .int .u8 (0), .int .u8 (0), .int .u8 (0), .int .u8 (0), .int .u8 (0), .int .u8 (0), .int .u8 (0), .int .u8 (0), .int .u8 (0), .int .u8 (0), .int .u8 (0), .int .u8 (0), .int .u8 (0), .int .u8 (0), .int .u8 (0), .int .u8 (0), .int .u8 (0), .int .u8 (0)]⟩ := rfl
theorem nC : ti env 25 = M.pure ⟨Go.TypeDesc.array 32 5, 32, 32, .agg [.int .u8 (0), .int .u8 (0), .int .u8 (0), .int .u8 (0), .int .u8 (0), .int .u8 (0), .int .u8 (0), .int .u8 (0), .int .u8 (0), .int .u8 (0), .int .u8 (0), .int .u8 (0), .int .u8 (0), .int .u8 (0), .int .u8 (0), .int .u8 (0), .int .u8 (0), .int .u8 (0), .int .u8 (0), .int .u8 (0), .int .u8 (0), .int .u8 (0), .int .u8 (0), .int .u8 (0), .int .u8 (0), .int .u8 (0), .int .u8 (0), .int .u8 (0), .int .u8 (0), .int .u8 (0), .int .u8 (0), .int .u8 (0)]⟩ := rfl
theorem pK : ti env 26 = M.pure ⟨Go.TypeDesc.int (Go.IntKind.u32), 1, 4, .int .u32 (0)⟩ := rfl
theorem WS : ti env 27 = M.pure ⟨Go.TypeDesc.struct #[⟨"Tx", 25, 0, false, "", "", 0⟩, ⟨"N", 26, 32, false, "", "", 32⟩], 33, 36, .agg [.int .u8 (0), .int .u8 (0), .int .u8 (0), .int .u8 (0), .int .u8 (0), .int .u8 (0), .int .u8 (0), .int .u8 (0), .int .u8 (0), .int .u8 (0), .int .u8 (0), .int .u8 (0), .int .u8 (0), .int .u8 (0), .int .u8 (0), .int .u8 (0), .int .u8 (0), .int .u8 (0), .int .u8 (0), .int .u8 (0), .int .u8 (0), .int .u8 (0), .int .u8 (0), .int .u8 (0), .int .u8 (0), .int .u8 (0), .int .u8 (0), .int .u8 (0), .int .u8 (0), .int .u8 (0), .int .u8 (0), .int .u8 (0), .int .u32 (0)]⟩ := rfl
theorem gG : ti env 28 = M.pure ⟨Go.TypeDesc.struct #[⟨"Tx", 25, 0, false, "", "", 0⟩, ⟨"N", 26, 32, false, "", "", 32⟩], 33, 36, .agg [.int .u8 (0), .int .u8 (0), .int .u8 (0), .int .u8 (0), .int .u8 (0), .int .u8 (0), .int .u8 (0), .int .u8 (0), .int .u8 (0), .int .u8 (0), .int .u8 (0), .int .u8 (0), .int .u8 (0), .int .u8 (0), .int .u8 (0), .int .u8 (0), .int .u8 (0), .int .u8 (0), .int .u8 (0), .int .u8 (0), .int .u8 (0), .int .u8 (0), .int .u8 (0), .int .u8 (0), .int .u8 (0), .int .u8 (0), .int .u8 (0), .int .u8 (0), .int .u8 (0), .int .u8 (0), .int .u8 (0), .int .u8 (0), .int .u32 (0)]⟩ := rfl
theorem uY : ti env 29 = M.pure ⟨Go.TypeDesc.slice 5, 1, 24, .aN⟩ := rfl
theorem WR : ti env 30 = M.pure ⟨Go.TypeDesc.struct #[⟨"Point", 28, 0, false, "", "", 0⟩, ⟨"Made", 3, 33, false, "", "", 40⟩, ⟨"Value", 2, 34, false, "", "", 48⟩, ⟨"Script", 29, 35, false, "", "", 56⟩, ⟨"Base", 4, 36, false, "", "", 80⟩, ⟨"Spent", 3, 37, false, "", "", 88⟩, ⟨"Spender", 25, 38, false, "", "", 96⟩], 70, 128, .agg [.int .u8 (0), .int .u8 (0), .int .u8 (0), .int .u8 (0), .int .u8 (0), .int .u8 (0), .int .u8 (0), .int .u8 (0), .int .u8 (0), .int .u8 (0), .int .u8 (0), .int .u8 (0), .int .u8 (0), .int .u8 (0), .int .u8 (0), .int .u8 (0), .int .u8 (0), .int .u8 (0), .int .u8 (0), .int .u8 (0), .int .u8 (0), .int .u8 (0), .int .u8 (0), .int .u8 (0), .int .u8 (0), .int .u8 (0), .int .u8 (0), .int .u8 (0), .int .u8 (0), .int .u8 (0), .int .u8 (0), .int .u8 (0), .int .u32 (0), .int .i64 (0), .int .i64 (0), .aN, .bool false, .int .i64 (0), .int .u8 (0), .int .u8 (0), .int .u8 (0), .int .u8 (0), .int .u8 (0), .int .u8 (0), .int .u8 (0), .int .u8 (0), .int .u8 (0), .int .u8 (0), .int .u8 (0), .int .u8 (0), .int .u8 (0), .int .u8 (0), .int .u8 (0), .int .u8 (0), .int .u8 (0), .int .u8 (0), .int .u8 (0), .int .u8 (0), .int .u8 (0), .int .u8 (0), .int .u8 (0), .int .u8 (0), .int .u8 (0), .int .u8 (0), .int .u8 (0), .int .u8 (0), .int .u8 (0), .int .u8 (0), .int .u8 (0), .int .u8 (0)]⟩ := rfl
theorem cY : ti env 31 = M.pure ⟨Go.TypeDesc.struct #[⟨"Point", 28, 0, false, "", "", 0⟩, ⟨"Made", 3, 33, false, "", "", 40⟩, ⟨"Value", 2, 34, false, "", "", 48⟩, ⟨"Script", 29, 35, false, "", "", 56⟩, ⟨"Base", 4, 36, false, "", "", 80⟩, ⟨"Spent", 3, 37, false, "", "", 88⟩, ⟨"Spender", 25, 38, false, "", "", 96⟩], 70, 128, .agg [.int .u8 (0), .int .u8 (0), .int .u8 (0), .int .u8 (0), .int .u8 (0), .int .u8 (0), .int .u8 (0), .int .u8 (0), .int .u8 (0), .int .u8 (0), .int .u8 (0), .int .u8 (0), .int .u8 (0), .int .u8 (0), .int .u8 (0), .int .u8 (0), .int .u8 (0), .int .u8 (0), .int .u8 (0), .int .u8 (0), .int .u8 (0), .int .u8 (0), .int .u8 (0), .int .u8 (0), .int .u8 (0), .int .u8 (0), .int .u8 (0), .int .u8 (0), .int .u8 (0), .int .u8 (0), .int .u8 (0), .int .u8 (0), .int .u32 (0), .int .i64 (0), .int .i64 (0), .aN, .bool false, .int .i64 (0), .int .u8 (0), .int .u8 (0), .int .u8 (0), .int .u8 (0), .int .u8 (0), .int .u8 (0), .int .u8 (0), .int .u8 (0), .int .u8 (0), .int .u8 (0), .int .u8 (0), .int .u8 (0), .int .u8 (0), .int .u8 (0), .int .u8 (0), .int .u8 (0), .int .u8 (0), .int .u8 (0), .int .u8 (0), .int .u8 (0), .int .u8 (0), .int .u8 (0), .int .u8 (0), .int .u8 (0), .int .u8 (0), .int .u8 (0), .int .u8 (0), .int .u8 (0), .int .u8 (0), .int .u8 (0), .int .u8 (0), .int .u8 (0)]⟩ := rfl
theorem D9 : ti env 32 = M.pure ⟨Go.TypeDesc.int (Go.IntKind.i64), 1, 8, .int .i64 (0)⟩ := rfl
theorem ax0 : ti env 35 = M.pure ⟨Go.TypeDesc.func #[26] #[28] false, 1, 8, .cF⟩ := rfl
theorem WQ : ti env 36 = M.pure ⟨Go.TypeDesc.slice 41, 1, 24, .aN⟩ := rfl
theorem aw9 : ti env 37 = M.pure ⟨Go.TypeDesc.tuple #[36, 32], 1, 0, .tup [.aN, .int .i64 (0)]⟩ := rfl
theorem WO : ti env 40 = M.pure ⟨Go.TypeDesc.struct #[⟨"Script", 29, 0, false, "", "", 0⟩, ⟨"Balance", 2, 1, false, "", "", 24⟩], 2, 32, .agg [.aN, .int .i64 (0)]⟩ := rfl
theorem MH : ti env 41 = M.pure ⟨Go.TypeDesc.struct #[⟨"Script", 29, 0, false, "", "", 0⟩, ⟨"Balance", 2, 1, false, "", "", 24⟩], 2, 32, .agg [.aN, .int .i64 (0)]⟩ := rfl
theorem pJ : ti env 43 = M.pure ⟨Go.TypeDesc.slice 31, 1, 24, .aN⟩ := rfl
theorem FP : ti env 44 = M.pure ⟨Go.TypeDesc.slice 48, 1, 24, .aN⟩ := rfl
theorem WN : ti env 45 = M.pure ⟨Go.TypeDesc.struct #[⟨"Height", 3, 0, false, "", "", 0⟩, ⟨"Block", 25, 1, false, "", "", 8⟩, ⟨"Made", 43, 33, false, "", "", 40⟩, ⟨"Spends", 44, 34, false, "", "", 64⟩, ⟨"Burnt", 2, 35, false, "", "", 88⟩, ⟨"Left", 2, 36, false, "", "", 96⟩], 37, 104, .agg [.int .i64 (0), .int .u8 (0), .int .u8 (0), .int .u8 (0), .int .u8 (0), .int .u8 (0), .int .u8 (0), .int .u8 (0), .int .u8 (0), .int .u8 (0), .int .u8 (0), .int .u8 (0), .int .u8 (0), .int .u8 (0), .int .u8 (0), .int .u8 (0), .int .u8 (0), .int .u8 (0), .int .u8 (0), .int .u8 (0), .int .u8 (0), .int .u8 (0), .int .u8 (0), .int .u8 (0), .int .u8 (0), .int .u8 (0), .int .u8 (0), .int .u8 (0), .int .u8 (0), .int .u8 (0), .int .u8 (0), .int .u8 (0), .int .u8 (0), .aN, .aN, .int .i64 (0), .int .i64 (0)]⟩ := rfl
theorem mG : ti env 46 = M.pure ⟨Go.TypeDesc.struct #[⟨"Height", 3, 0, false, "", "", 0⟩, ⟨"Block", 25, 1, false, "", "", 8⟩, ⟨"Made", 43, 33, false, "", "", 40⟩, ⟨"Spends", 44, 34, false, "", "", 64⟩, ⟨"Burnt", 2, 35, false, "", "", 88⟩, ⟨"Left", 2, 36, false, "", "", 96⟩], 37, 104, .agg [.int .i64 (0), .int .u8 (0), .int .u8 (0), .int .u8 (0), .int .u8 (0), .int .u8 (0), .int .u8 (0), .int .u8 (0), .int .u8 (0), .int .u8 (0), .int .u8 (0), .int .u8 (0), .int .u8 (0), .int .u8 (0), .int .u8 (0), .int .u8 (0), .int .u8 (0), .int .u8 (0), .int .u8 (0), .int .u8 (0), .int .u8 (0), .int .u8 (0), .int .u8 (0), .int .u8 (0), .int .u8 (0), .int .u8 (0), .int .u8 (0), .int .u8 (0), .int .u8 (0), .int .u8 (0), .int .u8 (0), .int .u8 (0), .int .u8 (0), .aN, .aN, .int .i64 (0), .int .i64 (0)]⟩ := rfl
theorem WM : ti env 47 = M.pure ⟨Go.TypeDesc.struct #[⟨"Point", 28, 0, false, "", "", 0⟩, ⟨"Spender", 25, 33, false, "", "", 36⟩], 65, 68, .agg [.int .u8 (0), .int .u8 (0), .int .u8 (0), .int .u8 (0), .int .u8 (0), .int .u8 (0), .int .u8 (0), .int .u8 (0), .int .u8 (0), .int .u8 (0), .int .u8 (0), .int .u8 (0), .int .u8 (0), .int .u8 (0), .int .u8 (0), .int .u8 (0), .int .u8 (0), .int .u8 (0), .int .u8 (0), .int .u8 (0), .int .u8 (0), .int .u8 (0), .int .u8 (0), .int .u8 (0), .int .u8 (0), .int .u8 (0), .int .u8 (0), .int .u8 (0), .int .u8 (0), .int .u8 (0), .int .u8 (0), .int .u8 (0), .int .u32 (0), .int .u8 (0), .int .u8 (0), .int .u8 (0), .int .u8 (0), .int .u8 (0), .int .u8 (0), .int .u8 (0), .int .u8 (0), .int .u8 (0), .int .u8 (0), .int .u8 (0), .int .u8 (0), .int .u8 (0), .int .u8 (0), .int .u8 (0), .int .u8 (0), .int .u8 (0), .int .u8 (0), .int .u8 (0), .int .u8 (0), .int .u8 (0), .int .u8 (0), .int .u8 (0), .int .u8 (0), .int .u8 (0), .int .u8 (0), .int .u8 (0), .int .u8 (0), .int .u8 (0), .int .u8 (0), .int .u8 (0), .int .u8 (0)]⟩ := rfl
theorem zE : ti env 48 = M.pure ⟨Go.TypeDesc.struct #[⟨"Point", 28, 0, false, "", "", 0⟩, ⟨"Spender", 25, 33, false, "", "", 36⟩], 65, 68, .agg [.int .u8 (0), .int .u8 (0), .int .u8 (0), .int .u8 (0), .int .u8 (0), .int .u8 (0), .int .u8 (0), .int .u8 (0), .int .u8 (0), .int .u8 (0), .int .u8 (0), .int .u8 (0), .int .u8 (0), .int .u8 (0), .int .u8 (0), .int .u8 (0), .int .u8 (0), .int .u8 (0), .int .u8 (0), .int .u8 (0), .int .u8 (0), .int .u8 (0), .int .u8 (0), .int .u8 (0), .int .u8 (0), .int .u8 (0), .int .u8 (0), .int .u8 (0), .int .u8 (0), .int .u8 (0), .int .u8 (0), .int .u8 (0), .int .u32 (0), .int .u8 (0), .int .u8 (0), .int .u8 (0), .int .u8 (0), .int .u8 (0), .int .u8 (0), .int .u8 (0), .int .u8 (0), .int .u8 (0), .int .u8 (0), .int .u8 (0), .int .u8 (0), .int .u8 (0), .int .u8 (0), .int .u8 (0), .int .u8 (0), .int .u8 (0), .int .u8 (0), .int .u8 (0), .int .u8 (0), .int .u8 (0), .int .u8 (0), .int .u8 (0), .int .u8 (0), .int .u8 (0), .int .u8 (0), .int .u8 (0), .int .u8 (0), .int .u8 (0), .int .u8 (0), .int .u8 (0), .int .u8 (0)]⟩ := rfl
theorem aw8 : ti env 49 = M.pure ⟨Go.TypeDesc.func #[] #[3] false, 1, 8, .cF⟩ := rfl
theorem pD : ti env 56 = M.pure ⟨Go.TypeDesc.pointer 100, 1, 8, .dG⟩ := rfl
theorem tH : ti env 57 = M.pure ⟨Go.TypeDesc.slice 61, 1, 24, .aN⟩ := rfl
theorem WL : ti env 58 = M.pure ⟨Go.TypeDesc.struct #[⟨"x", 56, 0, false, "", "purser/store", 0⟩, ⟨"levels", 57, 1, false, "", "purser/store", 8⟩], 2, 32, .agg [.dG, .aN]⟩ := rfl
theorem MG : ti env 59 = M.pure ⟨Go.TypeDesc.struct #[⟨"x", 56, 0, false, "", "purser/store", 0⟩, ⟨"levels", 57, 1, false, "", "purser/store", 8⟩], 2, 32, .agg [.dG, .aN]⟩ := rfl
theorem WK : ti env 60 = M.pure ⟨Go.TypeDesc.struct #[⟨"Height", 3, 0, false, "", "", 0⟩, ⟨"Block", 25, 1, false, "", "", 8⟩, ⟨"Coins", 3, 33, false, "", "", 40⟩, ⟨"Total", 2, 34, false, "", "", 48⟩, ⟨"Burnt", 2, 35, false, "", "", 56⟩, ⟨"Left", 2, 36, false, "", "", 64⟩], 37, 72, .agg [.int .i64 (0), .int .u8 (0), .int .u8 (0), .int .u8 (0), .int .u8 (0), .int .u8 (0), .int .u8 (0), .int .u8 (0), .int .u8 (0), .int .u8 (0), .int .u8 (0), .int .u8 (0), .int .u8 (0), .int .u8 (0), .int .u8 (0), .int .u8 (0), .int .u8 (0), .int .u8 (0), .int .u8 (0), .int .u8 (0), .int .u8 (0), .int .u8 (0), .int .u8 (0), .int .u8 (0), .int .u8 (0), .int .u8 (0), .int .u8 (0), .int .u8 (0), .int .u8 (0), .int .u8 (0), .int .u8 (0), .int .u8 (0), .int .u8 (0), .int .i64 (0), .int .i64 (0), .int .i64 (0), .int .i64 (0)]⟩ := rfl
theorem fQ : ti env 61 = M.pure ⟨Go.TypeDesc.struct #[⟨"Height", 3, 0, false, "", "", 0⟩, ⟨"Block", 25, 1, false, "", "", 8⟩, ⟨"Coins", 3, 33, false, "", "", 40⟩, ⟨"Total", 2, 34, false, "", "", 48⟩, ⟨"Burnt", 2, 35, false, "", "", 56⟩, ⟨"Left", 2, 36, false, "", "", 64⟩], 37, 72, .agg [.int .i64 (0), .int .u8 (0), .int .u8 (0), .int .u8 (0), .int .u8 (0), .int .u8 (0), .int .u8 (0), .int .u8 (0), .int .u8 (0), .int .u8 (0), .int .u8 (0), .int .u8 (0), .int .u8 (0), .int .u8 (0), .int .u8 (0), .int .u8 (0), .int .u8 (0), .int .u8 (0), .int .u8 (0), .int .u8 (0), .int .u8 (0), .int .u8 (0), .int .u8 (0), .int .u8 (0), .int .u8 (0), .int .u8 (0), .int .u8 (0), .int .u8 (0), .int .u8 (0), .int .u8 (0), .int .u8 (0), .int .u8 (0), .int .u8 (0), .int .i64 (0), .int .i64 (0), .int .i64 (0), .int .i64 (0)]⟩ := rfl
theorem aw7 : ti env 67 = M.pure ⟨Go.TypeDesc.func #[65] #[56] false, 1, 8, .cF⟩ := rfl
theorem aw6 : ti env 69 = M.pure ⟨Go.TypeDesc.func #[28, 3] #[32] false, 1, 8, .cF⟩ := rfl
theorem aw5 : ti env 74 = M.pure ⟨Go.TypeDesc.func #[65, 31, 5] #[4] false, 1, 8, .cF⟩ := rfl
theorem aw4 : ti env 77 = M.pure ⟨Go.TypeDesc.func #[] #[56] false, 1, 8, .cF⟩ := rfl
theorem aw3 : ti env 81 = M.pure ⟨Go.TypeDesc.slice 29, 1, 24, .aN⟩ := rfl
theorem aw2 : ti env 86 = M.pure ⟨Go.TypeDesc.struct #[⟨"L", 43, 0, false, "", "", 0⟩], 1, 24, .agg [.aN]⟩ := rfl
theorem aw1 : ti env 87 = M.pure ⟨Go.TypeDesc.struct #[⟨"L", 43, 0, false, "", "", 0⟩], 1, 24, .agg [.aN]⟩ := rfl
theorem pI : ti env 95 = M.pure ⟨Go.TypeDesc.slice 128, 1, 24, .aN⟩ := rfl
theorem JJ : ti env 96 = M.pure ⟨Go.TypeDesc.func #[128, 128] #[3] false, 1, 8, .cF⟩ := rfl
theorem WJ : ti env 97 = M.pure ⟨Go.TypeDesc.struct #[⟨"l", 95, 0, false, "", "purser/index", 0⟩, ⟨"order", 96, 1, false, "", "purser/index", 24⟩], 2, 32, .agg [.aN, .cF]⟩ := rfl
theorem WI : ti env 98 = M.pure ⟨Go.TypeDesc.struct #[⟨"l", 95, 0, false, "", "purser/index", 0⟩, ⟨"order", 96, 1, false, "", "purser/index", 24⟩], 2, 32, .agg [.aN, .cF]⟩ := rfl
theorem WH : ti env 99 = M.pure ⟨Go.TypeDesc.struct #[⟨"made", 4, 0, false, "", "purser/index", 0⟩, ⟨"points", 98, 1, false, "", "purser/index", 8⟩, ⟨"scripts", 98, 3, false, "", "purser/index", 40⟩], 5, 72, .agg [.bool false, .aN, .cF, .aN, .cF]⟩ := rfl
theorem I2 : ti env 100 = M.pure ⟨Go.TypeDesc.struct #[⟨"made", 4, 0, false, "", "purser/index", 0⟩, ⟨"points", 98, 1, false, "", "purser/index", 8⟩, ⟨"scripts", 98, 3, false, "", "purser/index", 40⟩], 5, 72, .agg [.bool false, .aN, .cF, .aN, .cF]⟩ := rfl
theorem ah9 : ti env 101 = M.pure ⟨Go.TypeDesc.slice 105, 1, 24, .aN⟩ := rfl
theorem ah8 : ti env 102 = M.pure ⟨Go.TypeDesc.func #[101] #[3] false, 1, 8, .cF⟩ := rfl
theorem MV : ti env 104 = M.pure ⟨Go.TypeDesc.struct #[⟨"Kind", 3, 0, false, "", "", 0⟩, ⟨"A", 46, 1, false, "", "", 8⟩, ⟨"Next", 4, 38, false, "", "", 112⟩, ⟨"N", 3, 39, false, "", "", 120⟩], 40, 128, .agg [.int .i64 (0), .int .i64 (0), .int .u8 (0), .int .u8 (0), .int .u8 (0), .int .u8 (0), .int .u8 (0), .int .u8 (0), .int .u8 (0), .int .u8 (0), .int .u8 (0), .int .u8 (0), .int .u8 (0), .int .u8 (0), .int .u8 (0), .int .u8 (0), .int .u8 (0), .int .u8 (0), .int .u8 (0), .int .u8 (0), .int .u8 (0), .int .u8 (0), .int .u8 (0), .int .u8 (0), .int .u8 (0), .int .u8 (0), .int .u8 (0), .int .u8 (0), .int .u8 (0), .int .u8 (0), .int .u8 (0), .int .u8 (0), .int .u8 (0), .int .u8 (0), .aN, .aN, .int .i64 (0), .int .i64 (0), .bool false, .int .i64 (0)]⟩ := rfl
theorem A1 : ti env 105 = M.pure ⟨Go.TypeDesc.struct #[⟨"Kind", 3, 0, false, "", "", 0⟩, ⟨"A", 46, 1, false, "", "", 8⟩, ⟨"Next", 4, 38, false, "", "", 112⟩, ⟨"N", 3, 39, false, "", "", 120⟩], 40, 128, .agg [.int .i64 (0), .int .i64 (0), .int .u8 (0), .int .u8 (0), .int .u8 (0), .int .u8 (0), .int .u8 (0), .int .u8 (0), .int .u8 (0), .int .u8 (0), .int .u8 (0), .int .u8 (0), .int .u8 (0), .int .u8 (0), .int .u8 (0), .int .u8 (0), .int .u8 (0), .int .u8 (0), .int .u8 (0), .int .u8 (0), .int .u8 (0), .int .u8 (0), .int .u8 (0), .int .u8 (0), .int .u8 (0), .int .u8 (0), .int .u8 (0), .int .u8 (0), .int .u8 (0), .int .u8 (0), .int .u8 (0), .int .u8 (0), .int .u8 (0), .int .u8 (0), .aN, .aN, .int .i64 (0), .int .i64 (0), .bool false, .int .i64 (0)]⟩ := rfl
theorem ah7 : ti env 106 = M.pure ⟨Go.TypeDesc.func #[105, 3] #[46] false, 1, 8, .cF⟩ := rfl
theorem ah6 : ti env 109 = M.pure ⟨Go.TypeDesc.func #[29, 3] #[2, 32] false, 1, 8, .cF⟩ := rfl
theorem ah5 : ti env 113 = M.pure ⟨Go.TypeDesc.func #[101, 28, 29, 5] #[4] false, 1, 8, .cF⟩ := rfl
theorem ah4 : ti env 114 = M.pure ⟨Go.TypeDesc.func #[31, 3] #[31] false, 1, 8, .cF⟩ := rfl
theorem MU : ti env 115 = M.pure ⟨Go.TypeDesc.map 9 2, 1, 8, .kZ⟩ := rfl
theorem ah3 : ti env 120 = M.pure ⟨Go.TypeDesc.int (Go.IntKind.u64), 1, 8, .int .u64 (0)⟩ := rfl
theorem ah2 : ti env 124 = M.pure ⟨Go.TypeDesc.func #[153] #[] false, 1, 8, .cF⟩ := rfl
theorem ah1 : ti env 125 = M.pure ⟨Go.TypeDesc.func #[153] #[] false, 1, 8, .cF⟩ := rfl
theorem iT : ti env 128 = M.pure ⟨Go.TypeDesc.pointer 31, 1, 8, .dG⟩ := rfl
theorem MT : ti env 129 = M.pure ⟨Go.TypeDesc.func #[128] #[4] false, 1, 8, .cF⟩ := rfl
theorem ah0 : ti env 134 = M.pure ⟨Go.TypeDesc.func #[129] #[] false, 1, 8, .cF⟩ := rfl
theorem ag9 : ti env 135 = M.pure ⟨Go.TypeDesc.func #[129] #[] false, 1, 8, .cF⟩ := rfl
theorem MS : ti env 147 = M.pure ⟨Go.TypeDesc.slice 3, 1, 24, .aN⟩ := rfl
theorem ag8 : ti env 150 = M.pure ⟨Go.TypeDesc.func #[160] #[] false, 1, 8, .cF⟩ := rfl
theorem ag7 : ti env 151 = M.pure ⟨Go.TypeDesc.func #[160] #[] false, 1, 8, .cF⟩ := rfl
theorem ag6 : ti env 153 = M.pure ⟨Go.TypeDesc.func #[61] #[4] false, 1, 8, .cF⟩ := rfl
theorem MR : ti env 156 = M.pure ⟨Go.TypeDesc.pointer 98, 1, 8, .dG⟩ := rfl
theorem ag5 : ti env 160 = M.pure ⟨Go.TypeDesc.func #[28, 4] #[4] false, 1, 8, .cF⟩ := rfl
theorem MQ : ti env 161 = M.pure ⟨Go.TypeDesc.map 28 3, 1, 8, .kZ⟩ := rfl
theorem ag4 : ti env 166 = M.pure ⟨Go.TypeDesc.int (Go.IntKind.u64), 1, 8, .int .u64 (0)⟩ := rfl
theorem MP : ti env 176 = M.pure ⟨Go.TypeDesc.int (Go.IntKind.u8), 1, 1, .int .u8 (0)⟩ := rfl
theorem MO : ti env 177 = M.pure ⟨Go.TypeDesc.int (Go.IntKind.u8), 1, 1, .int .u8 (0)⟩ := rfl
theorem MN : ti env 178 = M.pure ⟨Go.TypeDesc.func #[185, 185] #[4] false, 1, 8, .cF⟩ := rfl
theorem MM : ti env 179 = M.pure ⟨Go.TypeDesc.pointer 5, 1, 8, .dG⟩ := rfl
theorem ML : ti env 180 = M.pure ⟨Go.TypeDesc.int (Go.IntKind.i32), 1, 4, .int .i32 (0)⟩ := rfl
theorem MK : ti env 181 = M.pure ⟨Go.TypeDesc.int (Go.IntKind.i32), 1, 4, .int .i32 (0)⟩ := rfl
theorem MJ : ti env 182 = M.pure ⟨Go.TypeDesc.struct #[⟨"Size_", 12, 0, false, "", "", 0⟩, ⟨"PtrBytes", 12, 1, false, "", "", 8⟩, ⟨"Hash", 26, 2, false, "", "", 16⟩, ⟨"TFlag", 176, 3, false, "", "", 20⟩, ⟨"Align_", 5, 4, false, "", "", 21⟩, ⟨"FieldAlign_", 5, 5, false, "", "", 22⟩, ⟨"Kind_", 177, 6, false, "", "", 23⟩, ⟨"Equal", 178, 7, false, "", "", 24⟩, ⟨"GCData", 179, 8, false, "", "", 32⟩, ⟨"Str", 180, 9, false, "", "", 40⟩, ⟨"PtrToThis", 181, 10, false, "", "", 44⟩], 11, 48, .agg [.int .u64 (0), .int .u64 (0), .int .u32 (0), .int .u8 (0), .int .u8 (0), .int .u8 (0), .int .u8 (0), .cF, .dG, .int .i32 (0), .int .i32 (0)]⟩ := rfl
theorem MI : ti env 183 = M.pure ⟨Go.TypeDesc.struct #[⟨"Size_", 12, 0, false, "", "", 0⟩, ⟨"PtrBytes", 12, 1, false, "", "", 8⟩, ⟨"Hash", 26, 2, false, "", "", 16⟩, ⟨"TFlag", 176, 3, false, "", "", 20⟩, ⟨"Align_", 5, 4, false, "", "", 21⟩, ⟨"FieldAlign_", 5, 5, false, "", "", 22⟩, ⟨"Kind_", 177, 6, false, "", "", 23⟩, ⟨"Equal", 178, 7, false, "", "", 24⟩, ⟨"GCData", 179, 8, false, "", "", 32⟩, ⟨"Str", 180, 9, false, "", "", 40⟩, ⟨"PtrToThis", 181, 10, false, "", "", 44⟩], 11, 48, .agg [.int .u64 (0), .int .u64 (0), .int .u32 (0), .int .u8 (0), .int .u8 (0), .int .u8 (0), .int .u8 (0), .cF, .dG, .int .i32 (0), .int .i32 (0)]⟩ := rfl
theorem aE1 : FI 13 ZV := rfl
theorem aP9 : FF 13 := rfl
theorem aK0 : ∀ tm : List a9, bF env 13 tm = aF [T, T, T, T, F, T, F, F, T, T, T, T, T, T, F, T, T, T, T, F, T, T, T, T, F, T, T, T, F, T, T, T, F, T, T, F, F, F, F, F, F, F, F, F, F, F, F, T, F, F, F, F, F, T, F, F, F, F, F, F, F, F, F, F, F, F, T, F, F, F, F, F, F, F, F, F, F, F, F, F, F, F, F, F, F, F, F, F, F, F, F, F, F, F, F, F, F, F, F, F, F, F, F, F, F, F, F, F, F, F, F, F, F, F, F, F, F, F, F, F, F, F, F, F, F, F, F, F, F, F, F, F, F, F, F, F, F, F, F, F, F, F, F, F, F, F, F, F, F, F, F, F, F, F, F, F, F, F, F, F, F, F, F, F, F, F, F, F, F, F, F, F, F, F, F, F, F, F, F, F, F, F, F, F, F, F, F, F, F, F, F, F, F, F] tm := fun _ => rfl
theorem aE0 : FI 14 ZU := rfl
theorem aP8 : FF 14 := rfl
theorem aJ9 : ∀ tm : List a9, bF env 14 tm = aF [T, T, T, T, F, F, F, F, F, F, F, F, F, F, F, F, F, F, F, F, F, F, F, F, F, F, F, F, F, F, F, F, F, F, F, F, T, F] tm := fun _ => rfl
theorem aD9 : FI 15 ZT := rfl
theorem aP7 : FF 15 := rfl
theorem aJ8 : ∀ tm : List a9, bF env 15 tm = aF [T, T, T, F, T, F, T, T, T, F, T, T, T, F, F, F, F, F, F, F, T, F, F, F, F, F, F, F, F, F, F, F, F, F, F, F, F] tm := fun _ => rfl
theorem aD8 : FI 16 ZS := rfl
theorem aP6 : FF 16 := rfl
theorem aJ7 : ∀ tm : List a9, bF env 16 tm = aF [T, F, T, F, F] tm := fun _ => rfl
theorem al3 : FI 17 KR := rfl
theorem ap7 : FF 17 := rfl
theorem U4 : ∀ tm : List a9, bF env 17 tm = aF [T, T, T, F, F, F, T, T, F, T, T, F, T, T, T, T, T, T, F, F, F, F, F, F, F, T, F, F, F, F, F, F, F, T, T, T, T, F, F, F, F, F, F, F, F, F, F, F, F, F, F, F, F, F, F, F, T, F, T, F, T, F, F, F, F, F, F, F, F, F, F, F, T, F, F, F, F, F, F, F, F, F, F, F, F] tm := fun _ => rfl
theorem aD7 : FI 18 ZR := rfl
theorem aP5 : FF 18 := rfl
theorem aJ6 : ∀ tm : List a9, bF env 18 tm = aF [T, T, F, F, T, T, F, F, F, F, T, F, F, F, T, F, F, F, F, F, F, F, F, F, F, F, F, F, F, F, F, F, F, F, F, F, F, F, F, F, F, F, T] tm := fun _ => rfl
theorem aD6 : FI 19 ZQ := rfl
theorem aP4 : FF 19 := rfl
theorem aJ5 : ∀ tm : List a9, bF env 19 tm = aF [T, T, F, T, T, T, T, T, T, T, T, T, F, F, T, F, F, F, F, F, F, F, F, F, F, F, F, F, F, F, F, F, F, F, F, F, F, F, F, F, F, F, F, F, F, F, F, F, F, F, F, F, F, F, F, F, F, F, F, F, F, F, F, F, F, F, T, F, F, F, F, F, F, F, F, F, F, F, F, F, F, F, F, F, F, F, F, F, F, F, F, F, F, F, F, F, F, F, F, F] tm := fun _ => rfl
theorem aD4 : FI 21 ZO := rfl
theorem aP2 : FF 21 := rfl
theorem aJ3 : ∀ tm : List a9, bF env 21 tm = aF [T, T, T, F, T, F, T, T, F, T, T, F, T, F, F, F, F, F, F, F, T, F, F, F, F, F, F, T, T, T, T, F, F, F, F, F, T, F, F, F, F, F, F, F, F] tm := fun _ => rfl
theorem aD3 : FI 22 ZN := rfl
theorem aP1 : FF 22 := rfl
theorem aJ2 : ∀ tm : List a9, bF env 22 tm = aF [T, T, F, F, T, T, F, T, T, F, F, T, F, F, F, F, F, F, F, F, F, F, F, F, F, F, T, T, T, T, F, F, T, F, F, F, F, F, F, F, F, F, F, T, F, F, F, F, F, F, F, F, F, F, F, F, F, F, F, F, F, F, F, F, F, F, F, F, F, F, F, F, F, F, F] tm := fun _ => rfl
theorem aD2 : FI 24 ZM := rfl
theorem aP0 : FF 24 := rfl
theorem aJ1 : ∀ tm : List a9, bF env 24 tm = aF [T, F, T, F, T, F, F, F, F, F] tm := fun _ => rfl
theorem aD1 : FI 25 ZL := rfl
theorem aO9 : FF 25 := rfl
theorem aJ0 : ∀ tm : List a9, bF env 25 tm = aF [T, T, F, T, T, T, T, T, T, F, T, F, F, T, T, F, F, F, T, F, F, F] tm := fun _ => rfl
theorem aD0 : FI 26 ZK := rfl
theorem aO8 : FF 26 := rfl
theorem aI9 : ∀ tm : List a9, bF env 26 tm = aF [T, F, F, F] tm := fun _ => rfl
theorem aC9 : FI 27 ZJ := rfl
theorem aO7 : FF 27 := rfl
theorem aI8 : ∀ tm : List a9, bF env 27 tm = aF [T, T, T, T, T, T, T, T, F, F, F, F, F, F, F, F, F, F, F, F, F, F, F, F, F, F, F, F, F, F, F, F, F, F, F, F, F, F, F, F, F, F, F, F, F, F, F, F, F, F, F, F] tm := fun _ => rfl
theorem aC8 : FI 28 ZI := rfl
theorem aO6 : FF 28 := rfl
theorem aI7 : ∀ tm : List a9, bF env 28 tm = aF [T, F, T, F, T, F, F, F, F, F, F, F, F, F, F, F, F] tm := fun _ => rfl
theorem aC7 : FI 32 ZH := rfl
theorem aO5 : FF 32 := rfl
theorem aI6 : ∀ tm : List a9, bF env 32 tm = aF [T, F, T, F, T, F, F, F, F, F, F] tm := fun _ => rfl
theorem aC6 : FI 33 ZG := rfl
theorem aO4 : FF 33 := rfl
theorem aI5 : ∀ tm : List a9, bF env 33 tm = aF [T, T, F, T, T, T, T, F, F, T, F, F, F, F, F, F, F, F, F, F, F, F, F, F, F, F, F, F, F, F, F, F, F, F, F, F, F, F, F, F, F, F, F, F, F, F, F, F, F] tm := fun _ => rfl
theorem aC5 : FI 34 ZF := rfl
theorem aO3 : FF 34 := rfl
theorem aI4 : ∀ tm : List a9, bF env 34 tm = aF [T, T, T, F, T, F, T, T, F, T, F, F, F, F, F, T, F, F, F, F, F, F, F, F, F, F] tm := fun _ => rfl
theorem aC4 : FI 35 U0 := rfl
theorem aO2 : FF 35 := rfl
theorem aI3 : ∀ tm : List a9, bF env 35 tm = aF [T, T, F, F, T, T, T, F, F, F, F, T, F, F, F, T, F, F, F, F, F, F, F, F, F, F, F, F, T] tm := fun _ => rfl
theorem aC3 : FI 36 ZE := rfl
theorem aO1 : FF 36 := rfl
theorem aI2 : ∀ tm : List a9, bF env 36 tm = aF [T, T, T, T, T, F, T, F, F, T, T, T, T, F, T, F, F, F, F, F, F, F, F, F, F, F, F, F, F, F, F, F, F, F, F, F, T, F, F, F, F, F, F, F, F, F, F, F] tm := fun _ => rfl
theorem aC2 : FI 37 ZD := rfl
theorem aO0 : FF 37 := rfl
theorem aI1 : ∀ tm : List a9, bF env 37 tm = aF [T, T, T, F, T, T, T, T, T, T, F, F, T, T, F, F, F, F, F, T, F, F, T, F, F, F, F, F] tm := fun _ => rfl
theorem aC1 : FI 38 ZC := rfl
theorem aN9 : FF 38 := rfl
theorem aI0 : ∀ tm : List a9, bF env 38 tm = aF [T, T, T, F, T, F, T, T, T, F, T, F, F, F, F, F, F, F, F, F, F, F, F, T, F, F, F, F, F, F, F, F, F, F] tm := fun _ => rfl
theorem aC0 : FI 39 ZB := rfl
theorem aN8 : FF 39 := rfl
theorem aH9 : ∀ tm : List a9, bF env 39 tm = aF [T, T, F, T, T, F, T, F, F, F, F, F, F, F] tm := fun _ => rfl
theorem aB9 : FI 40 ZA := rfl
theorem aN7 : FF 40 := rfl
theorem aH8 : ∀ tm : List a9, bF env 40 tm = aF [T, T, F, F, F, F, F, F, F, F, F, F, F] tm := fun _ => rfl
theorem aB8 : FI 41 Z9 := rfl
theorem aN6 : FF 41 := rfl
theorem aH7 : ∀ tm : List a9, bF env 41 tm = aF [T, F, T, T, F, T, F, F, F, F, F, F, F, F, F, F, F, F, F, F, F, F, F, F, F, F, F, F] tm := fun _ => rfl
theorem aB7 : FI 42 Z8 := rfl
theorem aN5 : FF 42 := rfl
theorem aH6 : ∀ tm : List a9, bF env 42 tm = aF [T, T, T, T, T, T, F, F, F, F, F, F, F, F, F, F, F, F, F, F, F, F, F, F, F, F, F, F, F, F, F, F, F, F, F, F, F, F, F, F, F, F, F, F, F, F, F, F, F, F, F, F, F, F, F, F, F] tm := fun _ => rfl
theorem aB6 : FI 43 Z7 := rfl
theorem aN4 : FF 43 := rfl
theorem aH5 : ∀ tm : List a9, bF env 43 tm = aF [T, T, T, F, T, T, T, T, T, F, T, F, F, F, F, F, F, F, T, T, F, F, F, F, F, F, T, F, F, F, F, T, F, F, F, F, F, F, F, F] tm := fun _ => rfl
theorem aB5 : FI 49 Z6 := rfl
theorem aN3 : FF 49 := rfl
theorem aH4 : ∀ tm : List a9, bF env 49 tm = aF [T, T, F, T, T, T, T, F, F, T, T, F, F, F, F, F, F, F, F] tm := fun _ => rfl
theorem aB4 : FI 57 Z5 := rfl
theorem aN2 : FF 57 := rfl
theorem aH3 : ∀ tm : List a9, bF env 57 tm = aF [T, F, T, T, T, F, F, T, F, T, T, T, F, F, F, F, F, F, F, F, F, F, F, F, F, F, F, F, F, F, T, F, F, F, F, F, F, T, T, T, F, F, F, F, F, F, F, F, F, F, F, F, T, F, F] tm := fun _ => rfl
theorem aB3 : FI 58 Z4 := rfl
theorem aN1 : FF 58 := rfl
theorem aH2 : ∀ tm : List a9, bF env 58 tm = aF [T, F, T, T, F, T, F, T, T, T, T, F, F, F, T, T, F, F, F, F, F, F, F, T, F, F, F, F, F, F, F] tm := fun _ => rfl
theorem aB2 : FI 59 Z3 := rfl
theorem aN0 : FF 59 := rfl
theorem aH1 : ∀ tm : List a9, bF env 59 tm = aF [T, T, T, F, T, T, T, F, F, F, F, T, F, F, F, F, F, T, T, T, F, F, F, F, F, F, F, F, F, F] tm := fun _ => rfl
theorem aB1 : FI 60 Z2 := rfl
theorem aM9 : FF 60 := rfl
theorem aH0 : ∀ tm : List a9, bF env 60 tm = aF [T, T, T, F, F, F, T, T, F, T, T, F, T, F, F, F, F, F, F, F, T, F, F, F, F, F, F, F, T, T, T, T, F, F, F, F, F, F, F, F] tm := fun _ => rfl
theorem aB0 : FI 61 Z1 := rfl
theorem aM8 : FF 61 := rfl
theorem aG9 : ∀ tm : List a9, bF env 61 tm = aF [T, T, F, F, T, T, T, T, T, F, F, F, F, T, T, T, F, F, F, F, F, F, F, F, F, F, F, F, F, F, F, F, T, F, F, F, F, F, F, F, F, F, F, F, F, F, F, F, F] tm := fun _ => rfl
theorem aA9 : FI 62 Z0 := rfl
theorem aM7 : FF 62 := rfl
theorem aG8 : ∀ tm : List a9, bF env 62 tm = aF [T, T, T, F, T, F, F, F, T, F, F, F, F] tm := fun _ => rfl
theorem ZX : FI 63 yA := rfl
theorem aa5 : FF 63 := rfl
theorem aa3 : ∀ tm : List a9, bF env 63 tm = aF [T, F, T, T, F, T, T, T, T, T, F, F, F, F, T, F, F, F] tm := fun _ => rfl
theorem al2 : FI 64 ED := rfl
theorem ap6 : FF 64 := rfl
theorem aa2 : ∀ tm : List a9, bF env 64 tm = aF [T, T, F, F, T, T, T, F, F, F, F, T, T, T, F, F, T, F, F, T] tm := fun _ => rfl
theorem al1 : FI 65 KQ := rfl
theorem ap5 : FF 65 := rfl
theorem aa1 : ∀ tm : List a9, bF env 65 tm = aF [T, T, F, F, T, F, F, F] tm := fun _ => rfl
theorem ZW : FI 66 GP := rfl
theorem aa4 : FF 66 := rfl
theorem aa0 : ∀ tm : List a9, bF env 66 tm = aF [T, F, T, F, F, F, F, F, F, F, F, F] tm := fun _ => rfl
theorem aA8 : FI 67 YZ := rfl
theorem aM6 : FF 67 := rfl
theorem aG7 : ∀ tm : List a9, bF env 67 tm = aF [T, T, T, T, F, T, F, F, F, F, F, F, F, F, F, F, F, F, F, F, F, F, F, F, F, F, F, F, F, F, F, F, T, F, T, F, F, F, F, F, T, F, T] tm := fun _ => rfl
theorem aA7 : FI 68 YY := rfl
theorem aM5 : FF 68 := rfl
theorem aG6 : ∀ tm : List a9, bF env 68 tm = aF [T, F, T, F, F, F, F, F, T, F, F, F, F, F, F, F, F, F, F, F, F, F] tm := fun _ => rfl
theorem aA6 : FI 69 YX := rfl
theorem aM4 : FF 69 := rfl
theorem aG5 : ∀ tm : List a9, bF env 69 tm = aF [T, T, T, T, F, F, T, F, T, T, F, T, F, T, F, T, T, T, F, T, T, T, T, F, F, F, F, F, F, F, F, F, F, F, F, F, F, F, F, F, F, F, F, T, F, F, F, F, F, F, F, T, T, T, T, F, F, F, F, F, F, F, F, F, F, F, F, F, F, F, F, F, F, F, F, F, F, F, F, F, T, F, F, F, F, F, F, F] tm := fun _ => rfl
theorem aA5 : FI 70 YW := rfl
theorem aM3 : FF 70 := rfl
theorem aG4 : ∀ tm : List a9, bF env 70 tm = aF [T, F, T, F, F, F, F, F, F] tm := fun _ => rfl
theorem aA4 : FI 71 YV := rfl
theorem aM2 : FF 71 := rfl
theorem aG3 : ∀ tm : List a9, bF env 71 tm = aF [T, F, T, F, T, F, F, F] tm := fun _ => rfl
theorem aA3 : FI 72 YU := rfl
theorem aM1 : FF 72 := rfl
theorem aG2 : ∀ tm : List a9, bF env 72 tm = aF [T, T, T, F] tm := fun _ => rfl
theorem aA2 : FI 73 YT := rfl
theorem aM0 : FF 73 := rfl
theorem aG1 : ∀ tm : List a9, bF env 73 tm = aF [T, F, T, F, F, F, F, F, F, F, F, F] tm := fun _ => rfl
theorem aA1 : FI 74 YS := rfl
theorem aL9 : FF 74 := rfl
theorem aG0 : ∀ tm : List a9, bF env 74 tm = aF [T, T, F, F, T, T, F, T, T, T, T, T, F, F, F, F, T, F, F, F, F, F, F, F, F, F] tm := fun _ => rfl
theorem aA0 : FI 75 YR := rfl
theorem aL8 : FF 75 := rfl
theorem aF9 : ∀ tm : List a9, bF env 75 tm = aF [F, F, T] tm := fun _ => rfl
theorem az9 : FI 76 YQ := rfl
theorem aL7 : FF 76 := rfl
theorem aF8 : ∀ tm : List a9, bF env 76 tm = aF [T, T, T, F, T, F, T, T, T, F, F, F, F, F, F, F, F, F, F, F, F, T, F, F, F, F, F, F, F, F] tm := fun _ => rfl
theorem az8 : FI 77 YP := rfl
theorem aL6 : FF 77 := rfl
theorem aF7 : ∀ tm : List a9, bF env 77 tm = aF [T, T, T, F, F, F, F, F] tm := fun _ => rfl
theorem az7 : FI 78 YO := rfl
theorem aL5 : FF 78 := rfl
theorem aF6 : ∀ tm : List a9, bF env 78 tm = aF [T, T, F, F, T, F, F, F, F, F, F, F, F, F, F, F, F, F, F, F, F, F, F] tm := fun _ => rfl
theorem az6 : FI 79 YN := rfl
theorem aL4 : FF 79 := rfl
theorem aF5 : ∀ tm : List a9, bF env 79 tm = aF [T, T, F, F, T, F, F, F, F, F, F, F, F, F, F, F, F, F, F, F, F, F, F] tm := fun _ => rfl
theorem az5 : FI 80 YM := rfl
theorem aL3 : FF 80 := rfl
theorem aF4 : ∀ tm : List a9, bF env 80 tm = aF [T, T, T, F, F, T, F, F, F, F, F, F, F, F, F, F, F, F, F, F, F, F, F, F] tm := fun _ => rfl
theorem az4 : FI 81 YL := rfl
theorem aL2 : FF 81 := rfl
theorem aF3 : ∀ tm : List a9, bF env 81 tm = aF [T, T, T, T, T, F] tm := fun _ => rfl
theorem az3 : FI 82 YK := rfl
theorem aL1 : FF 82 := rfl
theorem aF2 : ∀ tm : List a9, bF env 82 tm = aF [T, T, T, F, T, F, F, F, F, F, F, F, F, F, F, F, F, F, F, F] tm := fun _ => rfl
theorem az2 : FI 83 YJ := rfl
theorem aL0 : FF 83 := rfl
theorem aF1 : ∀ tm : List a9, bF env 83 tm = aF [T, T, F, T, F, F, F, F, F] tm := fun _ => rfl
theorem az1 : FI 84 YI := rfl
theorem aK9 : FF 84 := rfl
theorem aF0 : ∀ tm : List a9, bF env 84 tm = aF [T, T, F, F, T, F, F, F, F, F, F, F] tm := fun _ => rfl
theorem az0 : FI 85 YH := rfl
theorem aK8 : FF 85 := rfl
theorem aE9 : ∀ tm : List a9, bF env 85 tm = aF [T, T, F, F, T, F, F, F, F, F, F, F, F, F, F, F, F, F, F] tm := fun _ => rfl
theorem ay9 : FI 86 YG := rfl
theorem aK7 : FF 86 := rfl
theorem aE8 : ∀ tm : List a9, bF env 86 tm = aF [T, F, T, F, T, F, F, F] tm := fun _ => rfl
theorem ay8 : FI 87 YF := rfl
theorem aK6 : FF 87 := rfl
theorem aE7 : ∀ tm : List a9, bF env 87 tm = aF [T, T, T, T, T, T, F, T, F, F, F, F, F, F, F, F, F, F, T, F, F, F, F, F, F, F, F, T, F, F, F, F, T, F, F, F, F, T] tm := fun _ => rfl
theorem ay7 : FI 88 YE := rfl
theorem aK5 : FF 88 := rfl
theorem aE6 : ∀ tm : List a9, bF env 88 tm = aF [T, T, T, T, T, F] tm := fun _ => rfl
theorem ay6 : FI 89 YD := rfl
theorem aK4 : FF 89 := rfl
theorem aE5 : ∀ tm : List a9, bF env 89 tm = aF [T, T, F, F, T, F, F, F, F, F] tm := fun _ => rfl
theorem ay5 : FI 90 YC := rfl
theorem aK3 : FF 90 := rfl
theorem aE4 : ∀ tm : List a9, bF env 90 tm = aF [T, F, T, F, T, F, F, F] tm := fun _ => rfl
theorem ay4 : FI 96 YB := rfl
theorem aK2 : FF 96 := rfl
theorem aE3 : ∀ tm : List a9, bF env 96 tm = aF [T, T, T, T, T, T, F, F, F, F, F, F, F, T, F, F, F, F, F, F, F, F, F, F, F, F, F, F, F, F, F, F, F, F, F, F, F, F] tm := fun _ => rfl
theorem al0 : FI 97 KP := rfl
theorem ap4 : FF 97 := rfl
theorem ZZ : ∀ tm : List a9, bF env 97 tm = aF [T, F, T, F, F, F] tm := fun _ => rfl
theorem ak9 : FI 98 KO := rfl
theorem ap3 : FF 98 := rfl
theorem ZY : ∀ tm : List a9, bF env 98 tm = aF [T, T, F, F, T, F, F, F] tm := fun _ => rfl
theorem ay3 : FI 99 TZ := rfl
theorem aK1 : FF 99 := rfl
theorem aE2 : ∀ tm : List a9, bF env 99 tm = aF [T, F, T, F, F, F, F, F, F] tm := fun _ => rfl
theorem an0 : FI 100 IU := rfl
theorem ar4 : FF 100 := rfl
theorem ap2 : ∀ tm : List a9, bF env 100 tm = aF [T, F, T, F, F, F, F, F, F] tm := fun _ => rfl
theorem am9 : FI 101 PZ := rfl
theorem ar3 : FF 101 := rfl
theorem ap1 : ∀ tm : List a9, bF env 101 tm = aF [T, T, T, F] tm := fun _ => rfl
theorem am8 : FI 102 PY := rfl
theorem ar2 : FF 102 := rfl
theorem ak7 : ∀ args : List a9, fX env (aV env) 102 args = bH env (aV env) 102 args := HK 102 rfl
theorem ap0 : ∀ tm : List a9, bF env 102 tm = aF [T, T, F, T, F, F, F, F, T, T, T, F, F, F, F, F, F, F, F, F, F, T, F] tm := fun _ => rfl
theorem am7 : FI 103 PX := rfl
theorem ar1 : FF 103 := rfl
theorem ao9 : ∀ tm : List a9, bF env 103 tm = aF [T, T, F, F, T, T, F, F, F, F, F, F, F, F, F, F, F, F] tm := fun _ => rfl
theorem am6 : FI 105 PW := rfl
theorem ar0 : FF 105 := rfl
theorem ao7 : ∀ tm : List a9, bF env 105 tm = aF [T, T, T, F, F, F, T, T, F, F, F, F, F, F, F, F, T, F, F, F, F, F, F, F, F, F, F, F, F, F, F, F, F] tm := fun _ => rfl
theorem am5 : FI 106 PV := rfl
theorem aq9 : FF 106 := rfl
theorem V4 : ∀ args : List a9, fX env (aV env) 106 args = bH env (aV env) 106 args := HK 106 rfl
theorem ao6 : ∀ tm : List a9, bF env 106 tm = aF [T, T, T, T, T, F, T, F, F, F, F, F, F, T, T, F, F, F, F, F, F, F, F, F, F, F, T] tm := fun _ => rfl
theorem am4 : FI 107 PU := rfl
theorem aq8 : FF 107 := rfl
theorem ao5 : ∀ tm : List a9, bF env 107 tm = aF [T, T, T, T, T, F, F, F, F, F, F, F, F, F, F, F, F] tm := fun _ => rfl
theorem am2 : FI 109 PS := rfl
theorem aq6 : FF 109 := rfl
theorem V3 : ∀ args : List a9, fX env (aV env) 109 args = bH env (aV env) 109 args := HK 109 rfl
theorem ao3 : ∀ tm : List a9, bF env 109 tm = aF [T, T, T, F, T, F, F, T, F, F, F, F, F, F, F, F, F, F, F, T, T, T, T, F, F, F, F, F, T, F] tm := fun _ => rfl
theorem am1 : FI 111 PR := rfl
theorem aq5 : FF 111 := rfl
theorem ao2 : ∀ tm : List a9, bF env 111 tm = aF [T, F, T, T, F, F, F] tm := fun _ => rfl
theorem am0 : FI 113 PQ := rfl
theorem aq4 : FF 113 := rfl
theorem ak4 : ∀ args : List a9, fX env (aV env) 113 args = bH env (aV env) 113 args := HK 113 rfl
theorem ao1 : ∀ tm : List a9, bF env 113 tm = aF [T, T, F, T, F, T, T, F, T, F, F, T, T, T, T, F, F, F, F, F, F, F, F, F, F, F, F, F, F, F, F, F, F, F, F, F, F, F, F, F, F, F, F, F, F, F, F, F, F, F, F, F, F, F, F, F, F, F, F, F, F, F, F, T, F, F, F, T, T, T, T, F, F, F, F, F, F, F, F, F, F, F, F, F, F, F, F, F, F, T, F] tm := fun _ => rfl
theorem al9 : FI 114 PO := rfl
theorem aq3 : FF 114 := rfl
theorem ao0 : ∀ tm : List a9, bF env 114 tm = aF [T, T, T, F, F, F, T, T, T, T, T, T, F, F, F, F, F, T, F, F, F, F, F, F, F, F, F, F, F, F, F, T, F, F, F, F, F, F, F, F, F, F, F, F, F, F, F, F, F] tm := fun _ => rfl
theorem fi116 : FI 116 V8 := rfl
theorem ff116 : FF 116 := rfl
theorem an9 : ∀ tm : List a9, bF env 116 tm = aF [T, T, F, F, F, F, F, F, F, F] tm := fun _ => rfl
theorem al8 : FI 117 PN := rfl
theorem aq2 : FF 117 := rfl
theorem an8 : ∀ tm : List a9, bF env 117 tm = aF [T, T, T, T, T, F, F, F, F, F, F, F, F, F, F, F, F] tm := fun _ => rfl
theorem al7 : FI 118 IT := rfl
theorem aq1 : FF 118 := rfl
theorem an7 : ∀ tm : List a9, bF env 118 tm = aF [T, T, F, F, T, T, T, F, F, F, F, T, T, T, F, F, T, F, F, T] tm := fun _ => rfl
theorem fi120 : FI 120 V7 := rfl
theorem ff120 : FF 120 := rfl
theorem an6 : ∀ tm : List a9, bF env 120 tm = aF [T, T, F, F, F, F, F, F, F, F, F, F, F, F] tm := fun _ => rfl
theorem al6 : FI 121 IS := rfl
theorem aq0 : FF 121 := rfl
theorem an5 : ∀ tm : List a9, bF env 121 tm = aF [T, T, F, F, T, T, T, F, F, F, F, T, T, T, F, F, T, F, F, T] tm := fun _ => rfl
theorem al5 : FI 122 PM := rfl
theorem ap9 : FF 122 := rfl
theorem an4 : ∀ tm : List a9, bF env 122 tm = aF [T, F, T, F, F, F] tm := fun _ => rfl
theorem fi123 : FI 123 V6 := rfl
theorem ff123 : FF 123 := rfl
theorem an3 : ∀ tm : List a9, bF env 123 tm = aF [T, F, T, T, F, F, F, F, F, T, F, F, F, F, F, F, F, F, F, F, F, F, F, F, F, F, F, F] tm := fun _ => rfl
theorem al4 : FI 124 PL := rfl
theorem ap8 : FF 124 := rfl
theorem an1 : ∀ tm : List a9, bF env 124 tm = aF [T, F, T, F, F, F] tm := fun _ => rfl
theorem ay2 : ∀ args : List a9, fX env (aV env) 20 args = Ins.B9 args := fun _ => rfl
theorem ak6 : ∀ args : List a9, fX env (aV env) 104 args = (vG 128 oY.i) args := fun _ => rfl
theorem ak5 : ∀ args : List a9, fX env (aV env) 108 args = cN args := fun _ => rfl
theorem PI : ∀ args : List a9, fX env (aV env) 112 args = cN args := fun _ => rfl
theorem PH : ∀ args : List a9, fX env (aV env) 115 args = (gM 128) args := fun _ => rfl
theorem PG : ∀ args : List a9, fX env (aV env) 119 args = cN args := fun _ => rfl
theorem ac5 : ∀ ts l, cA env (9 :: ts) (.str l) = M.pure (.int .i64 (l.length : Nat)) := fun _ _ => rfl
theorem S4 : ∀ ts v, cA env (24 :: ts) v = M.pure (.int .i64 32) := fun _ _ => rfl
theorem S3 : ∀ ts v, cA env (25 :: ts) v = M.pure (.int .i64 32) := fun _ _ => rfl
theorem S2 : ∀ ts id off len cap sz, cA env (29 :: ts) (.sl id off len cap sz) = M.pure (.int .i64 (len : Nat)) := fun _ _ _ _ _ _ => rfl
theorem S0 : ∀ ts g sz off len, cA env (29 :: ts) (.isl g sz off len) = M.pure (.int .i64 (len : Nat)) := fun _ _ _ _ _ => rfl
theorem RZ : ∀ ts, cA env (29 :: ts) .aN = M.pure (.int .i64 0) := fun _ => rfl
theorem RY : ∀ ts, cA env (29 :: ts) .emp = M.pure (.int .i64 0) := fun _ => rfl
theorem RW : ∀ ts id off len cap sz, cA env (36 :: ts) (.sl id off len cap sz) = M.pure (.int .i64 (len : Nat)) := fun _ _ _ _ _ _ => rfl
theorem RU : ∀ ts g sz off len, cA env (36 :: ts) (.isl g sz off len) = M.pure (.int .i64 (len : Nat)) := fun _ _ _ _ _ => rfl
theorem RT : ∀ ts, cA env (36 :: ts) .aN = M.pure (.int .i64 0) := fun _ => rfl
theorem RS : ∀ ts, cA env (36 :: ts) .emp = M.pure (.int .i64 0) := fun _ => rfl
theorem RR : ∀ ts id off len cap sz, cA env (43 :: ts) (.sl id off len cap sz) = M.pure (.int .i64 (len : Nat)) := fun _ _ _ _ _ _ => rfl
theorem RQ : ∀ ts g sz off len, cA env (43 :: ts) (.isl g sz off len) = M.pure (.int .i64 (len : Nat)) := fun _ _ _ _ _ => rfl
theorem RM : ∀ ts, cA env (43 :: ts) .aN = M.pure (.int .i64 0) := fun _ => rfl
theorem RK : ∀ ts, cA env (43 :: ts) .emp = M.pure (.int .i64 0) := fun _ => rfl
theorem RJ : ∀ ts id off len cap sz, cA env (44 :: ts) (.sl id off len cap sz) = M.pure (.int .i64 (len : Nat)) := fun _ _ _ _ _ _ => rfl
theorem RI : ∀ ts g sz off len, cA env (44 :: ts) (.isl g sz off len) = M.pure (.int .i64 (len : Nat)) := fun _ _ _ _ _ => rfl
theorem RH : ∀ ts, cA env (44 :: ts) .aN = M.pure (.int .i64 0) := fun _ => rfl
theorem RG : ∀ ts, cA env (44 :: ts) .emp = M.pure (.int .i64 0) := fun _ => rfl
theorem RE : ∀ ts id off len cap sz, cA env (57 :: ts) (.sl id off len cap sz) = M.pure (.int .i64 (len : Nat)) := fun _ _ _ _ _ _ => rfl
theorem RD : ∀ ts g sz off len, cA env (57 :: ts) (.isl g sz off len) = M.pure (.int .i64 (len : Nat)) := fun _ _ _ _ _ => rfl
theorem RC : ∀ ts, cA env (57 :: ts) .aN = M.pure (.int .i64 0) := fun _ => rfl
theorem RA : ∀ ts, cA env (57 :: ts) .emp = M.pure (.int .i64 0) := fun _ => rfl
theorem at8 : ∀ ts id off len cap sz, cA env (81 :: ts) (.sl id off len cap sz) = M.pure (.int .i64 (len : Nat)) := fun _ _ _ _ _ _ => rfl
theorem at7 : ∀ ts g sz off len, cA env (81 :: ts) (.isl g sz off len) = M.pure (.int .i64 (len : Nat)) := fun _ _ _ _ _ => rfl
theorem at6 : ∀ ts, cA env (81 :: ts) .aN = M.pure (.int .i64 0) := fun _ => rfl
theorem as9 : ∀ ts, cA env (81 :: ts) .emp = M.pure (.int .i64 0) := fun _ => rfl
theorem R9 : ∀ ts id off len cap sz, cA env (95 :: ts) (.sl id off len cap sz) = M.pure (.int .i64 (len : Nat)) := fun _ _ _ _ _ _ => rfl
theorem R8 : ∀ ts g sz off len, cA env (95 :: ts) (.isl g sz off len) = M.pure (.int .i64 (len : Nat)) := fun _ _ _ _ _ => rfl
theorem R7 : ∀ ts, cA env (95 :: ts) .aN = M.pure (.int .i64 0) := fun _ => rfl
theorem R6 : ∀ ts, cA env (95 :: ts) .emp = M.pure (.int .i64 0) := fun _ => rfl
theorem ac9 : ∀ ts id off len cap sz, cA env (101 :: ts) (.sl id off len cap sz) = M.pure (.int .i64 (len : Nat)) := fun _ _ _ _ _ _ => rfl
theorem ac8 : ∀ ts g sz off len, cA env (101 :: ts) (.isl g sz off len) = M.pure (.int .i64 (len : Nat)) := fun _ _ _ _ _ => rfl
theorem ac7 : ∀ ts, cA env (101 :: ts) .aN = M.pure (.int .i64 0) := fun _ => rfl
theorem ac6 : ∀ ts, cA env (101 :: ts) .emp = M.pure (.int .i64 0) := fun _ => rfl
theorem HP : ∀ ts id off len cap sz, cA env (147 :: ts) (.sl id off len cap sz) = M.pure (.int .i64 (len : Nat)) := fun _ _ _ _ _ _ => rfl
theorem HO : ∀ ts g sz off len, cA env (147 :: ts) (.isl g sz off len) = M.pure (.int .i64 (len : Nat)) := fun _ _ _ _ _ => rfl
theorem HN : ∀ ts, cA env (147 :: ts) .aN = M.pure (.int .i64 0) := fun _ => rfl
theorem HM : ∀ ts, cA env (147 :: ts) .emp = M.pure (.int .i64 0) := fun _ => rfl
noncomputable def C5 : Code := (bC (Try.f17.body.getD .skip)).getD 0 .skip
noncomputable def C4 : Code := (bC (Try.f17.body.getD .skip)).getD 1 .skip
noncomputable def sU : Code := (bC (Try.f17.body.getD .skip)).getD 2 .skip
noncomputable def GJ : Code := (bC (Try.f18.body.getD .skip)).getD 0 .skip
noncomputable def GI : Code := (bC (Try.f21.body.getD .skip)).getD 0 .skip
noncomputable def GH : Code := (bC (Try.f22.body.getD .skip)).getD 0 .skip
noncomputable def NP : Code := ((cE (Try.f25.body.getD .skip)).getD 0 (.skip, .skip)).1
noncomputable def NK : Code := ((cE (Try.f25.body.getD .skip)).getD 0 (.skip, .skip)).2
noncomputable def GG : Code := (bC (Try.f35.body.getD .skip)).getD 0 .skip
noncomputable def NO : Code := ((cE (Try.f37.body.getD .skip)).getD 0 (.skip, .skip)).1
noncomputable def NJ : Code := ((cE (Try.f37.body.getD .skip)).getD 0 (.skip, .skip)).2
noncomputable def NN : Code := ((cE (Try.f43.body.getD .skip)).getD 0 (.skip, .skip)).1
noncomputable def NI : Code := ((cE (Try.f43.body.getD .skip)).getD 0 (.skip, .skip)).2
noncomputable def NM : Code := ((cE (Try.f49.body.getD .skip)).getD 0 (.skip, .skip)).1
noncomputable def NH : Code := ((cE (Try.f49.body.getD .skip)).getD 0 (.skip, .skip)).2
noncomputable def GF : Code := (bC (Try.f57.body.getD .skip)).getD 0 .skip
noncomputable def GD : Code := (bC (Try.f57.body.getD .skip)).getD 1 .skip
noncomputable def GC : Code := (bC (Try.f58.body.getD .skip)).getD 0 .skip
noncomputable def GB : Code := (bC (Try.f59.body.getD .skip)).getD 0 .skip
noncomputable def GA : Code := (bC (Try.f60.body.getD .skip)).getD 0 .skip
noncomputable def C3 : Code := (bC (Try.f61.body.getD .skip)).getD 0 .skip
noncomputable def XJ : Code := (bC (Try.f63.body.getD .skip)).getD 0 .skip
noncomputable def NL : Code := ((cE (Try.f67.body.getD .skip)).getD 0 (.skip, .skip)).1
noncomputable def NG : Code := ((cE (Try.f67.body.getD .skip)).getD 0 (.skip, .skip)).2
noncomputable def G9 : Code := (bC (Try.f69.body.getD .skip)).getD 0 .skip
noncomputable def G8 : Code := (bC (Try.f69.body.getD .skip)).getD 1 .skip
noncomputable def G7 : Code := (bC (Try.f74.body.getD .skip)).getD 0 .skip
noncomputable def G6 : Code := (bC (Try.f87.body.getD .skip)).getD 0 .skip
noncomputable def G5 : Code := (bC (Try.f96.body.getD .skip)).getD 0 .skip
noncomputable def C9 : Code := (bC (Try.f102.body.getD .skip)).getD 0 .skip
noncomputable def I9 : Code := ((cE (Try.f106.body.getD .skip)).getD 0 (.skip, .skip)).1
noncomputable def I8 : Code := ((cE (Try.f106.body.getD .skip)).getD 0 (.skip, .skip)).2
noncomputable def C8 : Code := (bC (Try.f109.body.getD .skip)).getD 0 .skip
noncomputable def C7 : Code := (bC (Try.f113.body.getD .skip)).getD 0 .skip
noncomputable def C6 : Code := (bC (Try.f113.body.getD .skip)).getD 1 .skip
noncomputable def wY : Code := (bC (Try.f114.body.getD .skip)).getD 0 .skip
noncomputable def au5 : Code := (bC (Try.f123.body.getD .skip)).getD 0 .skip
def tyr := (And.intro ti2 (And.intro ti3 (And.intro ti4 (And.intro ti5 (And.intro ti9 (And.intro WW (And.intro WV (And.intro ax1 (And.intro WU (And.intro JK (And.intro WT (And.intro nC (And.intro pK (And.intro WS (And.intro gG (And.intro uY (And.intro WR (And.intro cY (And.intro D9 (And.intro ax0 (And.intro WQ (And.intro aw9 (And.intro WO (And.intro MH (And.intro pJ (And.intro FP (And.intro WN (And.intro mG (And.intro WM (And.intro zE (And.intro aw8 (And.intro pD (And.intro tH (And.intro WL (And.intro MG (And.intro WK (And.intro fQ (And.intro aw7 (And.intro aw6 (And.intro aw5 (And.intro aw4 (And.intro aw3 (And.intro aw2 (And.intro aw1 (And.intro pI (And.intro JJ (And.intro WJ (And.intro WI (And.intro WH (And.intro I2 (And.intro ah9 (And.intro ah8 (And.intro MV (And.intro A1 (And.intro ah7 (And.intro ah6 (And.intro ah5 (And.intro ah4 (And.intro MU (And.intro ah3 (And.intro ah2 (And.intro ah1 (And.intro iT (And.intro MT (And.intro ah0 (And.intro ag9 (And.intro MS (And.intro ag8 (And.intro ag7 (And.intro ag6 (And.intro MR (And.intro ag5 (And.intro MQ (And.intro ag4 (And.intro MP (And.intro MO (And.intro MN (And.intro MM (And.intro ML (And.intro MK (And.intro MJ MI)))))))))))))))))))))))))))))))))))))))))))))))))))))))))))))))))))))))))))))))))
def blr := (And.intro ac5 (And.intro S4 (And.intro S3 (And.intro S2 (And.intro S0 (And.intro RZ (And.intro RY (And.intro RW (And.intro RU (And.intro RT (And.intro RS (And.intro RR (And.intro RQ (And.intro RM (And.intro RK (And.intro RJ (And.intro RI (And.intro RH (And.intro RG (And.intro RE (And.intro RD (And.intro RC (And.intro RA (And.intro at8 (And.intro at7 (And.intro at6 (And.intro as9 (And.intro R9 (And.intro R8 (And.intro R7 (And.intro R6 (And.intro ac9 (And.intro ac8 (And.intro ac7 (And.intro ac6 (And.intro HP (And.intro HO (And.intro HN HM))))))))))))))))))))))))))))))))))))))
def fgr := (And.intro aK0 (And.intro aJ9 (And.intro aJ8 (And.intro aJ7 (And.intro U4 (And.intro aJ6 (And.intro aJ5 (And.intro aJ3 (And.intro aJ2 (And.intro aJ1 (And.intro aJ0 (And.intro aI9 (And.intro aI8 (And.intro aI7 (And.intro aI6 (And.intro aI5 (And.intro aI4 (And.intro aI3 (And.intro aI2 (And.intro aI1 (And.intro aI0 (And.intro aH9 (And.intro aH8 (And.intro aH7 (And.intro aH6 (And.intro aH5 (And.intro aH4 (And.intro aH3 (And.intro aH2 (And.intro aH1 (And.intro aH0 (And.intro aG9 (And.intro aG8 (And.intro aa3 (And.intro aa2 (And.intro aa1 (And.intro aa0 (And.intro aG7 (And.intro aG6 (And.intro aG5 (And.intro aG4 (And.intro aG3 (And.intro aG2 (And.intro aG1 (And.intro aG0 (And.intro aF9 (And.intro aF8 (And.intro aF7 (And.intro aF6 (And.intro aF5 (And.intro aF4 (And.intro aF3 (And.intro aF2 (And.intro aF1 (And.intro aF0 (And.intro aE9 (And.intro aE8 (And.intro aE7 (And.intro aE6 (And.intro aE5 (And.intro aE4 (And.intro aE3 (And.intro ZZ (And.intro ZY (And.intro aE2 (And.intro ap2 (And.intro ap1 (And.intro ap0 (And.intro ao9 (And.intro ao7 (And.intro ao6 (And.intro ao5 (And.intro ao3 (And.intro ao2 (And.intro ao1 (And.intro ao0 (And.intro an9 (And.intro an8 (And.intro an7 (And.intro an6 (And.intro an5 (And.intro an4 (And.intro an3 (And.intro an1 (And.intro (NB 13 rfl) (And.intro (NB 14 rfl) (And.intro (NB 15 rfl) (And.intro (NB 16 rfl) (And.intro ON (And.intro OM (And.intro OL (And.intro OK (And.intro OJ (And.intro (NB 18 rfl) (And.intro (NB 19 rfl) (And.intro (NB 21 rfl) (And.intro (NB 22 rfl) (And.intro (NB 24 rfl) (And.intro (NB 25 rfl) (And.intro (NB 26 rfl) (And.intro (NB 27 rfl) (And.intro (NB 28 rfl) (And.intro (NB 32 rfl) (And.intro (NB 33 rfl) (And.intro (NB 34 rfl) (And.intro (NB 35 rfl) (And.intro (NB 36 rfl) (And.intro (NB 37 rfl) (And.intro (NB 38 rfl) (And.intro (NB 39 rfl) (And.intro (NB 40 rfl) (And.intro (NB 41 rfl) (And.intro (NB 42 rfl) (And.intro (NB 43 rfl) (And.intro (NB 49 rfl) (And.intro (NB 57 rfl) (And.intro (NB 58 rfl) (And.intro (NB 59 rfl) (And.intro (NB 60 rfl) (And.intro (NB 61 rfl) (And.intro (NB 62 rfl) (And.intro (NB 63 rfl) (And.intro (NB 64 rfl) (And.intro (NB 65 rfl) (And.intro (NB 66 rfl) (And.intro (NB 67 rfl) (And.intro (NB 68 rfl) (And.intro (NB 69 rfl) (And.intro (NB 70 rfl) (And.intro (NB 71 rfl) (And.intro (NB 72 rfl) (And.intro (NB 73 rfl) (And.intro (NB 74 rfl) (And.intro (NB 75 rfl) (And.intro (NB 76 rfl) (And.intro (NB 77 rfl) (And.intro (NB 78 rfl) (And.intro (NB 79 rfl) (And.intro (NB 80 rfl) (And.intro (NB 81 rfl) (And.intro (NB 82 rfl) (And.intro (NB 83 rfl) (And.intro (NB 84 rfl) (And.intro (NB 85 rfl) (And.intro (NB 86 rfl) (And.intro (NB 87 rfl) (And.intro (NB 88 rfl) (And.intro (NB 89 rfl) (And.intro (NB 90 rfl) (And.intro (NB 96 rfl) (And.intro (NB 97 rfl) (And.intro (NB 98 rfl) (And.intro (NB 99 rfl) (And.intro (NB 100 rfl) (And.intro (NB 101 rfl) (And.intro (NB 102 rfl) (And.intro (NB 103 rfl) (And.intro (NB 105 rfl) (And.intro (NB 106 rfl) (And.intro (NB 107 rfl) (And.intro (NB 109 rfl) (And.intro (NB 111 rfl) (And.intro (NB 113 rfl) (And.intro (NB 114 rfl) (And.intro (NB 116 rfl) (And.intro (NB 117 rfl) (And.intro (NB 118 rfl) (And.intro (NB 120 rfl) (And.intro (NB 121 rfl) (And.intro (NB 122 rfl) (And.intro (NB 123 rfl) (NB 124 rfl))))))))))))))))))))))))))))))))))))))))))))))))))))))))))))))))))))))))))))))))))))))))))))))))))))))))))))))))))))))))))))))))))))))))))))))))))))))))))))))))))))))))))))
def hkr := (And.intro (HK 13 rfl) (And.intro (HK 14 rfl) (And.intro (HK 15 rfl) (And.intro (HK 16 rfl) (And.intro (HK 17 rfl) (And.intro (HK 18 rfl) (And.intro (HK 19 rfl) (And.intro (HK 21 rfl) (And.intro (HK 22 rfl) (And.intro (HK 24 rfl) (And.intro (HK 25 rfl) (And.intro (HK 26 rfl) (And.intro (HK 27 rfl) (And.intro (HK 28 rfl) (And.intro (HK 32 rfl) (And.intro (HK 33 rfl) (And.intro (HK 34 rfl) (And.intro (HK 35 rfl) (And.intro (HK 36 rfl) (And.intro (HK 37 rfl) (And.intro (HK 38 rfl) (And.intro (HK 39 rfl) (And.intro (HK 40 rfl) (And.intro (HK 41 rfl) (And.intro (HK 42 rfl) (And.intro (HK 43 rfl) (And.intro (HK 49 rfl) (And.intro (HK 57 rfl) (And.intro (HK 58 rfl) (And.intro (HK 59 rfl) (And.intro (HK 60 rfl) (And.intro (HK 61 rfl) (And.intro (HK 62 rfl) (And.intro (HK 63 rfl) (And.intro (HK 64 rfl) (And.intro (HK 65 rfl) (And.intro (HK 66 rfl) (And.intro (HK 67 rfl) (And.intro (HK 68 rfl) (And.intro (HK 69 rfl) (And.intro (HK 70 rfl) (And.intro (HK 71 rfl) (And.intro (HK 72 rfl) (And.intro (HK 73 rfl) (And.intro (HK 74 rfl) (And.intro (HK 75 rfl) (And.intro (HK 76 rfl) (And.intro (HK 77 rfl) (And.intro (HK 78 rfl) (And.intro (HK 79 rfl) (And.intro (HK 80 rfl) (And.intro (HK 81 rfl) (And.intro (HK 82 rfl) (And.intro (HK 83 rfl) (And.intro (HK 84 rfl) (And.intro (HK 85 rfl) (And.intro (HK 86 rfl) (And.intro (HK 87 rfl) (And.intro (HK 88 rfl) (And.intro (HK 89 rfl) (And.intro (HK 90 rfl) (And.intro (HK 96 rfl) (And.intro (HK 97 rfl) (And.intro (HK 98 rfl) (And.intro (HK 99 rfl) (And.intro (HK 100 rfl) (And.intro (HK 101 rfl) (And.intro (HK 102 rfl) (And.intro (HK 103 rfl) (And.intro (HK 105 rfl) (And.intro (HK 106 rfl) (And.intro (HK 107 rfl) (And.intro (HK 109 rfl) (And.intro (HK 111 rfl) (And.intro (HK 113 rfl) (And.intro (HK 114 rfl) (And.intro (HK 116 rfl) (And.intro (HK 117 rfl) (And.intro (HK 118 rfl) (And.intro (HK 120 rfl) (And.intro (HK 121 rfl) (And.intro (HK 122 rfl) (And.intro (HK 123 rfl) (And.intro (HK 124 rfl) (And.intro ay2 (And.intro ak6 (And.intro ak5 (And.intro PI (And.intro PH PG)))))))))))))))))))))))))))))))))))))))))))))))))))))))))))))))))))))))))))))))))))))))))
end Go.Am.Ytlgebaofkolkoaa
