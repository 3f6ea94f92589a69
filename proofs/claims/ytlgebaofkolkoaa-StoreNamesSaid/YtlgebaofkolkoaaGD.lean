/- What the statement reaches, gone through; and the abstract machine that goes through it. -/
import Derived.Test.YtlgebaofkolkoaaGC
import Derived.KernelRfl
import Derived.Test.YtlgebaofkolkoaaProg
set_option maxRecDepth 100000
set_option linter.defProp false
namespace Go.Am.Ytlgebaofkolkoaa
open Go Go.Am Go.Proofs
noncomputable def ty2 : TE Try.prog := ⟨2, ⟨Try.t2.desc, 1, 8, .int .i64 (0)⟩, ⟨⟨Try.t2, _, rfl, rfl, rfl, rfl, rfl⟩, rfl, rfl, Try.underlying2⟩⟩
noncomputable def ty3 : TE Try.prog := ⟨3, ⟨Try.t3.desc, 1, 8, .int .i64 (0)⟩, ⟨⟨Try.t3, _, rfl, rfl, rfl, rfl, rfl⟩, rfl, rfl, Try.underlying3⟩⟩
noncomputable def ty4 : TE Try.prog := ⟨4, ⟨Try.t4.desc, 1, 1, .bool false⟩, ⟨⟨Try.t4, _, rfl, rfl, rfl, rfl, rfl⟩, rfl, rfl, Try.underlying4⟩⟩
noncomputable def ty5 : TE Try.prog := ⟨5, ⟨Try.t5.desc, 1, 1, .int .u8 (0)⟩, ⟨⟨Try.t5, _, rfl, rfl, rfl, rfl, rfl⟩, rfl, rfl, Try.underlying5⟩⟩
noncomputable def ty9 : TE Try.prog := ⟨9, ⟨Try.t9.desc, 1, 16, .str []⟩, ⟨⟨Try.t9, _, rfl, rfl, rfl, rfl, rfl⟩, rfl, rfl, Try.underlying9⟩⟩
noncomputable def TY : TE Try.prog := ⟨12, ⟨Try.t12.desc, 1, 8, .int .u64 (0)⟩, ⟨⟨Try.t12, _, rfl, rfl, rfl, rfl, rfl⟩, rfl, rfl, Try.underlying12⟩⟩
noncomputable def TX : TE Try.prog := ⟨17, ⟨Try.t17.desc, 1, 8, .dP⟩, ⟨⟨Try.t17, _, rfl, rfl, rfl, rfl, rfl⟩, rfl, rfl, Try.underlying17⟩⟩
noncomputable def ak1 : TE Try.prog := ⟨18, ⟨Try.t18.desc, 1, 8, .agg [.dP]⟩, ⟨⟨Try.t18, _, rfl, rfl, rfl, rfl, rfl⟩, rfl, rfl, Try.underlying18⟩⟩
noncomputable def TW : TE Try.prog := ⟨21, ⟨Try.t21.desc, 1, 4, .int .i32 (0)⟩, ⟨⟨Try.t21, _, rfl, rfl, rfl, rfl, rfl⟩, rfl, rfl, Try.underlying21⟩⟩
noncomputable def TV : TE Try.prog := ⟨22, ⟨Try.t22.desc, 1, 8, .dP⟩, ⟨⟨Try.t22, _, rfl, rfl, rfl, rfl, rfl⟩, rfl, rfl, Try.underlying22⟩⟩
noncomputable def TU : TE Try.prog := ⟨24, ⟨Try.t24.desc, 32, 32, .agg (l8 [(32, .int .u8 (0))])⟩, ⟨⟨Try.t24, _, rfl, rfl, rfl, rfl, rfl⟩, rfl, rfl, Try.underlying24⟩⟩
noncomputable def EA : TE Try.prog := ⟨25, ⟨Try.t24.desc, 32, 32, .agg (l8 [(32, .int .u8 (0))])⟩, ⟨⟨Try.t25, _, rfl, rfl, rfl, rfl, rfl⟩, rfl, rfl, Try.underlying25⟩⟩
noncomputable def TS : TE Try.prog := ⟨26, ⟨Try.t26.desc, 1, 4, .int .u32 (0)⟩, ⟨⟨Try.t26, _, rfl, rfl, rfl, rfl, rfl⟩, rfl, rfl, Try.underlying26⟩⟩
noncomputable def TR : TE Try.prog := ⟨27, ⟨Try.t27.desc, 33, 36, .agg (l8 [(32, .int .u8 (0)), (1, .int .u32 (0))])⟩, ⟨⟨Try.t27, _, rfl, rfl, rfl, rfl, rfl⟩, rfl, rfl, Try.underlying27⟩⟩
noncomputable def HT : TE Try.prog := ⟨28, ⟨Try.t27.desc, 33, 36, .agg (l8 [(32, .int .u8 (0)), (1, .int .u32 (0))])⟩, ⟨⟨Try.t28, _, rfl, rfl, rfl, rfl, rfl⟩, rfl, rfl, Try.underlying28⟩⟩
noncomputable def TQ : TE Try.prog := ⟨29, ⟨Try.t29.desc, 1, 24, .aV⟩, ⟨⟨Try.t29, _, rfl, rfl, rfl, rfl, rfl⟩, rfl, rfl, Try.underlying29⟩⟩
noncomputable def TP : TE Try.prog := ⟨30, ⟨Try.t30.desc, 70, 128, .agg (l8 [(32, .int .u8 (0)), (1, .int .u32 (0)), (2, .int .i64 (0)), (1, .aV), (1, .bool false), (1, .int .i64 (0)), (32, .int .u8 (0))])⟩, ⟨⟨Try.t30, _, rfl, rfl, rfl, rfl, rfl⟩, rfl, rfl, Try.underlying30⟩⟩
noncomputable def fX : TE Try.prog := ⟨31, ⟨Try.t30.desc, 70, 128, .agg (l8 [(32, .int .u8 (0)), (1, .int .u32 (0)), (2, .int .i64 (0)), (1, .aV), (1, .bool false), (1, .int .i64 (0)), (32, .int .u8 (0))])⟩, ⟨⟨Try.t31, _, rfl, rfl, rfl, rfl, rfl⟩, rfl, rfl, Try.underlying31⟩⟩
noncomputable def TO : TE Try.prog := ⟨32, ⟨Try.t3.desc, 1, 8, .int .i64 (0)⟩, ⟨⟨Try.t32, _, rfl, rfl, rfl, rfl, rfl⟩, rfl, rfl, Try.underlying32⟩⟩
noncomputable def TN : TE Try.prog := ⟨36, ⟨Try.t36.desc, 1, 24, .aV⟩, ⟨⟨Try.t36, _, rfl, rfl, rfl, rfl, rfl⟩, rfl, rfl, Try.underlying36⟩⟩
noncomputable def ak0 : TE Try.prog := ⟨37, ⟨Try.t37.desc, 1, 0, .tup [.aV, .int .i64 (0)]⟩, ⟨⟨Try.t37, _, rfl, rfl, rfl, rfl, rfl⟩, rfl, rfl, Try.underlying37⟩⟩
noncomputable def TL : TE Try.prog := ⟨40, ⟨Try.t40.desc, 2, 32, .agg [.aV, .int .i64 (0)]⟩, ⟨⟨Try.t40, _, rfl, rfl, rfl, rfl, rfl⟩, rfl, rfl, Try.underlying40⟩⟩
noncomputable def PR : TE Try.prog := ⟨41, ⟨Try.t40.desc, 2, 32, .agg [.aV, .int .i64 (0)]⟩, ⟨⟨Try.t41, _, rfl, rfl, rfl, rfl, rfl⟩, rfl, rfl, Try.underlying41⟩⟩
noncomputable def TK : TE Try.prog := ⟨43, ⟨Try.t43.desc, 1, 24, .aV⟩, ⟨⟨Try.t43, _, rfl, rfl, rfl, rfl, rfl⟩, rfl, rfl, Try.underlying43⟩⟩
noncomputable def TJ : TE Try.prog := ⟨44, ⟨Try.t44.desc, 1, 24, .aV⟩, ⟨⟨Try.t44, _, rfl, rfl, rfl, rfl, rfl⟩, rfl, rfl, Try.underlying44⟩⟩
noncomputable def TG : TE Try.prog := ⟨45, ⟨Try.t45.desc, 37, 104, .agg (l8 [(1, .int .i64 (0)), (32, .int .u8 (0)), (2, .aV), (2, .int .i64 (0))])⟩, ⟨⟨Try.t45, _, rfl, rfl, rfl, rfl, rfl⟩, rfl, rfl, Try.underlying45⟩⟩
noncomputable def TF : TE Try.prog := ⟨46, ⟨Try.t45.desc, 37, 104, .agg (l8 [(1, .int .i64 (0)), (32, .int .u8 (0)), (2, .aV), (2, .int .i64 (0))])⟩, ⟨⟨Try.t46, _, rfl, rfl, rfl, rfl, rfl⟩, rfl, rfl, Try.underlying46⟩⟩
noncomputable def TD : TE Try.prog := ⟨47, ⟨Try.t47.desc, 65, 68, .agg (l8 [(32, .int .u8 (0)), (1, .int .u32 (0)), (32, .int .u8 (0))])⟩, ⟨⟨Try.t47, _, rfl, rfl, rfl, rfl, rfl⟩, rfl, rfl, Try.underlying47⟩⟩
noncomputable def C7 : TE Try.prog := ⟨48, ⟨Try.t47.desc, 65, 68, .agg (l8 [(32, .int .u8 (0)), (1, .int .u32 (0)), (32, .int .u8 (0))])⟩, ⟨⟨Try.t48, _, rfl, rfl, rfl, rfl, rfl⟩, rfl, rfl, Try.underlying48⟩⟩
noncomputable def aj9 : TE Try.prog := ⟨49, ⟨Try.t49.desc, 1, 8, .dI⟩, ⟨⟨Try.t49, _, rfl, rfl, rfl, rfl, rfl⟩, rfl, rfl, Try.underlying49⟩⟩
noncomputable def TC : TE Try.prog := ⟨56, ⟨Try.t56.desc, 1, 8, .dP⟩, ⟨⟨Try.t56, _, rfl, rfl, rfl, rfl, rfl⟩, rfl, rfl, Try.underlying56⟩⟩
noncomputable def PQ : TE Try.prog := ⟨57, ⟨Try.t57.desc, 1, 24, .aV⟩, ⟨⟨Try.t57, _, rfl, rfl, rfl, rfl, rfl⟩, rfl, rfl, Try.underlying57⟩⟩
noncomputable def TB : TE Try.prog := ⟨58, ⟨Try.t58.desc, 2, 32, .agg [.dP, .aV]⟩, ⟨⟨Try.t58, _, rfl, rfl, rfl, rfl, rfl⟩, rfl, rfl, Try.underlying58⟩⟩
noncomputable def TA : TE Try.prog := ⟨59, ⟨Try.t58.desc, 2, 32, .agg [.dP, .aV]⟩, ⟨⟨Try.t59, _, rfl, rfl, rfl, rfl, rfl⟩, rfl, rfl, Try.underlying59⟩⟩
noncomputable def T9 : TE Try.prog := ⟨60, ⟨Try.t60.desc, 37, 72, .agg (l8 [(1, .int .i64 (0)), (32, .int .u8 (0)), (4, .int .i64 (0))])⟩, ⟨⟨Try.t60, _, rfl, rfl, rfl, rfl, rfl⟩, rfl, rfl, Try.underlying60⟩⟩
noncomputable def uD : TE Try.prog := ⟨61, ⟨Try.t60.desc, 37, 72, .agg (l8 [(1, .int .i64 (0)), (32, .int .u8 (0)), (4, .int .i64 (0))])⟩, ⟨⟨Try.t61, _, rfl, rfl, rfl, rfl, rfl⟩, rfl, rfl, Try.underlying61⟩⟩
noncomputable def aj8 : TE Try.prog := ⟨67, ⟨Try.t67.desc, 1, 8, .dI⟩, ⟨⟨Try.t67, _, rfl, rfl, rfl, rfl, rfl⟩, rfl, rfl, Try.underlying67⟩⟩
noncomputable def aj7 : TE Try.prog := ⟨69, ⟨Try.t69.desc, 1, 8, .dI⟩, ⟨⟨Try.t69, _, rfl, rfl, rfl, rfl, rfl⟩, rfl, rfl, Try.underlying69⟩⟩
noncomputable def aj6 : TE Try.prog := ⟨74, ⟨Try.t74.desc, 1, 8, .dI⟩, ⟨⟨Try.t74, _, rfl, rfl, rfl, rfl, rfl⟩, rfl, rfl, Try.underlying74⟩⟩
noncomputable def aj5 : TE Try.prog := ⟨77, ⟨Try.t77.desc, 1, 8, .dI⟩, ⟨⟨Try.t77, _, rfl, rfl, rfl, rfl, rfl⟩, rfl, rfl, Try.underlying77⟩⟩
noncomputable def aj4 : TE Try.prog := ⟨81, ⟨Try.t81.desc, 1, 24, .aV⟩, ⟨⟨Try.t81, _, rfl, rfl, rfl, rfl, rfl⟩, rfl, rfl, Try.underlying81⟩⟩
noncomputable def T8 : TE Try.prog := ⟨95, ⟨Try.t95.desc, 1, 24, .aV⟩, ⟨⟨Try.t95, _, rfl, rfl, rfl, rfl, rfl⟩, rfl, rfl, Try.underlying95⟩⟩
noncomputable def T7 : TE Try.prog := ⟨96, ⟨Try.t96.desc, 1, 8, .dI⟩, ⟨⟨Try.t96, _, rfl, rfl, rfl, rfl, rfl⟩, rfl, rfl, Try.underlying96⟩⟩
noncomputable def T6 : TE Try.prog := ⟨97, ⟨Try.t97.desc, 2, 32, .agg [.aV, .dI]⟩, ⟨⟨Try.t97, _, rfl, rfl, rfl, rfl, rfl⟩, rfl, rfl, Try.underlying97⟩⟩
noncomputable def T5 : TE Try.prog := ⟨98, ⟨Try.t97.desc, 2, 32, .agg [.aV, .dI]⟩, ⟨⟨Try.t98, _, rfl, rfl, rfl, rfl, rfl⟩, rfl, rfl, Try.underlying98⟩⟩
noncomputable def T4 : TE Try.prog := ⟨99, ⟨Try.t99.desc, 5, 72, .agg [.bool false, .aV, .dI, .aV, .dI]⟩, ⟨⟨Try.t99, _, rfl, rfl, rfl, rfl, rfl⟩, rfl, rfl, Try.underlying99⟩⟩
noncomputable def K3 : TE Try.prog := ⟨100, ⟨Try.t99.desc, 5, 72, .agg [.bool false, .aV, .dI, .aV, .dI]⟩, ⟨⟨Try.t100, _, rfl, rfl, rfl, rfl, rfl⟩, rfl, rfl, Try.underlying100⟩⟩
noncomputable def Y6 : TE Try.prog := ⟨102, ⟨Try.t102.desc, 1, 8, .dI⟩, ⟨⟨Try.t102, _, rfl, rfl, rfl, rfl, rfl⟩, rfl, rfl, Try.underlying102⟩⟩
noncomputable def Y4 : TE Try.prog := ⟨106, ⟨Try.t106.desc, 1, 8, .dI⟩, ⟨⟨Try.t106, _, rfl, rfl, rfl, rfl, rfl⟩, rfl, rfl, Try.underlying106⟩⟩
noncomputable def Y3 : TE Try.prog := ⟨109, ⟨Try.t109.desc, 1, 8, .dI⟩, ⟨⟨Try.t109, _, rfl, rfl, rfl, rfl, rfl⟩, rfl, rfl, Try.underlying109⟩⟩
noncomputable def Y2 : TE Try.prog := ⟨113, ⟨Try.t113.desc, 1, 8, .dI⟩, ⟨⟨Try.t113, _, rfl, rfl, rfl, rfl, rfl⟩, rfl, rfl, Try.underlying113⟩⟩
noncomputable def Y1 : TE Try.prog := ⟨114, ⟨Try.t114.desc, 1, 8, .dI⟩, ⟨⟨Try.t114, _, rfl, rfl, rfl, rfl, rfl⟩, rfl, rfl, Try.underlying114⟩⟩
noncomputable def K2 : TE Try.prog := ⟨115, ⟨Try.t115.desc, 1, 8, .lJ⟩, ⟨⟨Try.t115, _, rfl, rfl, rfl, rfl, rfl⟩, rfl, rfl, Try.underlying115⟩⟩
noncomputable def Y0 : TE Try.prog := ⟨120, ⟨Try.t120.desc, 1, 8, .int .u64 (0)⟩, ⟨⟨Try.t120, _, rfl, rfl, rfl, rfl, rfl⟩, rfl, rfl, Try.underlying120⟩⟩
noncomputable def XZ : TE Try.prog := ⟨124, ⟨Try.t124.desc, 1, 8, .dI⟩, ⟨⟨Try.t124, _, rfl, rfl, rfl, rfl, rfl⟩, rfl, rfl, Try.underlying124⟩⟩
noncomputable def XY : TE Try.prog := ⟨125, ⟨Try.t124.desc, 1, 8, .dI⟩, ⟨⟨Try.t125, _, rfl, rfl, rfl, rfl, rfl⟩, rfl, rfl, Try.underlying125⟩⟩
noncomputable def oV : TE Try.prog := ⟨128, ⟨Try.t128.desc, 1, 8, .dP⟩, ⟨⟨Try.t128, _, rfl, rfl, rfl, rfl, rfl⟩, rfl, rfl, Try.underlying128⟩⟩
noncomputable def XX : TE Try.prog := ⟨129, ⟨Try.t129.desc, 1, 8, .dI⟩, ⟨⟨Try.t129, _, rfl, rfl, rfl, rfl, rfl⟩, rfl, rfl, Try.underlying129⟩⟩
noncomputable def XW : TE Try.prog := ⟨134, ⟨Try.t134.desc, 1, 8, .dI⟩, ⟨⟨Try.t134, _, rfl, rfl, rfl, rfl, rfl⟩, rfl, rfl, Try.underlying134⟩⟩
noncomputable def XV : TE Try.prog := ⟨135, ⟨Try.t134.desc, 1, 8, .dI⟩, ⟨⟨Try.t135, _, rfl, rfl, rfl, rfl, rfl⟩, rfl, rfl, Try.underlying135⟩⟩
noncomputable def K1 : TE Try.prog := ⟨147, ⟨Try.t147.desc, 1, 24, .aV⟩, ⟨⟨Try.t147, _, rfl, rfl, rfl, rfl, rfl⟩, rfl, rfl, Try.underlying147⟩⟩
noncomputable def XU : TE Try.prog := ⟨150, ⟨Try.t150.desc, 1, 8, .dI⟩, ⟨⟨Try.t150, _, rfl, rfl, rfl, rfl, rfl⟩, rfl, rfl, Try.underlying150⟩⟩
noncomputable def XT : TE Try.prog := ⟨151, ⟨Try.t150.desc, 1, 8, .dI⟩, ⟨⟨Try.t151, _, rfl, rfl, rfl, rfl, rfl⟩, rfl, rfl, Try.underlying151⟩⟩
noncomputable def XS : TE Try.prog := ⟨153, ⟨Try.t153.desc, 1, 8, .dI⟩, ⟨⟨Try.t153, _, rfl, rfl, rfl, rfl, rfl⟩, rfl, rfl, Try.underlying153⟩⟩
noncomputable def XR : TE Try.prog := ⟨156, ⟨Try.t156.desc, 1, 8, .dP⟩, ⟨⟨Try.t156, _, rfl, rfl, rfl, rfl, rfl⟩, rfl, rfl, Try.underlying156⟩⟩
noncomputable def XQ : TE Try.prog := ⟨160, ⟨Try.t160.desc, 1, 8, .dI⟩, ⟨⟨Try.t160, _, rfl, rfl, rfl, rfl, rfl⟩, rfl, rfl, Try.underlying160⟩⟩
noncomputable def K0 : TE Try.prog := ⟨161, ⟨Try.t161.desc, 1, 8, .lJ⟩, ⟨⟨Try.t161, _, rfl, rfl, rfl, rfl, rfl⟩, rfl, rfl, Try.underlying161⟩⟩
noncomputable def XP : TE Try.prog := ⟨166, ⟨Try.t166.desc, 1, 8, .int .u64 (0)⟩, ⟨⟨Try.t166, _, rfl, rfl, rfl, rfl, rfl⟩, rfl, rfl, Try.underlying166⟩⟩
noncomputable def JZ : TE Try.prog := ⟨176, ⟨Try.t5.desc, 1, 1, .int .u8 (0)⟩, ⟨⟨Try.t176, _, rfl, rfl, rfl, rfl, rfl⟩, rfl, rfl, Try.underlying176⟩⟩
noncomputable def JY : TE Try.prog := ⟨177, ⟨Try.t5.desc, 1, 1, .int .u8 (0)⟩, ⟨⟨Try.t177, _, rfl, rfl, rfl, rfl, rfl⟩, rfl, rfl, Try.underlying177⟩⟩
noncomputable def JX : TE Try.prog := ⟨178, ⟨Try.t178.desc, 1, 8, .dI⟩, ⟨⟨Try.t178, _, rfl, rfl, rfl, rfl, rfl⟩, rfl, rfl, Try.underlying178⟩⟩
noncomputable def JW : TE Try.prog := ⟨179, ⟨Try.t179.desc, 1, 8, .dP⟩, ⟨⟨Try.t179, _, rfl, rfl, rfl, rfl, rfl⟩, rfl, rfl, Try.underlying179⟩⟩
noncomputable def JV : TE Try.prog := ⟨180, ⟨Try.t21.desc, 1, 4, .int .i32 (0)⟩, ⟨⟨Try.t180, _, rfl, rfl, rfl, rfl, rfl⟩, rfl, rfl, Try.underlying180⟩⟩
noncomputable def JU : TE Try.prog := ⟨181, ⟨Try.t21.desc, 1, 4, .int .i32 (0)⟩, ⟨⟨Try.t181, _, rfl, rfl, rfl, rfl, rfl⟩, rfl, rfl, Try.underlying181⟩⟩
noncomputable def JT : TE Try.prog := ⟨182, ⟨Try.t182.desc, 11, 48, .agg [.int .u64 (0), .int .u64 (0), .int .u32 (0), .int .u8 (0), .int .u8 (0), .int .u8 (0), .int .u8 (0), .dI, .dP, .int .i32 (0), .int .i32 (0)]⟩, ⟨⟨Try.t182, _, rfl, rfl, rfl, rfl, rfl⟩, rfl, rfl, Try.underlying182⟩⟩
noncomputable def JS : TE Try.prog := ⟨183, ⟨Try.t182.desc, 11, 48, .agg [.int .u64 (0), .int .u64 (0), .int .u32 (0), .int .u8 (0), .int .u8 (0), .int .u8 (0), .int .u8 (0), .dI, .dP, .int .i32 (0), .int .i32 (0)]⟩, ⟨⟨Try.t183, _, rfl, rfl, rfl, rfl, rfl⟩, rfl, rfl, Try.underlying183⟩⟩
noncomputable def fu3 : FE Try.prog := ⟨3, ⟨Try.f3.body.getD .skip, 436, [.tmp 0], some (rle true [5, 1, 2, 2, 1, 2, 31, 1, 1, 1, 2, 387])⟩, ⟨⟨Try.f3, Try.func3, rfl, rfl, rfl⟩, Try.call3⟩⟩
noncomputable def WQ : FE Try.prog := ⟨14, ⟨Try.f14.body.getD .skip, 38, [.tmp 0], some (rle true [4, 32, 1, 1])⟩, ⟨⟨Try.f14, Try.func14, rfl, rfl, rfl⟩, Try.call14⟩⟩
noncomputable def WO : FE Try.prog := ⟨15, ⟨Try.f15.body.getD .skip, 37, [.cell 6 31, .tmp 7, .tmp 8], some (rle true [3, 1, 1, 1, 3, 1, 3, 7, 1, 16])⟩, ⟨⟨Try.f15, Try.func15, rfl, rfl, rfl⟩, Try.call15⟩⟩
noncomputable def WN : FE Try.prog := ⟨16, ⟨Try.f16.body.getD .skip, 5, [.cell 2 28], some (rle true [1, 1, 1, 2])⟩, ⟨⟨Try.f16, Try.func16, rfl, rfl, rfl⟩, Try.call16⟩⟩
noncomputable def EX : FE Try.prog := ⟨17, ⟨Try.f17.body.getD .skip, 85, [.tmp 6, .tmp 7], some (rle true [3, 3, 2, 1, 2, 1, 6, 7, 1, 7, 4, 19, 1, 1, 1, 1, 1, 11, 1, 12])⟩, ⟨⟨Try.f17, Try.func17, rfl, rfl, rfl⟩, Try.call17⟩⟩
noncomputable def WM : FE Try.prog := ⟨18, ⟨Try.f18.body.getD .skip, 43, [.tmp 4], some (rle true [2, 2, 2, 4, 1, 3, 1, 27, 1])⟩, ⟨⟨Try.f18, Try.func18, rfl, rfl, rfl⟩, Try.call18⟩⟩
noncomputable def RA : FE Try.prog := ⟨19, ⟨Try.f19.body.getD .skip, 100, [.tmp 4], some (rle true [2, 1, 9, 2, 1, 51, 1, 33])⟩, ⟨⟨Try.f19, Try.func19, rfl, rfl, rfl⟩, Try.call19⟩⟩
noncomputable def WL : FE Try.prog := ⟨21, ⟨Try.f21.body.getD .skip, 45, [.tmp 6, .tmp 7], some (rle true [3, 1, 1, 1, 2, 1, 2, 1, 1, 7, 1, 6, 4, 5, 1, 8])⟩, ⟨⟨Try.f21, Try.func21, rfl, rfl, rfl⟩, Try.call21⟩⟩
noncomputable def R2 : FE Try.prog := ⟨22, ⟨Try.f22.body.getD .skip, 75, [.tmp 4], some (rle true [2, 2, 2, 1, 2, 2, 1, 14, 4, 2, 1, 10, 1, 31])⟩, ⟨⟨Try.f22, Try.func22, rfl, rfl, rfl⟩, Try.call22⟩⟩
noncomputable def WK : FE Try.prog := ⟨23, ⟨Try.f23.body.getD .skip, 17, [.cell 4 25, .tmp 5], some (rle true [2, 2, 4, 9])⟩, ⟨⟨Try.f23, Try.func23, rfl, rfl, rfl⟩, Try.call23⟩⟩
noncomputable def R1 : FE Try.prog := ⟨24, ⟨Try.f24.body.getD .skip, 10, [.tmp 2], some (rle true [1, 1, 1, 1, 1, 5])⟩, ⟨⟨Try.f24, Try.func24, rfl, rfl, rfl⟩, Try.call24⟩⟩
noncomputable def R0 : FE Try.prog := ⟨25, ⟨Try.f25.body.getD .skip, 22, [.cell 4 61, .tmp 5], some (rle true [2, 1, 6, 1, 1, 2, 2, 3, 1, 3])⟩, ⟨⟨Try.f25, Try.func25, rfl, rfl, rfl⟩, Try.call25⟩⟩
noncomputable def WJ : FE Try.prog := ⟨26, ⟨Try.f26.body.getD .skip, 4, [.tmp 0], some (rle true [1, 3])⟩, ⟨⟨Try.f26, Try.func26, rfl, rfl, rfl⟩, Try.call26⟩⟩
noncomputable def WI : FE Try.prog := ⟨27, ⟨Try.f27.body.getD .skip, 52, [.tmp 0], some (rle true [8, 44])⟩, ⟨⟨Try.f27, Try.func27, rfl, rfl, rfl⟩, Try.call27⟩⟩
noncomputable def QZ : FE Try.prog := ⟨28, ⟨Try.f28.body.getD .skip, 17, [.tmp 2], some (rle true [1, 1, 1, 1, 1, 12])⟩, ⟨⟨Try.f28, Try.func28, rfl, rfl, rfl⟩, Try.call28⟩⟩
noncomputable def WH : FE Try.prog := ⟨32, ⟨Try.f32.body.getD .skip, 11, [.tmp 2], some (rle true [1, 1, 1, 1, 1, 6])⟩, ⟨⟨Try.f32, Try.func32, rfl, rfl, rfl⟩, Try.call32⟩⟩
noncomputable def WG : FE Try.prog := ⟨33, ⟨Try.f33.body.getD .skip, 49, [.tmp 4], some (rle true [2, 1, 4, 2, 1, 39])⟩, ⟨⟨Try.f33, Try.func33, rfl, rfl, rfl⟩, Try.call33⟩⟩
noncomputable def WE : FE Try.prog := ⟨34, ⟨Try.f34.body.getD .skip, 26, [.tmp 6], some (rle true [3, 1, 1, 1, 2, 1, 1, 5, 1, 10])⟩, ⟨⟨Try.f34, Try.func34, rfl, rfl, rfl⟩, Try.call34⟩⟩
noncomputable def WD : FE Try.prog := ⟨36, ⟨Try.f36.body.getD .skip, 48, [.tmp 10], some (rle true [5, 1, 1, 2, 4, 1, 1, 21, 1, 11])⟩, ⟨⟨Try.f36, Try.func36, rfl, rfl, rfl⟩, Try.call36⟩⟩
noncomputable def WC : FE Try.prog := ⟨37, ⟨Try.f37.body.getD .skip, 28, [.cell 6 31, .tmp 7], some (rle true [3, 1, 6, 2, 2, 5, 1, 2, 1, 5])⟩, ⟨⟨Try.f37, Try.func37, rfl, rfl, rfl⟩, Try.call37⟩⟩
noncomputable def WB : FE Try.prog := ⟨38, ⟨Try.f38.body.getD .skip, 34, [.tmp 6], some (rle true [3, 1, 1, 1, 3, 1, 1, 12, 1, 10])⟩, ⟨⟨Try.f38, Try.func38, rfl, rfl, rfl⟩, Try.call38⟩⟩
noncomputable def WA : FE Try.prog := ⟨39, ⟨Try.f39.body.getD .skip, 14, [.tmp 4], some (rle true [2, 1, 2, 1, 1, 7])⟩, ⟨⟨Try.f39, Try.func39, rfl, rfl, rfl⟩, Try.call39⟩⟩
noncomputable def W9 : FE Try.prog := ⟨40, ⟨Try.f40.body.getD .skip, 13, [.tmp 0], some (rle true [2, 11])⟩, ⟨⟨Try.f40, Try.func40, rfl, rfl, rfl⟩, Try.call40⟩⟩
noncomputable def W8 : FE Try.prog := ⟨41, ⟨Try.f41.body.getD .skip, 28, [.tmp 2], some (rle true [1, 1, 2, 1, 1, 22])⟩, ⟨⟨Try.f41, Try.func41, rfl, rfl, rfl⟩, Try.call41⟩⟩
noncomputable def W7 : FE Try.prog := ⟨43, ⟨Try.f43.body.getD .skip, 40, [.tmp 6], some (rle true [3, 1, 5, 1, 1, 7, 2, 6, 1, 4, 1, 8])⟩, ⟨⟨Try.f43, Try.func43, rfl, rfl, rfl⟩, Try.call43⟩⟩
noncomputable def W6 : FE Try.prog := ⟨49, ⟨Try.f49.body.getD .skip, 19, [.tmp 4], some (rle true [2, 1, 4, 2, 2, 8])⟩, ⟨⟨Try.f49, Try.func49, rfl, rfl, rfl⟩, Try.call49⟩⟩
noncomputable def W5 : FE Try.prog := ⟨60, ⟨Try.f60.body.getD .skip, 40, [.tmp 6, .tmp 7], some (rle true [3, 3, 2, 1, 2, 1, 1, 7, 1, 7, 4, 8])⟩, ⟨⟨Try.f60, Try.func60, rfl, rfl, rfl⟩, Try.call60⟩⟩
noncomputable def W4 : FE Try.prog := ⟨62, ⟨Try.f62.body.getD .skip, 13, [.cell 4 31], some (rle true [3, 1, 1, 3, 1, 4])⟩, ⟨⟨Try.f62, Try.func62, rfl, rfl, rfl⟩, Try.call62⟩⟩
noncomputable def xO : FE Try.prog := ⟨63, ⟨Try.f63.body.getD .skip, 18, [.tmp 2], some (rle true [1, 1, 2, 1, 5, 4, 1, 3])⟩, ⟨⟨Try.f63, Try.func63, rfl, rfl, rfl⟩, Try.call63⟩⟩
noncomputable def D8 : FE Try.prog := ⟨64, ⟨Try.f64.body.getD .skip, 20, [.tmp 4], some (rle true [2, 2, 3, 4, 3, 2, 1, 2, 1])⟩, ⟨⟨Try.f64, Try.func64, rfl, rfl, rfl⟩, Try.call64⟩⟩
noncomputable def IY : FE Try.prog := ⟨65, ⟨Try.f65.body.getD .skip, 8, [.tmp 4], some (rle true [2, 2, 1, 3])⟩, ⟨⟨Try.f65, Try.func65, rfl, rfl, rfl⟩, Try.call65⟩⟩
noncomputable def zI : FE Try.prog := ⟨66, ⟨Try.f66.body.getD .skip, 12, [.tmp 2], some (rle true [1, 1, 1, 9])⟩, ⟨⟨Try.f66, Try.func66, rfl, rfl, rfl⟩, Try.call66⟩⟩
noncomputable def W3 : FE Try.prog := ⟨67, ⟨Try.f67.body.getD .skip, 43, [.tmp 2], some (rle true [4, 1, 1, 26, 1, 1, 1, 5, 1, 1, 1])⟩, ⟨⟨Try.f67, Try.func67, rfl, rfl, rfl⟩, Try.call67⟩⟩
noncomputable def W2 : FE Try.prog := ⟨68, ⟨Try.f68.body.getD .skip, 22, [.cell 2 61], some (rle true [1, 1, 1, 5, 1, 13])⟩, ⟨⟨Try.f68, Try.func68, rfl, rfl, rfl⟩, Try.call68⟩⟩
noncomputable def W1 : FE Try.prog := ⟨69, ⟨Try.f69.body.getD .skip, 88, [.tmp 8, .tmp 9], some (rle true [4, 2, 1, 1, 2, 1, 1, 1, 1, 1, 3, 1, 4, 20, 1, 7, 4, 25, 1, 7])⟩, ⟨⟨Try.f69, Try.func69, rfl, rfl, rfl⟩, Try.call69⟩⟩
noncomputable def W0 : FE Try.prog := ⟨70, ⟨Try.f70.body.getD .skip, 9, [.tmp 2], some (rle true [1, 1, 1, 6])⟩, ⟨⟨Try.f70, Try.func70, rfl, rfl, rfl⟩, Try.call70⟩⟩
noncomputable def VZ : FE Try.prog := ⟨71, ⟨Try.f71.body.getD .skip, 8, [.tmp 2], some (rle true [1, 1, 1, 1, 1, 3])⟩, ⟨⟨Try.f71, Try.func71, rfl, rfl, rfl⟩, Try.call71⟩⟩
noncomputable def VY : FE Try.prog := ⟨72, ⟨Try.f72.body.getD .skip, 4, [.tmp 2], some (rle true [3, 1])⟩, ⟨⟨Try.f72, Try.func72, rfl, rfl, rfl⟩, Try.call72⟩⟩
noncomputable def VX : FE Try.prog := ⟨73, ⟨Try.f73.body.getD .skip, 12, [.tmp 2], some (rle true [1, 1, 1, 9])⟩, ⟨⟨Try.f73, Try.func73, rfl, rfl, rfl⟩, Try.call73⟩⟩
noncomputable def VW : FE Try.prog := ⟨74, ⟨Try.f74.body.getD .skip, 26, [.tmp 4], some (rle true [2, 2, 2, 1, 5, 4, 1, 9])⟩, ⟨⟨Try.f74, Try.func74, rfl, rfl, rfl⟩, Try.call74⟩⟩
noncomputable def VV : FE Try.prog := ⟨75, ⟨Try.f75.body.getD .skip, 3, [.tmp 2], some (rle true [0, 2, 1])⟩, ⟨⟨Try.f75, Try.func75, rfl, rfl, rfl⟩, Try.call75⟩⟩
noncomputable def VU : FE Try.prog := ⟨76, ⟨Try.f76.body.getD .skip, 30, [.tmp 6], some (rle true [3, 1, 1, 1, 3, 12, 1, 8])⟩, ⟨⟨Try.f76, Try.func76, rfl, rfl, rfl⟩, Try.call76⟩⟩
noncomputable def VT : FE Try.prog := ⟨77, ⟨Try.f77.body.getD .skip, 8, [.cell 2 31], some (rle true [3, 5])⟩, ⟨⟨Try.f77, Try.func77, rfl, rfl, rfl⟩, Try.call77⟩⟩
noncomputable def VS : FE Try.prog := ⟨78, ⟨Try.f78.body.getD .skip, 23, [], some (rle true [2, 2, 1, 18])⟩, ⟨⟨Try.f78, Try.func78, rfl, rfl, rfl⟩, Try.call78⟩⟩
noncomputable def VR : FE Try.prog := ⟨79, ⟨Try.f79.body.getD .skip, 23, [], some (rle true [2, 2, 1, 18])⟩, ⟨⟨Try.f79, Try.func79, rfl, rfl, rfl⟩, Try.call79⟩⟩
noncomputable def VQ : FE Try.prog := ⟨80, ⟨Try.f80.body.getD .skip, 24, [], some (rle true [3, 2, 1, 18])⟩, ⟨⟨Try.f80, Try.func80, rfl, rfl, rfl⟩, Try.call80⟩⟩
noncomputable def VP : FE Try.prog := ⟨81, ⟨Try.f81.body.getD .skip, 6, [.tmp 4], some (rle true [5, 1])⟩, ⟨⟨Try.f81, Try.func81, rfl, rfl, rfl⟩, Try.call81⟩⟩
noncomputable def VO : FE Try.prog := ⟨82, ⟨Try.f82.body.getD .skip, 20, [.tmp 4], some (rle true [3, 1, 1, 15])⟩, ⟨⟨Try.f82, Try.func82, rfl, rfl, rfl⟩, Try.call82⟩⟩
noncomputable def VN : FE Try.prog := ⟨83, ⟨Try.f83.body.getD .skip, 9, [.tmp 3], some (rle true [2, 1, 1, 5])⟩, ⟨⟨Try.f83, Try.func83, rfl, rfl, rfl⟩, Try.call83⟩⟩
noncomputable def VM : FE Try.prog := ⟨84, ⟨Try.f84.body.getD .skip, 12, [.tmp 4], some (rle true [2, 2, 1, 7])⟩, ⟨⟨Try.f84, Try.func84, rfl, rfl, rfl⟩, Try.call84⟩⟩
noncomputable def VK : FE Try.prog := ⟨85, ⟨Try.f85.body.getD .skip, 19, [.tmp 4], some (rle true [2, 2, 1, 14])⟩, ⟨⟨Try.f85, Try.func85, rfl, rfl, rfl⟩, Try.call85⟩⟩
noncomputable def VJ : FE Try.prog := ⟨86, ⟨Try.f86.body.getD .skip, 8, [.tmp 2], some (rle true [1, 1, 1, 1, 1, 3])⟩, ⟨⟨Try.f86, Try.func86, rfl, rfl, rfl⟩, Try.call86⟩⟩
noncomputable def VI : FE Try.prog := ⟨88, ⟨Try.f88.body.getD .skip, 6, [.tmp 4], some (rle true [5, 1])⟩, ⟨⟨Try.f88, Try.func88, rfl, rfl, rfl⟩, Try.call88⟩⟩
noncomputable def VH : FE Try.prog := ⟨89, ⟨Try.f89.body.getD .skip, 10, [.tmp 4], some (rle true [2, 2, 1, 5])⟩, ⟨⟨Try.f89, Try.func89, rfl, rfl, rfl⟩, Try.call89⟩⟩
noncomputable def VG : FE Try.prog := ⟨90, ⟨Try.f90.body.getD .skip, 8, [.tmp 2], some (rle true [1, 1, 1, 1, 1, 3])⟩, ⟨⟨Try.f90, Try.func90, rfl, rfl, rfl⟩, Try.call90⟩⟩
noncomputable def IX : FE Try.prog := ⟨97, ⟨Try.f97.body.getD .skip, 6, [.tmp 2], some (rle true [1, 1, 1, 3])⟩, ⟨⟨Try.f97, Try.func97, rfl, rfl, rfl⟩, Try.call97⟩⟩
noncomputable def IW : FE Try.prog := ⟨98, ⟨Try.f98.body.getD .skip, 8, [.tmp 4], some (rle true [2, 2, 1, 3])⟩, ⟨⟨Try.f98, Try.func98, rfl, rfl, rfl⟩, Try.call98⟩⟩
noncomputable def QY : FE Try.prog := ⟨99, ⟨Try.f99.body.getD .skip, 9, [.tmp 2], some (rle true [1, 1, 1, 6])⟩, ⟨⟨Try.f99, Try.func99, rfl, rfl, rfl⟩, Try.call99⟩⟩
noncomputable def GV : FE Try.prog := ⟨100, ⟨Try.f100.body.getD .skip, 9, [.tmp 2], some (rle true [1, 1, 1, 6])⟩, ⟨⟨Try.f100, Try.func100, rfl, rfl, rfl⟩, Try.call100⟩⟩
noncomputable def NI : FE Try.prog := ⟨101, ⟨Try.f101.body.getD .skip, 4, [.tmp 2], some (rle true [3, 1])⟩, ⟨⟨Try.f101, Try.func101, rfl, rfl, rfl⟩, Try.call101⟩⟩
noncomputable def NH : FE Try.prog := ⟨102, ⟨Try.f102.body.getD .skip, 23, [], some (rle true [2, 1, 1, 4, 3, 10, 1, 1])⟩, ⟨⟨Try.f102, Try.func102, rfl, rfl, rfl⟩, Try.call102⟩⟩
noncomputable def NG : FE Try.prog := ⟨103, ⟨Try.f103.body.getD .skip, 18, [.tmp 4, .tmp 5], some (rle true [2, 2, 2, 12])⟩, ⟨⟨Try.f103, Try.func103, rfl, rfl, rfl⟩, Try.call103⟩⟩
noncomputable def NF : FE Try.prog := ⟨105, ⟨Try.f105.body.getD .skip, 33, [.tmp 6], some (rle true [3, 3, 2, 8, 1, 16])⟩, ⟨⟨Try.f105, Try.func105, rfl, rfl, rfl⟩, Try.call105⟩⟩
noncomputable def ND : FE Try.prog := ⟨106, ⟨Try.f106.body.getD .skip, 27, [], some (rle true [5, 1, 1, 6, 2, 11, 1])⟩, ⟨⟨Try.f106, Try.func106, rfl, rfl, rfl⟩, Try.call106⟩⟩
noncomputable def NC : FE Try.prog := ⟨107, ⟨Try.f107.body.getD .skip, 17, [.tmp 4], some (rle true [5, 12])⟩, ⟨⟨Try.f107, Try.func107, rfl, rfl, rfl⟩, Try.call107⟩⟩
noncomputable def N9 : FE Try.prog := ⟨109, ⟨Try.f109.body.getD .skip, 30, [], some (rle true [3, 1, 1, 2, 1, 11, 4, 5, 1, 1])⟩, ⟨⟨Try.f109, Try.func109, rfl, rfl, rfl⟩, Try.call109⟩⟩
noncomputable def N8 : FE Try.prog := ⟨113, ⟨Try.f113.body.getD .skip, 91, [], some (rle true [2, 1, 1, 1, 2, 1, 1, 2, 4, 48, 1, 3, 4, 18, 1, 1])⟩, ⟨⟨Try.f113, Try.func113, rfl, rfl, rfl⟩, Try.call113⟩⟩
noncomputable def N7 : FE Try.prog := ⟨114, ⟨Try.f114.body.getD .skip, 49, [.tmp 6, .tmp 7], some (rle true [3, 3, 6, 5, 1, 13, 1, 17])⟩, ⟨⟨Try.f114, Try.func114, rfl, rfl, rfl⟩, Try.call114⟩⟩
noncomputable def SM : FE Try.prog := ⟨116, ⟨Try.f116.body.getD .skip, 10, [], some (rle true [2, 8])⟩, ⟨⟨Try.f116, Try.func116, rfl, rfl, rfl⟩, Try.call116⟩⟩
noncomputable def N6 : FE Try.prog := ⟨117, ⟨Try.f117.body.getD .skip, 17, [.tmp 4], some (rle true [5, 12])⟩, ⟨⟨Try.f117, Try.func117, rfl, rfl, rfl⟩, Try.call117⟩⟩
noncomputable def GU : FE Try.prog := ⟨118, ⟨Try.f118.body.getD .skip, 20, [.tmp 4], some (rle true [2, 2, 3, 4, 3, 2, 1, 2, 1])⟩, ⟨⟨Try.f118, Try.func118, rfl, rfl, rfl⟩, Try.call118⟩⟩
noncomputable def SK : FE Try.prog := ⟨120, ⟨Try.f120.body.getD .skip, 14, [], some (rle true [2, 12])⟩, ⟨⟨Try.f120, Try.func120, rfl, rfl, rfl⟩, Try.call120⟩⟩
noncomputable def GS : FE Try.prog := ⟨121, ⟨Try.f121.body.getD .skip, 20, [.tmp 4], some (rle true [2, 2, 3, 4, 3, 2, 1, 2, 1])⟩, ⟨⟨Try.f121, Try.func121, rfl, rfl, rfl⟩, Try.call121⟩⟩
noncomputable def N5 : FE Try.prog := ⟨122, ⟨Try.f122.body.getD .skip, 6, [.tmp 2], some (rle true [1, 1, 1, 3])⟩, ⟨⟨Try.f122, Try.func122, rfl, rfl, rfl⟩, Try.call122⟩⟩
noncomputable def SJ : FE Try.prog := ⟨123, ⟨Try.f123.body.getD .skip, 28, [], some (rle true [1, 1, 2, 5, 1, 18])⟩, ⟨⟨Try.f123, Try.func123, rfl, rfl, rfl⟩, Try.call123⟩⟩
noncomputable def N4 : FE Try.prog := ⟨124, ⟨Try.f124.body.getD .skip, 6, [.tmp 2], some (rle true [1, 1, 1, 3])⟩, ⟨⟨Try.f124, Try.func124, rfl, rfl, rfl⟩, Try.call124⟩⟩
noncomputable def al9 : u0 Try.prog := ⟨20, Ins.yW, Ins.YO⟩
noncomputable def Z9 : u0 Try.prog := ⟨104, (uM 128 oV.i), PX Ins.PO rfl⟩
noncomputable def Z8 : u0 Try.prog := ⟨108, dR, Ins.UJ⟩
noncomputable def MZ : u0 Try.prog := ⟨112, dR, mU Try.func112 (by kernel_rfl) (by kernel_rfl) (by kernel_rfl) (by kernel_rfl)⟩
noncomputable def MY : u0 Try.prog := ⟨115, (iE 128), sS (tS := 95) (tR := 4) (e := 128) (size := 1) Try.func115 (by kernel_rfl) (by kernel_rfl) (by kernel_rfl) (by kernel_rfl) Try.underlying95 (fun w => oV.ok.dZ) (fun h => TypeDesc.noConfusion (Option.some.inj (Try.underlying128.symm.trans h)))⟩
noncomputable def MX : u0 Try.prog := ⟨119, dR, mU Try.func119 (by kernel_rfl) (by kernel_rfl) (by kernel_rfl) (by kernel_rfl)⟩
noncomputable def eqs : List (QE Try.prog) := [⟨25, by kernel_rfl, by kernel_rfl⟩, ⟨28, by kernel_rfl, by kernel_rfl⟩, ⟨61, by kernel_rfl, by kernel_rfl⟩]
noncomputable def env : Env := { P := Try.prog, GK := by kernel_rfl, types := (.node 74 (.node 36 (.node 22 (.node 9 (.node 4 (.node 3 (.leaf ty2) (.leaf ty3)) (.node 5 (.leaf ty4) (.leaf ty5))) (.node 17 (.node 12 (.leaf ty9) (.leaf TY)) (.node 18 (.leaf TX) (.node 21 (.leaf ak1) (.leaf TW))))) (.node 28 (.node 25 (.node 24 (.leaf TV) (.leaf TU)) (.node 26 (.leaf EA) (.node 27 (.leaf TS) (.leaf TR)))) (.node 30 (.node 29 (.leaf HT) (.leaf TQ)) (.node 31 (.leaf TP) (.node 32 (.leaf fX) (.leaf TO)))))) (.node 48 (.node 43 (.node 40 (.node 37 (.leaf TN) (.leaf ak0)) (.node 41 (.leaf TL) (.leaf PR))) (.node 45 (.node 44 (.leaf TK) (.leaf TJ)) (.node 46 (.leaf TG) (.node 47 (.leaf TF) (.leaf TD))))) (.node 59 (.node 56 (.node 49 (.leaf C7) (.leaf aj9)) (.node 57 (.leaf TC) (.node 58 (.leaf PQ) (.leaf TB)))) (.node 61 (.node 60 (.leaf TA) (.leaf T9)) (.node 67 (.leaf uD) (.node 69 (.leaf aj8) (.leaf aj7))))))) (.node 129 (.node 102 (.node 96 (.node 81 (.node 77 (.leaf aj6) (.leaf aj5)) (.node 95 (.leaf aj4) (.leaf T8))) (.node 98 (.node 97 (.leaf T7) (.leaf T6)) (.node 99 (.leaf T5) (.node 100 (.leaf T4) (.leaf K3))))) (.node 115 (.node 109 (.node 106 (.leaf Y6) (.leaf Y4)) (.node 113 (.leaf Y3) (.node 114 (.leaf Y2) (.leaf Y1)))) (.node 124 (.node 120 (.leaf K2) (.leaf Y0)) (.node 125 (.leaf XZ) (.node 128 (.leaf XY) (.leaf oV)))))) (.node 161 (.node 150 (.node 135 (.node 134 (.leaf XX) (.leaf XW)) (.node 147 (.leaf XV) (.leaf K1))) (.node 153 (.node 151 (.leaf XU) (.leaf XT)) (.node 156 (.leaf XS) (.node 160 (.leaf XR) (.leaf XQ))))) (.node 179 (.node 176 (.node 166 (.leaf K0) (.leaf XP)) (.node 177 (.leaf JZ) (.node 178 (.leaf JY) (.leaf JX)))) (.node 181 (.node 180 (.leaf JW) (.leaf JV)) (.node 182 (.leaf JU) (.node 183 (.leaf JT) (.leaf JS)))))))), funcs := (.node 73 (.node 37 (.node 23 (.node 17 (.node 15 (.node 14 (.leaf fu3) (.leaf WQ)) (.node 16 (.leaf WO) (.leaf WN))) (.node 19 (.node 18 (.leaf EX) (.leaf WM)) (.node 21 (.leaf RA) (.node 22 (.leaf WL) (.leaf R2))))) (.node 28 (.node 25 (.node 24 (.leaf WK) (.leaf R1)) (.node 26 (.leaf R0) (.node 27 (.leaf WJ) (.leaf WI)))) (.node 33 (.node 32 (.leaf QZ) (.leaf WH)) (.node 34 (.leaf WG) (.node 36 (.leaf WE) (.leaf WD)))))) (.node 63 (.node 41 (.node 39 (.node 38 (.leaf WC) (.leaf WB)) (.node 40 (.leaf WA) (.leaf W9))) (.node 49 (.node 43 (.leaf W8) (.leaf W7)) (.node 60 (.leaf W6) (.node 62 (.leaf W5) (.leaf W4))))) (.node 68 (.node 65 (.node 64 (.leaf xO) (.leaf D8)) (.node 66 (.leaf IY) (.node 67 (.leaf zI) (.leaf W3)))) (.node 70 (.node 69 (.leaf W2) (.leaf W1)) (.node 71 (.leaf W0) (.node 72 (.leaf VZ) (.leaf VY))))))) (.node 99 (.node 82 (.node 77 (.node 75 (.node 74 (.leaf VX) (.leaf VW)) (.node 76 (.leaf VV) (.leaf VU))) (.node 79 (.node 78 (.leaf VT) (.leaf VS)) (.node 80 (.leaf VR) (.node 81 (.leaf VQ) (.leaf VP))))) (.node 88 (.node 84 (.node 83 (.leaf VO) (.leaf VN)) (.node 85 (.leaf VM) (.node 86 (.leaf VK) (.leaf VJ)))) (.node 90 (.node 89 (.leaf VI) (.leaf VH)) (.node 97 (.leaf VG) (.node 98 (.leaf IX) (.leaf IW)))))) (.node 113 (.node 103 (.node 101 (.node 100 (.leaf QY) (.leaf GV)) (.node 102 (.leaf NI) (.leaf NH))) (.node 106 (.node 105 (.leaf NG) (.leaf NF)) (.node 107 (.leaf ND) (.node 109 (.leaf NC) (.leaf N9))))) (.node 120 (.node 116 (.node 114 (.leaf N8) (.leaf N7)) (.node 117 (.leaf SM) (.node 118 (.leaf N6) (.leaf GU)))) (.node 122 (.node 121 (.leaf SK) (.leaf GS)) (.node 123 (.leaf N5) (.node 124 (.leaf SJ) (.leaf N4)))))))), xL := [al9, Z9, Z8, MZ, MY, MX], eqs := eqs, rV := [Ins.AW, Ins.sV], jR := [Ins.UM] }
theorem HK (f : Nat) (h : (env.xL.all fun x => !(x.f.beq f)) = true) : ∀ args : List a9, gX env (aY env) f args = bM env (aY env) f args := fun _ => EW f h
theorem NB (f : Nat) (h : (env.jR.all fun x => !(x.fn.beq f)) = true) : ∀ k, kP env.jR f k = true := MF f h
abbrev FI (k : Nat) (f : FE Try.prog) : Prop := (env.funcs.find k).i = f.i
abbrev FF (k : Nat) : Prop := (env.funcs.find k).f.beq k = true
theorem M9 : kP env.jR 17 0 = true := rfl
theorem M8 : kP env.jR 17 1 = true := rfl
theorem M7 : kP env.jR 17 2 = true := rfl
theorem M4 : kP env.jR 17 3 = true := rfl
theorem M3 : kP env.jR 17 5 = true := rfl
theorem ti2 : ti env 2 = M.pure ⟨Go.TypeDesc.int (Go.IntKind.i64), 1, 8, .int .i64 (0)⟩ := rfl
theorem ti3 : ti env 3 = M.pure ⟨Go.TypeDesc.int (Go.IntKind.i64), 1, 8, .int .i64 (0)⟩ := rfl
theorem ti4 : ti env 4 = M.pure ⟨Go.TypeDesc.bool, 1, 1, .bool false⟩ := rfl
theorem ti5 : ti env 5 = M.pure ⟨Go.TypeDesc.int (Go.IntKind.u8), 1, 1, .int .u8 (0)⟩ := rfl
theorem ti9 : ti env 9 = M.pure ⟨Go.TypeDesc.string, 1, 16, .str []⟩ := rfl
theorem UE : ti env 12 = M.pure ⟨Go.TypeDesc.int (Go.IntKind.u64), 1, 8, .int .u64 (0)⟩ := rfl
theorem UD : ti env 17 = M.pure ⟨Go.TypeDesc.pointer 183, 1, 8, .dP⟩ := rfl
theorem ak9 : ti env 18 = M.pure ⟨Go.TypeDesc.struct #[⟨"typ", 17, 0, false, "", "internal/runtime/maps", 0⟩], 1, 8, .agg [.dP]⟩ := rfl
theorem UC : ti env 21 = M.pure ⟨Go.TypeDesc.int (Go.IntKind.i32), 1, 4, .int .i32 (0)⟩ := rfl
theorem HX : ti env 22 = M.pure ⟨Go.TypeDesc.pointer 59, 1, 8, .dP⟩ := rfl
theorem UB : ti env 24 = M.pure ⟨Go.TypeDesc.array 32 5, 32, 32, .agg [.int .u8 (0), .int .u8 (0), .int .u8 (0), .int .u8 (0), .int .u8 (0), .int .u8 (0), .int .u8 (0), .int .u8 (0), .int .u8 (0), .int .u8 (0), .int .u8 (0), .int .u8 (0), .int .u8 (0), .int .u8 (0), .int .u8 (0), .int .u8 (0), .int .u8 (0), .int .u8 (0), .int .u8 (0), .int .u8 (0), .int .u8 (0), .int .u8 (0), .int .u8 (0), .int .u8 (0), .int .u8 (0), .int .u8 (0), .int .u8 (0), .int .u8 (0), .int .u8 (0), .int .u8 (0), .int .u8 (0), .int .u8 (0)]⟩ := rfl
theorem kH : ti env 25 = M.pure ⟨Go.TypeDesc.array 32 5, 32, 32, .agg [.int .u8 (0), .int .u8 (0), .int .u8 (0), .int .u8 (0), .int .u8 (0), .int .u8 (0), .int .u8 (0), .int .u8 (0), .int .u8 (0), .int .u8 (0), .int .u8 (0), .int .u8 (0), .int .u8 (0), .int .u8 (0), .int .u8 (0), .int .u8 (0), .int .u8 (0), .int .u8 (0), .int .u8 (0), .int .u8 (0), .int .u8 (0), .int .u8 (0), .int .u8 (0), .int .u8 (0), .int .u8 (0), .int .u8 (0), .int .u8 (0), .int .u8 (0), .int .u8 (0), .int .u8 (0), .int .u8 (0), .int .u8 (0)]⟩ := rfl
theorem uF : ti env 26 = M.pure ⟨Go.TypeDesc.int (Go.IntKind.u32), 1, 4, .int .u32 (0)⟩ := rfl
theorem UA : ti env 27 = M.pure ⟨Go.TypeDesc.struct #[⟨"Tx", 25, 0, false, "", "", 0⟩, ⟨"N", 26, 32, false, "", "", 32⟩], 33, 36, .agg [.int .u8 (0), .int .u8 (0), .int .u8 (0), .int .u8 (0), .int .u8 (0), .int .u8 (0), .int .u8 (0), .int .u8 (0), .int .u8 (0), .int .u8 (0), .int .u8 (0), .int .u8 (0), .int .u8 (0), .int .u8 (0), .int .u8 (0), .int .u8 (0), .int .u8 (0), .int .u8 (0), .int .u8 (0), .int .u8 (0), .int .u8 (0), .int .u8 (0), .int .u8 (0), .int .u8 (0), .int .u8 (0), .int .u8 (0), .int .u8 (0), .int .u8 (0), .int .u8 (0), .int .u8 (0), .int .u8 (0), .int .u8 (0), .int .u32 (0)]⟩ := rfl
theorem j7 : ti env 28 = M.pure ⟨Go.TypeDesc.struct #[⟨"Tx", 25, 0, false, "", "", 0⟩, ⟨"N", 26, 32, false, "", "", 32⟩], 33, 36, .agg [.int .u8 (0), .int .u8 (0), .int .u8 (0), .int .u8 (0), .int .u8 (0), .int .u8 (0), .int .u8 (0), .int .u8 (0), .int .u8 (0), .int .u8 (0), .int .u8 (0), .int .u8 (0), .int .u8 (0), .int .u8 (0), .int .u8 (0), .int .u8 (0), .int .u8 (0), .int .u8 (0), .int .u8 (0), .int .u8 (0), .int .u8 (0), .int .u8 (0), .int .u8 (0), .int .u8 (0), .int .u8 (0), .int .u8 (0), .int .u8 (0), .int .u8 (0), .int .u8 (0), .int .u8 (0), .int .u8 (0), .int .u8 (0), .int .u32 (0)]⟩ := rfl
theorem wQ : ti env 29 = M.pure ⟨Go.TypeDesc.slice 5, 1, 24, .aV⟩ := rfl
theorem U9 : ti env 30 = M.pure ⟨Go.TypeDesc.struct #[⟨"Point", 28, 0, false, "", "", 0⟩, ⟨"Made", 3, 33, false, "", "", 40⟩, ⟨"Value", 2, 34, false, "", "", 48⟩, ⟨"Script", 29, 35, false, "", "", 56⟩, ⟨"Base", 4, 36, false, "", "", 80⟩, ⟨"Spent", 3, 37, false, "", "", 88⟩, ⟨"Spender", 25, 38, false, "", "", 96⟩], 70, 128, .agg [.int .u8 (0), .int .u8 (0), .int .u8 (0), .int .u8 (0), .int .u8 (0), .int .u8 (0), .int .u8 (0), .int .u8 (0), .int .u8 (0), .int .u8 (0), .int .u8 (0), .int .u8 (0), .int .u8 (0), .int .u8 (0), .int .u8 (0), .int .u8 (0), .int .u8 (0), .int .u8 (0), .int .u8 (0), .int .u8 (0), .int .u8 (0), .int .u8 (0), .int .u8 (0), .int .u8 (0), .int .u8 (0), .int .u8 (0), .int .u8 (0), .int .u8 (0), .int .u8 (0), .int .u8 (0), .int .u8 (0), .int .u8 (0), .int .u32 (0), .int .i64 (0), .int .i64 (0), .aV, .bool false, .int .i64 (0), .int .u8 (0), .int .u8 (0), .int .u8 (0), .int .u8 (0), .int .u8 (0), .int .u8 (0), .int .u8 (0), .int .u8 (0), .int .u8 (0), .int .u8 (0), .int .u8 (0), .int .u8 (0), .int .u8 (0), .int .u8 (0), .int .u8 (0), .int .u8 (0), .int .u8 (0), .int .u8 (0), .int .u8 (0), .int .u8 (0), .int .u8 (0), .int .u8 (0), .int .u8 (0), .int .u8 (0), .int .u8 (0), .int .u8 (0), .int .u8 (0), .int .u8 (0), .int .u8 (0), .int .u8 (0), .int .u8 (0), .int .u8 (0)]⟩ := rfl
theorem eB : ti env 31 = M.pure ⟨Go.TypeDesc.struct #[⟨"Point", 28, 0, false, "", "", 0⟩, ⟨"Made", 3, 33, false, "", "", 40⟩, ⟨"Value", 2, 34, false, "", "", 48⟩, ⟨"Script", 29, 35, false, "", "", 56⟩, ⟨"Base", 4, 36, false, "", "", 80⟩, ⟨"Spent", 3, 37, false, "", "", 88⟩, ⟨"Spender", 25, 38, false, "", "", 96⟩], 70, 128, .agg [.int .u8 (0), .int .u8 (0), .int .u8 (0), .int .u8 (0), .int .u8 (0), .int .u8 (0), .int .u8 (0), .int .u8 (0), .int .u8 (0), .int .u8 (0), .int .u8 (0), .int .u8 (0), .int .u8 (0), .int .u8 (0), .int .u8 (0), .int .u8 (0), .int .u8 (0), .int .u8 (0), .int .u8 (0), .int .u8 (0), .int .u8 (0), .int .u8 (0), .int .u8 (0), .int .u8 (0), .int .u8 (0), .int .u8 (0), .int .u8 (0), .int .u8 (0), .int .u8 (0), .int .u8 (0), .int .u8 (0), .int .u8 (0), .int .u32 (0), .int .i64 (0), .int .i64 (0), .aV, .bool false, .int .i64 (0), .int .u8 (0), .int .u8 (0), .int .u8 (0), .int .u8 (0), .int .u8 (0), .int .u8 (0), .int .u8 (0), .int .u8 (0), .int .u8 (0), .int .u8 (0), .int .u8 (0), .int .u8 (0), .int .u8 (0), .int .u8 (0), .int .u8 (0), .int .u8 (0), .int .u8 (0), .int .u8 (0), .int .u8 (0), .int .u8 (0), .int .u8 (0), .int .u8 (0), .int .u8 (0), .int .u8 (0), .int .u8 (0), .int .u8 (0), .int .u8 (0), .int .u8 (0), .int .u8 (0), .int .u8 (0), .int .u8 (0), .int .u8 (0)]⟩ := rfl
theorem C9 : ti env 32 = M.pure ⟨Go.TypeDesc.int (Go.IntKind.i64), 1, 8, .int .i64 (0)⟩ := rfl
theorem U8 : ti env 36 = M.pure ⟨Go.TypeDesc.slice 41, 1, 24, .aV⟩ := rfl
theorem ak8 : ti env 37 = M.pure ⟨Go.TypeDesc.tuple #[36, 32], 1, 0, .tup [.aV, .int .i64 (0)]⟩ := rfl
theorem U7 : ti env 40 = M.pure ⟨Go.TypeDesc.struct #[⟨"Script", 29, 0, false, "", "", 0⟩, ⟨"Balance", 2, 1, false, "", "", 24⟩], 2, 32, .agg [.aV, .int .i64 (0)]⟩ := rfl
theorem HW : ti env 41 = M.pure ⟨Go.TypeDesc.struct #[⟨"Script", 29, 0, false, "", "", 0⟩, ⟨"Balance", 2, 1, false, "", "", 24⟩], 2, 32, .agg [.aV, .int .i64 (0)]⟩ := rfl
theorem vM : ti env 43 = M.pure ⟨Go.TypeDesc.slice 31, 1, 24, .aV⟩ := rfl
theorem PV : ti env 44 = M.pure ⟨Go.TypeDesc.slice 48, 1, 24, .aV⟩ := rfl
theorem U6 : ti env 45 = M.pure ⟨Go.TypeDesc.struct #[⟨"Height", 3, 0, false, "", "", 0⟩, ⟨"Block", 25, 1, false, "", "", 8⟩, ⟨"Made", 43, 33, false, "", "", 40⟩, ⟨"Spends", 44, 34, false, "", "", 64⟩, ⟨"Burnt", 2, 35, false, "", "", 88⟩, ⟨"Left", 2, 36, false, "", "", 96⟩], 37, 104, .agg [.int .i64 (0), .int .u8 (0), .int .u8 (0), .int .u8 (0), .int .u8 (0), .int .u8 (0), .int .u8 (0), .int .u8 (0), .int .u8 (0), .int .u8 (0), .int .u8 (0), .int .u8 (0), .int .u8 (0), .int .u8 (0), .int .u8 (0), .int .u8 (0), .int .u8 (0), .int .u8 (0), .int .u8 (0), .int .u8 (0), .int .u8 (0), .int .u8 (0), .int .u8 (0), .int .u8 (0), .int .u8 (0), .int .u8 (0), .int .u8 (0), .int .u8 (0), .int .u8 (0), .int .u8 (0), .int .u8 (0), .int .u8 (0), .int .u8 (0), .aV, .aV, .int .i64 (0), .int .i64 (0)]⟩ := rfl
theorem AT : ti env 46 = M.pure ⟨Go.TypeDesc.struct #[⟨"Height", 3, 0, false, "", "", 0⟩, ⟨"Block", 25, 1, false, "", "", 8⟩, ⟨"Made", 43, 33, false, "", "", 40⟩, ⟨"Spends", 44, 34, false, "", "", 64⟩, ⟨"Burnt", 2, 35, false, "", "", 88⟩, ⟨"Left", 2, 36, false, "", "", 96⟩], 37, 104, .agg [.int .i64 (0), .int .u8 (0), .int .u8 (0), .int .u8 (0), .int .u8 (0), .int .u8 (0), .int .u8 (0), .int .u8 (0), .int .u8 (0), .int .u8 (0), .int .u8 (0), .int .u8 (0), .int .u8 (0), .int .u8 (0), .int .u8 (0), .int .u8 (0), .int .u8 (0), .int .u8 (0), .int .u8 (0), .int .u8 (0), .int .u8 (0), .int .u8 (0), .int .u8 (0), .int .u8 (0), .int .u8 (0), .int .u8 (0), .int .u8 (0), .int .u8 (0), .int .u8 (0), .int .u8 (0), .int .u8 (0), .int .u8 (0), .int .u8 (0), .aV, .aV, .int .i64 (0), .int .i64 (0)]⟩ := rfl
theorem U5 : ti env 47 = M.pure ⟨Go.TypeDesc.struct #[⟨"Point", 28, 0, false, "", "", 0⟩, ⟨"Spender", 25, 33, false, "", "", 36⟩], 65, 68, .agg [.int .u8 (0), .int .u8 (0), .int .u8 (0), .int .u8 (0), .int .u8 (0), .int .u8 (0), .int .u8 (0), .int .u8 (0), .int .u8 (0), .int .u8 (0), .int .u8 (0), .int .u8 (0), .int .u8 (0), .int .u8 (0), .int .u8 (0), .int .u8 (0), .int .u8 (0), .int .u8 (0), .int .u8 (0), .int .u8 (0), .int .u8 (0), .int .u8 (0), .int .u8 (0), .int .u8 (0), .int .u8 (0), .int .u8 (0), .int .u8 (0), .int .u8 (0), .int .u8 (0), .int .u8 (0), .int .u8 (0), .int .u8 (0), .int .u32 (0), .int .u8 (0), .int .u8 (0), .int .u8 (0), .int .u8 (0), .int .u8 (0), .int .u8 (0), .int .u8 (0), .int .u8 (0), .int .u8 (0), .int .u8 (0), .int .u8 (0), .int .u8 (0), .int .u8 (0), .int .u8 (0), .int .u8 (0), .int .u8 (0), .int .u8 (0), .int .u8 (0), .int .u8 (0), .int .u8 (0), .int .u8 (0), .int .u8 (0), .int .u8 (0), .int .u8 (0), .int .u8 (0), .int .u8 (0), .int .u8 (0), .int .u8 (0), .int .u8 (0), .int .u8 (0), .int .u8 (0), .int .u8 (0)]⟩ := rfl
theorem vL : ti env 48 = M.pure ⟨Go.TypeDesc.struct #[⟨"Point", 28, 0, false, "", "", 0⟩, ⟨"Spender", 25, 33, false, "", "", 36⟩], 65, 68, .agg [.int .u8 (0), .int .u8 (0), .int .u8 (0), .int .u8 (0), .int .u8 (0), .int .u8 (0), .int .u8 (0), .int .u8 (0), .int .u8 (0), .int .u8 (0), .int .u8 (0), .int .u8 (0), .int .u8 (0), .int .u8 (0), .int .u8 (0), .int .u8 (0), .int .u8 (0), .int .u8 (0), .int .u8 (0), .int .u8 (0), .int .u8 (0), .int .u8 (0), .int .u8 (0), .int .u8 (0), .int .u8 (0), .int .u8 (0), .int .u8 (0), .int .u8 (0), .int .u8 (0), .int .u8 (0), .int .u8 (0), .int .u8 (0), .int .u32 (0), .int .u8 (0), .int .u8 (0), .int .u8 (0), .int .u8 (0), .int .u8 (0), .int .u8 (0), .int .u8 (0), .int .u8 (0), .int .u8 (0), .int .u8 (0), .int .u8 (0), .int .u8 (0), .int .u8 (0), .int .u8 (0), .int .u8 (0), .int .u8 (0), .int .u8 (0), .int .u8 (0), .int .u8 (0), .int .u8 (0), .int .u8 (0), .int .u8 (0), .int .u8 (0), .int .u8 (0), .int .u8 (0), .int .u8 (0), .int .u8 (0), .int .u8 (0), .int .u8 (0), .int .u8 (0), .int .u8 (0), .int .u8 (0)]⟩ := rfl
theorem ak7 : ti env 49 = M.pure ⟨Go.TypeDesc.func #[] #[3] false, 1, 8, .dI⟩ := rfl
theorem oC : ti env 56 = M.pure ⟨Go.TypeDesc.pointer 100, 1, 8, .dP⟩ := rfl
theorem sP : ti env 57 = M.pure ⟨Go.TypeDesc.slice 61, 1, 24, .aV⟩ := rfl
theorem U4 : ti env 58 = M.pure ⟨Go.TypeDesc.struct #[⟨"x", 56, 0, false, "", "purser/store", 0⟩, ⟨"levels", 57, 1, false, "", "purser/store", 8⟩], 2, 32, .agg [.dP, .aV]⟩ := rfl
theorem HV : ti env 59 = M.pure ⟨Go.TypeDesc.struct #[⟨"x", 56, 0, false, "", "purser/store", 0⟩, ⟨"levels", 57, 1, false, "", "purser/store", 8⟩], 2, 32, .agg [.dP, .aV]⟩ := rfl
theorem U3 : ti env 60 = M.pure ⟨Go.TypeDesc.struct #[⟨"Height", 3, 0, false, "", "", 0⟩, ⟨"Block", 25, 1, false, "", "", 8⟩, ⟨"Coins", 3, 33, false, "", "", 40⟩, ⟨"Total", 2, 34, false, "", "", 48⟩, ⟨"Burnt", 2, 35, false, "", "", 56⟩, ⟨"Left", 2, 36, false, "", "", 64⟩], 37, 72, .agg [.int .i64 (0), .int .u8 (0), .int .u8 (0), .int .u8 (0), .int .u8 (0), .int .u8 (0), .int .u8 (0), .int .u8 (0), .int .u8 (0), .int .u8 (0), .int .u8 (0), .int .u8 (0), .int .u8 (0), .int .u8 (0), .int .u8 (0), .int .u8 (0), .int .u8 (0), .int .u8 (0), .int .u8 (0), .int .u8 (0), .int .u8 (0), .int .u8 (0), .int .u8 (0), .int .u8 (0), .int .u8 (0), .int .u8 (0), .int .u8 (0), .int .u8 (0), .int .u8 (0), .int .u8 (0), .int .u8 (0), .int .u8 (0), .int .u8 (0), .int .i64 (0), .int .i64 (0), .int .i64 (0), .int .i64 (0)]⟩ := rfl
theorem gJ : ti env 61 = M.pure ⟨Go.TypeDesc.struct #[⟨"Height", 3, 0, false, "", "", 0⟩, ⟨"Block", 25, 1, false, "", "", 8⟩, ⟨"Coins", 3, 33, false, "", "", 40⟩, ⟨"Total", 2, 34, false, "", "", 48⟩, ⟨"Burnt", 2, 35, false, "", "", 56⟩, ⟨"Left", 2, 36, false, "", "", 64⟩], 37, 72, .agg [.int .i64 (0), .int .u8 (0), .int .u8 (0), .int .u8 (0), .int .u8 (0), .int .u8 (0), .int .u8 (0), .int .u8 (0), .int .u8 (0), .int .u8 (0), .int .u8 (0), .int .u8 (0), .int .u8 (0), .int .u8 (0), .int .u8 (0), .int .u8 (0), .int .u8 (0), .int .u8 (0), .int .u8 (0), .int .u8 (0), .int .u8 (0), .int .u8 (0), .int .u8 (0), .int .u8 (0), .int .u8 (0), .int .u8 (0), .int .u8 (0), .int .u8 (0), .int .u8 (0), .int .u8 (0), .int .u8 (0), .int .u8 (0), .int .u8 (0), .int .i64 (0), .int .i64 (0), .int .i64 (0), .int .i64 (0)]⟩ := rfl
theorem ak6 : ti env 67 = M.pure ⟨Go.TypeDesc.func #[65] #[56] false, 1, 8, .dI⟩ := rfl
theorem ak5 : ti env 69 = M.pure ⟨Go.TypeDesc.func #[28, 3] #[32] false, 1, 8, .dI⟩ := rfl
theorem ak4 : ti env 74 = M.pure ⟨Go.TypeDesc.func #[65, 31, 5] #[4] false, 1, 8, .dI⟩ := rfl
theorem ak3 : ti env 77 = M.pure ⟨Go.TypeDesc.func #[] #[56] false, 1, 8, .dI⟩ := rfl
theorem ak2 : ti env 81 = M.pure ⟨Go.TypeDesc.slice 29, 1, 24, .aV⟩ := rfl
theorem pC : ti env 95 = M.pure ⟨Go.TypeDesc.slice 128, 1, 24, .aV⟩ := rfl
theorem HU : ti env 96 = M.pure ⟨Go.TypeDesc.func #[128, 128] #[3] false, 1, 8, .dI⟩ := rfl
theorem U2 : ti env 97 = M.pure ⟨Go.TypeDesc.struct #[⟨"l", 95, 0, false, "", "purser/index", 0⟩, ⟨"order", 96, 1, false, "", "purser/index", 24⟩], 2, 32, .agg [.aV, .dI]⟩ := rfl
theorem U1 : ti env 98 = M.pure ⟨Go.TypeDesc.struct #[⟨"l", 95, 0, false, "", "purser/index", 0⟩, ⟨"order", 96, 1, false, "", "purser/index", 24⟩], 2, 32, .agg [.aV, .dI]⟩ := rfl
theorem U0 : ti env 99 = M.pure ⟨Go.TypeDesc.struct #[⟨"made", 4, 0, false, "", "purser/index", 0⟩, ⟨"points", 98, 1, false, "", "purser/index", 8⟩, ⟨"scripts", 98, 3, false, "", "purser/index", 40⟩], 5, 72, .agg [.bool false, .aV, .dI, .aV, .dI]⟩ := rfl
theorem G6 : ti env 100 = M.pure ⟨Go.TypeDesc.struct #[⟨"made", 4, 0, false, "", "purser/index", 0⟩, ⟨"points", 98, 1, false, "", "purser/index", 8⟩, ⟨"scripts", 98, 3, false, "", "purser/index", 40⟩], 5, 72, .agg [.bool false, .aV, .dI, .aV, .dI]⟩ := rfl
theorem YN : ti env 102 = M.pure ⟨Go.TypeDesc.func #[101] #[3] false, 1, 8, .dI⟩ := rfl
theorem YL : ti env 106 = M.pure ⟨Go.TypeDesc.func #[105, 3] #[46] false, 1, 8, .dI⟩ := rfl
theorem YK : ti env 109 = M.pure ⟨Go.TypeDesc.func #[29, 3] #[2, 32] false, 1, 8, .dI⟩ := rfl
theorem YJ : ti env 113 = M.pure ⟨Go.TypeDesc.func #[101, 28, 29, 5] #[4] false, 1, 8, .dI⟩ := rfl
theorem YI : ti env 114 = M.pure ⟨Go.TypeDesc.func #[31, 3] #[31] false, 1, 8, .dI⟩ := rfl
theorem KJ : ti env 115 = M.pure ⟨Go.TypeDesc.map 9 2, 1, 8, .lJ⟩ := rfl
theorem YH : ti env 120 = M.pure ⟨Go.TypeDesc.int (Go.IntKind.u64), 1, 8, .int .u64 (0)⟩ := rfl
theorem YG : ti env 124 = M.pure ⟨Go.TypeDesc.func #[153] #[] false, 1, 8, .dI⟩ := rfl
theorem YF : ti env 125 = M.pure ⟨Go.TypeDesc.func #[153] #[] false, 1, 8, .dI⟩ := rfl
theorem jB : ti env 128 = M.pure ⟨Go.TypeDesc.pointer 31, 1, 8, .dP⟩ := rfl
theorem KI : ti env 129 = M.pure ⟨Go.TypeDesc.func #[128] #[4] false, 1, 8, .dI⟩ := rfl
theorem YE : ti env 134 = M.pure ⟨Go.TypeDesc.func #[129] #[] false, 1, 8, .dI⟩ := rfl
theorem YD : ti env 135 = M.pure ⟨Go.TypeDesc.func #[129] #[] false, 1, 8, .dI⟩ := rfl
theorem KH : ti env 147 = M.pure ⟨Go.TypeDesc.slice 3, 1, 24, .aV⟩ := rfl
theorem YC : ti env 150 = M.pure ⟨Go.TypeDesc.func #[160] #[] false, 1, 8, .dI⟩ := rfl
theorem YB : ti env 151 = M.pure ⟨Go.TypeDesc.func #[160] #[] false, 1, 8, .dI⟩ := rfl
theorem YA : ti env 153 = M.pure ⟨Go.TypeDesc.func #[61] #[4] false, 1, 8, .dI⟩ := rfl
theorem KG : ti env 156 = M.pure ⟨Go.TypeDesc.pointer 98, 1, 8, .dP⟩ := rfl
theorem Y9 : ti env 160 = M.pure ⟨Go.TypeDesc.func #[28, 4] #[4] false, 1, 8, .dI⟩ := rfl
theorem KF : ti env 161 = M.pure ⟨Go.TypeDesc.map 28 3, 1, 8, .lJ⟩ := rfl
theorem Y8 : ti env 166 = M.pure ⟨Go.TypeDesc.int (Go.IntKind.u64), 1, 8, .int .u64 (0)⟩ := rfl
theorem KE : ti env 176 = M.pure ⟨Go.TypeDesc.int (Go.IntKind.u8), 1, 1, .int .u8 (0)⟩ := rfl
theorem KD : ti env 177 = M.pure ⟨Go.TypeDesc.int (Go.IntKind.u8), 1, 1, .int .u8 (0)⟩ := rfl
theorem KC : ti env 178 = M.pure ⟨Go.TypeDesc.func #[185, 185] #[4] false, 1, 8, .dI⟩ := rfl
theorem KB : ti env 179 = M.pure ⟨Go.TypeDesc.pointer 5, 1, 8, .dP⟩ := rfl
theorem KA : ti env 180 = M.pure ⟨Go.TypeDesc.int (Go.IntKind.i32), 1, 4, .int .i32 (0)⟩ := rfl
theorem K9 : ti env 181 = M.pure ⟨Go.TypeDesc.int (Go.IntKind.i32), 1, 4, .int .i32 (0)⟩ := rfl
theorem K8 : ti env 182 = M.pure ⟨Go.TypeDesc.struct #[⟨"Size_", 12, 0, false, "", "", 0⟩, ⟨"PtrBytes", 12, 1, false, "", "", 8⟩, ⟨"Hash", 26, 2, false, "", "", 16⟩, ⟨"TFlag", 176, 3, false, "", "", 20⟩, ⟨"Align_", 5, 4, false, "", "", 21⟩, ⟨"FieldAlign_", 5, 5, false, "", "", 22⟩, ⟨"Kind_", 177, 6, false, "", "", 23⟩, ⟨"Equal", 178, 7, false, "", "", 24⟩, ⟨"GCData", 179, 8, false, "", "", 32⟩, ⟨"Str", 180, 9, false, "", "", 40⟩, ⟨"PtrToThis", 181, 10, false, "", "", 44⟩], 11, 48, .agg [.int .u64 (0), .int .u64 (0), .int .u32 (0), .int .u8 (0), .int .u8 (0), .int .u8 (0), .int .u8 (0), .dI, .dP, .int .i32 (0), .int .i32 (0)]⟩ := rfl
theorem K7 : ti env 183 = M.pure ⟨Go.TypeDesc.struct #[⟨"Size_", 12, 0, false, "", "", 0⟩, ⟨"PtrBytes", 12, 1, false, "", "", 8⟩, ⟨"Hash", 26, 2, false, "", "", 16⟩, ⟨"TFlag", 176, 3, false, "", "", 20⟩, ⟨"Align_", 5, 4, false, "", "", 21⟩, ⟨"FieldAlign_", 5, 5, false, "", "", 22⟩, ⟨"Kind_", 177, 6, false, "", "", 23⟩, ⟨"Equal", 178, 7, false, "", "", 24⟩, ⟨"GCData", 179, 8, false, "", "", 32⟩, ⟨"Str", 180, 9, false, "", "", 40⟩, ⟨"PtrToThis", 181, 10, false, "", "", 44⟩], 11, 48, .agg [.int .u64 (0), .int .u64 (0), .int .u32 (0), .int .u8 (0), .int .u8 (0), .int .u8 (0), .int .u8 (0), .dI, .dP, .int .i32 (0), .int .i32 (0)]⟩ := rfl
theorem fi3 : FI 3 fu3 := rfl
theorem ff3 : FF 3 := rfl
theorem hk3 : ∀ args : List a9, gX env (aY env) 3 args = bM env (aY env) 3 args := HK 3 rfl
theorem fg3 : ∀ tm : List a9, bN env 3 tm = aE [T, T, T, T, T, F, T, T, F, F, T, F, F, T, T, T, T, T, T, T, T, T, T, T, T, T, T, T, T, T, T, T, T, T, T, T, T, T, T, T, T, T, T, T, F, T, F, T, T, F, F, F, F, F, F, F, F, F, F, F, F, F, F, F, F, F, F, F, F, F, F, F, F, F, F, F, F, F, F, F, F, F, F, F, F, F, F, F, F, F, F, F, F, F, F, F, F, F, F, F, F, F, F, F, F, F, F, F, F, F, F, F, F, F, F, F, F, F, F, F, F, F, F, F, F, F, F, F, F, F, F, F, F, F, F, F, F, F, F, F, F, F, F, F, F, F, F, F, F, F, F, F, F, F, F, F, F, F, F, F, F, F, F, F, F, F, F, F, F, F, F, F, F, F, F, F, F, F, F, F, F, F, F, F, F, F, F, F, F, F, F, F, F, F, F, F, F, F, F, F, F, F, F, F, F, F, F, F, F, F, F, F, F, F, F, F, F, F, F, F, F, F, F, F, F, F, F, F, F, F, F, F, F, F, F, F, F, F, F, F, F, F, F, F, F, F, F, F, F, F, F, F, F, F, F, F, F, F, F, F, F, F, F, F, F, F, F, F, F, F, F, F, F, F, F, F, F, F, F, F, F, F, F, F, F, F, F, F, F, F, F, F, F, F, F, F, F, F, F, F, F, F, F, F, F, F, F, F, F, F, F, F, F, F, F, F, F, F, F, F, F, F, F, F, F, F, F, F, F, F, F, F, F, F, F, F, F, F, F, F, F, F, F, F, F, F, F, F, F, F, F, F, F, F, F, F, F, F, F, F, F, F, F, F, F, F, F, F, F, F, F, F, F, F, F, F, F, F, F, F, F, F, F, F, F, F, F, F, F, F, F, F, F, F, F, F, F, F, F, F, F, F, F, F, F, F, F, F, F, F, F, F, F, F, F, F, F, F, F, F, F, F, F, F, F, F, F, F, F, F, F, F, F, F, F, F] tm := fun _ => rfl
theorem ar0 : FI 14 WQ := rfl
theorem aB2 : FF 14 := rfl
theorem aw7 : ∀ tm : List a9, bN env 14 tm = aE [T, T, T, T, F, F, F, F, F, F, F, F, F, F, F, F, F, F, F, F, F, F, F, F, F, F, F, F, F, F, F, F, F, F, F, F, T, F] tm := fun _ => rfl
theorem aq9 : FI 15 WO := rfl
theorem aB1 : FF 15 := rfl
theorem aw6 : ∀ tm : List a9, bN env 15 tm = aE [T, T, T, F, T, F, T, T, T, F, T, T, T, F, F, F, F, F, F, F, T, F, F, F, F, F, F, F, F, F, F, F, F, F, F, F, F] tm := fun _ => rfl
theorem aq8 : FI 16 WN := rfl
theorem aB0 : FF 16 := rfl
theorem aw5 : ∀ tm : List a9, bN env 16 tm = aE [T, F, T, F, F] tm := fun _ => rfl
theorem WS : FI 17 EX := rfl
theorem X0 : FF 17 := rfl
theorem RG : ∀ tm : List a9, bN env 17 tm = aE [T, T, T, F, F, F, T, T, F, T, T, F, T, T, T, T, T, T, F, F, F, F, F, F, F, T, F, F, F, F, F, F, F, T, T, T, T, F, F, F, F, F, F, F, F, F, F, F, F, F, F, F, F, F, F, F, T, F, T, F, T, F, F, F, F, F, F, F, F, F, F, F, T, F, F, F, F, F, F, F, F, F, F, F, F] tm := fun _ => rfl
theorem aq7 : FI 18 WM := rfl
theorem aA9 : FF 18 := rfl
theorem aw4 : ∀ tm : List a9, bN env 18 tm = aE [T, T, F, F, T, T, F, F, F, F, T, F, F, F, T, F, F, F, F, F, F, F, F, F, F, F, F, F, F, F, F, F, F, F, F, F, F, F, F, F, F, F, T] tm := fun _ => rfl
theorem ZP : FI 19 RA := rfl
theorem ad5 : FF 19 := rfl
theorem aw3 : ∀ tm : List a9, bN env 19 tm = aE [T, T, F, T, T, T, T, T, T, T, T, T, F, F, T, F, F, F, F, F, F, F, F, F, F, F, F, F, F, F, F, F, F, F, F, F, F, F, F, F, F, F, F, F, F, F, F, F, F, F, F, F, F, F, F, F, F, F, F, F, F, F, F, F, F, F, T, F, F, F, F, F, F, F, F, F, F, F, F, F, F, F, F, F, F, F, F, F, F, F, F, F, F, F, F, F, F, F, F, F] tm := fun _ => rfl
theorem aq6 : FI 21 WL := rfl
theorem aA8 : FF 21 := rfl
theorem aw1 : ∀ tm : List a9, bN env 21 tm = aE [T, T, T, F, T, F, T, T, F, T, T, F, T, F, F, F, F, F, F, F, T, F, F, F, F, F, F, T, T, T, T, F, F, F, F, F, T, F, F, F, F, F, F, F, F] tm := fun _ => rfl
theorem ZN : FI 22 R2 := rfl
theorem ad3 : FF 22 := rfl
theorem aw0 : ∀ tm : List a9, bN env 22 tm = aE [T, T, F, F, T, T, F, T, T, F, F, T, F, F, F, F, F, F, F, F, F, F, F, F, F, F, T, T, T, T, F, F, T, F, F, F, F, F, F, F, F, F, F, T, F, F, F, F, F, F, F, F, F, F, F, F, F, F, F, F, F, F, F, F, F, F, F, F, F, F, F, F, F, F, F] tm := fun _ => rfl
theorem aq5 : FI 23 WK := rfl
theorem aA7 : FF 23 := rfl
theorem av9 : ∀ tm : List a9, bN env 23 tm = aE [T, T, F, F, T, T, T, T, F, F, F, F, F, F, F, F, F] tm := fun _ => rfl
theorem ZM : FI 24 R1 := rfl
theorem ad2 : FF 24 := rfl
theorem av8 : ∀ tm : List a9, bN env 24 tm = aE [T, F, T, F, T, F, F, F, F, F] tm := fun _ => rfl
theorem ZL : FI 25 R0 := rfl
theorem ad1 : FF 25 := rfl
theorem av7 : ∀ tm : List a9, bN env 25 tm = aE [T, T, F, T, T, T, T, T, T, F, T, F, F, T, T, F, F, F, T, F, F, F] tm := fun _ => rfl
theorem aq4 : FI 26 WJ := rfl
theorem aA6 : FF 26 := rfl
theorem av6 : ∀ tm : List a9, bN env 26 tm = aE [T, F, F, F] tm := fun _ => rfl
theorem aq3 : FI 27 WI := rfl
theorem aA5 : FF 27 := rfl
theorem av5 : ∀ tm : List a9, bN env 27 tm = aE [T, T, T, T, T, T, T, T, F, F, F, F, F, F, F, F, F, F, F, F, F, F, F, F, F, F, F, F, F, F, F, F, F, F, F, F, F, F, F, F, F, F, F, F, F, F, F, F, F, F, F, F] tm := fun _ => rfl
theorem ZK : FI 28 QZ := rfl
theorem ad0 : FF 28 := rfl
theorem av4 : ∀ tm : List a9, bN env 28 tm = aE [T, F, T, F, T, F, F, F, F, F, F, F, F, F, F, F, F] tm := fun _ => rfl
theorem aq2 : FI 32 WH := rfl
theorem aA4 : FF 32 := rfl
theorem av3 : ∀ tm : List a9, bN env 32 tm = aE [T, F, T, F, T, F, F, F, F, F, F] tm := fun _ => rfl
theorem aq1 : FI 33 WG := rfl
theorem aA3 : FF 33 := rfl
theorem av2 : ∀ tm : List a9, bN env 33 tm = aE [T, T, F, T, T, T, T, F, F, T, F, F, F, F, F, F, F, F, F, F, F, F, F, F, F, F, F, F, F, F, F, F, F, F, F, F, F, F, F, F, F, F, F, F, F, F, F, F, F] tm := fun _ => rfl
theorem aq0 : FI 34 WE := rfl
theorem aA2 : FF 34 := rfl
theorem av1 : ∀ tm : List a9, bN env 34 tm = aE [T, T, T, F, T, F, T, T, F, T, F, F, F, F, F, T, F, F, F, F, F, F, F, F, F, F] tm := fun _ => rfl
theorem ap5 : FI 36 WD := rfl
theorem aA1 : FF 36 := rfl
theorem av0 : ∀ tm : List a9, bN env 36 tm = aE [T, T, T, T, T, F, T, F, F, T, T, T, T, F, T, F, F, F, F, F, F, F, F, F, F, F, F, F, F, F, F, F, F, F, F, F, T, F, F, F, F, F, F, F, F, F, F, F] tm := fun _ => rfl
theorem ap4 : FI 37 WC := rfl
theorem aA0 : FF 37 := rfl
theorem au9 : ∀ tm : List a9, bN env 37 tm = aE [T, T, T, F, T, T, T, T, T, T, F, F, T, T, F, F, F, F, F, T, F, F, T, F, F, F, F, F] tm := fun _ => rfl
theorem ap3 : FI 38 WB := rfl
theorem az9 : FF 38 := rfl
theorem au8 : ∀ tm : List a9, bN env 38 tm = aE [T, T, T, F, T, F, T, T, T, F, T, F, F, F, F, F, F, F, F, F, F, F, F, T, F, F, F, F, F, F, F, F, F, F] tm := fun _ => rfl
theorem ap2 : FI 39 WA := rfl
theorem az8 : FF 39 := rfl
theorem au7 : ∀ tm : List a9, bN env 39 tm = aE [T, T, F, T, T, F, T, F, F, F, F, F, F, F] tm := fun _ => rfl
theorem ap1 : FI 40 W9 := rfl
theorem az7 : FF 40 := rfl
theorem au6 : ∀ tm : List a9, bN env 40 tm = aE [T, T, F, F, F, F, F, F, F, F, F, F, F] tm := fun _ => rfl
theorem ap0 : FI 41 W8 := rfl
theorem az6 : FF 41 := rfl
theorem au5 : ∀ tm : List a9, bN env 41 tm = aE [T, F, T, T, F, T, F, F, F, F, F, F, F, F, F, F, F, F, F, F, F, F, F, F, F, F, F, F] tm := fun _ => rfl
theorem ao9 : FI 43 W7 := rfl
theorem az5 : FF 43 := rfl
theorem au4 : ∀ tm : List a9, bN env 43 tm = aE [T, T, T, F, T, T, T, T, T, F, T, F, F, F, F, F, F, F, T, T, F, F, F, F, F, F, T, F, F, F, F, T, F, F, F, F, F, F, F, F] tm := fun _ => rfl
theorem ao8 : FI 49 W6 := rfl
theorem az4 : FF 49 := rfl
theorem au3 : ∀ tm : List a9, bN env 49 tm = aE [T, T, F, T, T, T, T, F, F, T, T, F, F, F, F, F, F, F, F] tm := fun _ => rfl
theorem ao7 : FI 60 W5 := rfl
theorem az3 : FF 60 := rfl
theorem au2 : ∀ tm : List a9, bN env 60 tm = aE [T, T, T, F, F, F, T, T, F, T, T, F, T, F, F, F, F, F, F, F, T, F, F, F, F, F, F, F, T, T, T, T, F, F, F, F, F, F, F, F] tm := fun _ => rfl
theorem ao6 : FI 62 W4 := rfl
theorem az2 : FF 62 := rfl
theorem au1 : ∀ tm : List a9, bN env 62 tm = aE [T, T, T, F, T, F, F, F, T, F, F, F, F] tm := fun _ => rfl
theorem WR : FI 63 xO := rfl
theorem WZ : FF 63 := rfl
theorem WY : ∀ tm : List a9, bN env 63 tm = aE [T, F, T, T, F, T, T, T, T, T, F, F, F, F, T, F, F, F] tm := fun _ => rfl
theorem ZJ : FI 64 D8 := rfl
theorem ac9 : FF 64 := rfl
theorem WX : ∀ tm : List a9, bN env 64 tm = aE [T, T, F, F, T, T, T, F, F, F, F, T, T, T, F, F, T, F, F, T] tm := fun _ => rfl
theorem ZI : FI 65 IY := rfl
theorem ac8 : FF 65 := rfl
theorem WW : ∀ tm : List a9, bN env 65 tm = aE [T, T, F, F, T, F, F, F] tm := fun _ => rfl
theorem J2 : FI 66 zI := rfl
theorem J3 : FF 66 := rfl
theorem WV : ∀ tm : List a9, bN env 66 tm = aE [T, F, T, F, F, F, F, F, F, F, F, F] tm := fun _ => rfl
theorem ao5 : FI 67 W3 := rfl
theorem az1 : FF 67 := rfl
theorem au0 : ∀ tm : List a9, bN env 67 tm = aE [T, T, T, T, F, T, F, F, F, F, F, F, F, F, F, F, F, F, F, F, F, F, F, F, F, F, F, F, F, F, F, F, T, F, T, F, F, F, F, F, T, F, T] tm := fun _ => rfl
theorem ao4 : FI 68 W2 := rfl
theorem az0 : FF 68 := rfl
theorem at9 : ∀ tm : List a9, bN env 68 tm = aE [T, F, T, F, F, F, F, F, T, F, F, F, F, F, F, F, F, F, F, F, F, F] tm := fun _ => rfl
theorem ao3 : FI 69 W1 := rfl
theorem ay9 : FF 69 := rfl
theorem at8 : ∀ tm : List a9, bN env 69 tm = aE [T, T, T, T, F, F, T, F, T, T, F, T, F, T, F, T, T, T, F, T, T, T, T, F, F, F, F, F, F, F, F, F, F, F, F, F, F, F, F, F, F, F, F, T, F, F, F, F, F, F, F, T, T, T, T, F, F, F, F, F, F, F, F, F, F, F, F, F, F, F, F, F, F, F, F, F, F, F, F, F, T, F, F, F, F, F, F, F] tm := fun _ => rfl
theorem ao2 : FI 70 W0 := rfl
theorem ay8 : FF 70 := rfl
theorem at7 : ∀ tm : List a9, bN env 70 tm = aE [T, F, T, F, F, F, F, F, F] tm := fun _ => rfl
theorem ao1 : FI 71 VZ := rfl
theorem ay7 : FF 71 := rfl
theorem at6 : ∀ tm : List a9, bN env 71 tm = aE [T, F, T, F, T, F, F, F] tm := fun _ => rfl
theorem ao0 : FI 72 VY := rfl
theorem ay6 : FF 72 := rfl
theorem as9 : ∀ tm : List a9, bN env 72 tm = aE [T, T, T, F] tm := fun _ => rfl
theorem an9 : FI 73 VX := rfl
theorem ay5 : FF 73 := rfl
theorem as8 : ∀ tm : List a9, bN env 73 tm = aE [T, F, T, F, F, F, F, F, F, F, F, F] tm := fun _ => rfl
theorem an8 : FI 74 VW := rfl
theorem ay4 : FF 74 := rfl
theorem as7 : ∀ tm : List a9, bN env 74 tm = aE [T, T, F, F, T, T, F, T, T, T, T, T, F, F, F, F, T, F, F, F, F, F, F, F, F, F] tm := fun _ => rfl
theorem an7 : FI 75 VV := rfl
theorem ay3 : FF 75 := rfl
theorem as6 : ∀ tm : List a9, bN env 75 tm = aE [F, F, T] tm := fun _ => rfl
theorem an6 : FI 76 VU := rfl
theorem ay2 : FF 76 := rfl
theorem as5 : ∀ tm : List a9, bN env 76 tm = aE [T, T, T, F, T, F, T, T, T, F, F, F, F, F, F, F, F, F, F, F, F, T, F, F, F, F, F, F, F, F] tm := fun _ => rfl
theorem an5 : FI 77 VT := rfl
theorem ay1 : FF 77 := rfl
theorem as4 : ∀ tm : List a9, bN env 77 tm = aE [T, T, T, F, F, F, F, F] tm := fun _ => rfl
theorem an4 : FI 78 VS := rfl
theorem ay0 : FF 78 := rfl
theorem as3 : ∀ tm : List a9, bN env 78 tm = aE [T, T, F, F, T, F, F, F, F, F, F, F, F, F, F, F, F, F, F, F, F, F, F] tm := fun _ => rfl
theorem an3 : FI 79 VR := rfl
theorem ax9 : FF 79 := rfl
theorem as2 : ∀ tm : List a9, bN env 79 tm = aE [T, T, F, F, T, F, F, F, F, F, F, F, F, F, F, F, F, F, F, F, F, F, F] tm := fun _ => rfl
theorem an1 : FI 80 VQ := rfl
theorem ax8 : FF 80 := rfl
theorem as1 : ∀ tm : List a9, bN env 80 tm = aE [T, T, T, F, F, T, F, F, F, F, F, F, F, F, F, F, F, F, F, F, F, F, F, F] tm := fun _ => rfl
theorem an0 : FI 81 VP := rfl
theorem ax7 : FF 81 := rfl
theorem as0 : ∀ tm : List a9, bN env 81 tm = aE [T, T, T, T, T, F] tm := fun _ => rfl
theorem am9 : FI 82 VO := rfl
theorem ax6 : FF 82 := rfl
theorem ar9 : ∀ tm : List a9, bN env 82 tm = aE [T, T, T, F, T, F, F, F, F, F, F, F, F, F, F, F, F, F, F, F] tm := fun _ => rfl
theorem am8 : FI 83 VN := rfl
theorem ax5 : FF 83 := rfl
theorem ar8 : ∀ tm : List a9, bN env 83 tm = aE [T, T, F, T, F, F, F, F, F] tm := fun _ => rfl
theorem am7 : FI 84 VM := rfl
theorem ax4 : FF 84 := rfl
theorem ar7 : ∀ tm : List a9, bN env 84 tm = aE [T, T, F, F, T, F, F, F, F, F, F, F] tm := fun _ => rfl
theorem am6 : FI 85 VK := rfl
theorem ax3 : FF 85 := rfl
theorem ar6 : ∀ tm : List a9, bN env 85 tm = aE [T, T, F, F, T, F, F, F, F, F, F, F, F, F, F, F, F, F, F] tm := fun _ => rfl
theorem am5 : FI 86 VJ := rfl
theorem ax2 : FF 86 := rfl
theorem ar5 : ∀ tm : List a9, bN env 86 tm = aE [T, F, T, F, T, F, F, F] tm := fun _ => rfl
theorem am4 : FI 88 VI := rfl
theorem ax1 : FF 88 := rfl
theorem ar4 : ∀ tm : List a9, bN env 88 tm = aE [T, T, T, T, T, F] tm := fun _ => rfl
theorem am3 : FI 89 VH := rfl
theorem ax0 : FF 89 := rfl
theorem ar3 : ∀ tm : List a9, bN env 89 tm = aE [T, T, F, F, T, F, F, F, F, F] tm := fun _ => rfl
theorem am2 : FI 90 VG := rfl
theorem aw9 : FF 90 := rfl
theorem ar2 : ∀ tm : List a9, bN env 90 tm = aE [T, F, T, F, T, F, F, F] tm := fun _ => rfl
theorem ZH : FI 97 IX := rfl
theorem ac7 : FF 97 := rfl
theorem WU : ∀ tm : List a9, bN env 97 tm = aE [T, F, T, F, F, F] tm := fun _ => rfl
theorem ZG : FI 98 IW := rfl
theorem ac6 : FF 98 := rfl
theorem WT : ∀ tm : List a9, bN env 98 tm = aE [T, T, F, F, T, F, F, F] tm := fun _ => rfl
theorem am1 : FI 99 QY := rfl
theorem aw8 : FF 99 := rfl
theorem ar1 : ∀ tm : List a9, bN env 99 tm = aE [T, F, T, F, F, F, F, F, F] tm := fun _ => rfl
theorem aa5 : FI 100 GV := rfl
theorem af1 : FF 100 := rfl
theorem ac5 : ∀ tm : List a9, bN env 100 tm = aE [T, F, T, F, F, F, F, F, F] tm := fun _ => rfl
theorem aa4 : FI 101 NI := rfl
theorem af0 : FF 101 := rfl
theorem ac4 : ∀ tm : List a9, bN env 101 tm = aE [T, T, T, F] tm := fun _ => rfl
theorem aa3 : FI 102 NH := rfl
theorem ae9 : FF 102 := rfl
theorem ZD : ∀ args : List a9, gX env (aY env) 102 args = bM env (aY env) 102 args := HK 102 rfl
theorem ac3 : ∀ tm : List a9, bN env 102 tm = aE [T, T, F, T, F, F, F, F, T, T, T, F, F, F, F, F, F, F, F, F, F, T, F] tm := fun _ => rfl
theorem aa2 : FI 103 NG := rfl
theorem ae8 : FF 103 := rfl
theorem ac2 : ∀ tm : List a9, bN env 103 tm = aE [T, T, F, F, T, T, F, F, F, F, F, F, F, F, F, F, F, F] tm := fun _ => rfl
theorem aa1 : FI 105 NF := rfl
theorem ae7 : FF 105 := rfl
theorem ac0 : ∀ tm : List a9, bN env 105 tm = aE [T, T, T, F, F, F, T, T, F, F, F, F, F, F, F, F, T, F, F, F, F, F, F, F, F, F, F, F, F, F, F, F, F] tm := fun _ => rfl
theorem aa0 : FI 106 ND := rfl
theorem ae6 : FF 106 := rfl
theorem SH : ∀ args : List a9, gX env (aY env) 106 args = bM env (aY env) 106 args := HK 106 rfl
theorem ab9 : ∀ tm : List a9, bN env 106 tm = aE [T, T, T, T, T, F, T, F, F, F, F, F, F, T, T, F, F, F, F, F, F, F, F, F, F, F, T] tm := fun _ => rfl
theorem ZZ : FI 107 NC := rfl
theorem ae5 : FF 107 := rfl
theorem ab8 : ∀ tm : List a9, bN env 107 tm = aE [T, T, T, T, T, F, F, F, F, F, F, F, F, F, F, F, F] tm := fun _ => rfl
theorem ZX : FI 109 N9 := rfl
theorem ae3 : FF 109 := rfl
theorem SG : ∀ args : List a9, gX env (aY env) 109 args = bM env (aY env) 109 args := HK 109 rfl
theorem ab6 : ∀ tm : List a9, bN env 109 tm = aE [T, T, T, F, T, F, F, T, F, F, F, F, F, F, F, F, F, F, F, T, T, T, T, F, F, F, F, F, T, F] tm := fun _ => rfl
theorem ZW : FI 113 N8 := rfl
theorem ae2 : FF 113 := rfl
theorem ZA : ∀ args : List a9, gX env (aY env) 113 args = bM env (aY env) 113 args := HK 113 rfl
theorem ab5 : ∀ tm : List a9, bN env 113 tm = aE [T, T, F, T, F, T, T, F, T, F, F, T, T, T, T, F, F, F, F, F, F, F, F, F, F, F, F, F, F, F, F, F, F, F, F, F, F, F, F, F, F, F, F, F, F, F, F, F, F, F, F, F, F, F, F, F, F, F, F, F, F, F, F, T, F, F, F, T, T, T, T, F, F, F, F, F, F, F, F, F, F, F, F, F, F, F, F, F, F, T, F] tm := fun _ => rfl
theorem ZV : FI 114 N7 := rfl
theorem ae1 : FF 114 := rfl
theorem ab4 : ∀ tm : List a9, bN env 114 tm = aE [T, T, T, F, F, F, T, T, T, T, T, T, F, F, F, F, F, T, F, F, F, F, F, F, F, F, F, F, F, F, F, T, F, F, F, F, F, F, F, F, F, F, F, F, F, F, F, F, F] tm := fun _ => rfl
theorem fi116 : FI 116 SM := rfl
theorem ff116 : FF 116 := rfl
theorem ab3 : ∀ tm : List a9, bN env 116 tm = aE [T, T, F, F, F, F, F, F, F, F] tm := fun _ => rfl
theorem ZU : FI 117 N6 := rfl
theorem ae0 : FF 117 := rfl
theorem ab2 : ∀ tm : List a9, bN env 117 tm = aE [T, T, T, T, T, F, F, F, F, F, F, F, F, F, F, F, F] tm := fun _ => rfl
theorem ZT : FI 118 GU := rfl
theorem ad9 : FF 118 := rfl
theorem ab1 : ∀ tm : List a9, bN env 118 tm = aE [T, T, F, F, T, T, T, F, F, F, F, T, T, T, F, F, T, F, F, T] tm := fun _ => rfl
theorem fi120 : FI 120 SK := rfl
theorem ff120 : FF 120 := rfl
theorem ab0 : ∀ tm : List a9, bN env 120 tm = aE [T, T, F, F, F, F, F, F, F, F, F, F, F, F] tm := fun _ => rfl
theorem ZS : FI 121 GS := rfl
theorem ad8 : FF 121 := rfl
theorem aa9 : ∀ tm : List a9, bN env 121 tm = aE [T, T, F, F, T, T, T, F, F, F, F, T, T, T, F, F, T, F, F, T] tm := fun _ => rfl
theorem ZR : FI 122 N5 := rfl
theorem ad7 : FF 122 := rfl
theorem aa8 : ∀ tm : List a9, bN env 122 tm = aE [T, F, T, F, F, F] tm := fun _ => rfl
theorem fi123 : FI 123 SJ := rfl
theorem ff123 : FF 123 := rfl
theorem aa7 : ∀ tm : List a9, bN env 123 tm = aE [T, F, T, T, F, F, F, F, F, T, F, F, F, F, F, F, F, F, F, F, F, F, F, F, F, F, F, F] tm := fun _ => rfl
theorem ZQ : FI 124 N4 := rfl
theorem ad6 : FF 124 := rfl
theorem aa6 : ∀ tm : List a9, bN env 124 tm = aE [T, F, T, F, F, F] tm := fun _ => rfl
theorem am0 : ∀ args : List a9, gX env (aY env) 20 args = Ins.yW args := fun _ => rfl
theorem ZC : ∀ args : List a9, gX env (aY env) 104 args = (uM 128 oV.i) args := fun _ => rfl
theorem ZB : ∀ args : List a9, gX env (aY env) 108 args = dR args := fun _ => rfl
theorem N2 : ∀ args : List a9, gX env (aY env) 112 args = dR args := fun _ => rfl
theorem N1 : ∀ args : List a9, gX env (aY env) 115 args = (iE 128) args := fun _ => rfl
theorem N0 : ∀ args : List a9, gX env (aY env) 119 args = dR args := fun _ => rfl
theorem XH : ∀ ts l, dD env (9 :: ts) (.str l) = M.pure (.int .i64 (l.length : Nat)) := fun _ _ => rfl
theorem P6 : ∀ ts v, dD env (24 :: ts) v = M.pure (.int .i64 32) := fun _ _ => rfl
theorem P5 : ∀ ts v, dD env (25 :: ts) v = M.pure (.int .i64 32) := fun _ _ => rfl
theorem P4 : ∀ ts id off len cap sz, dD env (29 :: ts) (.sl id off len cap sz) = M.pure (.int .i64 (len : Nat)) := fun _ _ _ _ _ _ => rfl
theorem P3 : ∀ ts g sz off len, dD env (29 :: ts) (.isl g sz off len) = M.pure (.int .i64 (len : Nat)) := fun _ _ _ _ _ => rfl
theorem P2 : ∀ ts, dD env (29 :: ts) .aV = M.pure (.int .i64 0) := fun _ => rfl
theorem P1 : ∀ ts, dD env (29 :: ts) .emp = M.pure (.int .i64 0) := fun _ => rfl
theorem P0 : ∀ ts id off len cap sz, dD env (36 :: ts) (.sl id off len cap sz) = M.pure (.int .i64 (len : Nat)) := fun _ _ _ _ _ _ => rfl
theorem OZ : ∀ ts g sz off len, dD env (36 :: ts) (.isl g sz off len) = M.pure (.int .i64 (len : Nat)) := fun _ _ _ _ _ => rfl
theorem OY : ∀ ts, dD env (36 :: ts) .aV = M.pure (.int .i64 0) := fun _ => rfl
theorem OX : ∀ ts, dD env (36 :: ts) .emp = M.pure (.int .i64 0) := fun _ => rfl
theorem OW : ∀ ts id off len cap sz, dD env (43 :: ts) (.sl id off len cap sz) = M.pure (.int .i64 (len : Nat)) := fun _ _ _ _ _ _ => rfl
theorem OV : ∀ ts g sz off len, dD env (43 :: ts) (.isl g sz off len) = M.pure (.int .i64 (len : Nat)) := fun _ _ _ _ _ => rfl
theorem OU : ∀ ts, dD env (43 :: ts) .aV = M.pure (.int .i64 0) := fun _ => rfl
theorem OT : ∀ ts, dD env (43 :: ts) .emp = M.pure (.int .i64 0) := fun _ => rfl
theorem OS : ∀ ts id off len cap sz, dD env (44 :: ts) (.sl id off len cap sz) = M.pure (.int .i64 (len : Nat)) := fun _ _ _ _ _ _ => rfl
theorem OR : ∀ ts g sz off len, dD env (44 :: ts) (.isl g sz off len) = M.pure (.int .i64 (len : Nat)) := fun _ _ _ _ _ => rfl
theorem OQ : ∀ ts, dD env (44 :: ts) .aV = M.pure (.int .i64 0) := fun _ => rfl
theorem OP : ∀ ts, dD env (44 :: ts) .emp = M.pure (.int .i64 0) := fun _ => rfl
theorem ON : ∀ ts id off len cap sz, dD env (57 :: ts) (.sl id off len cap sz) = M.pure (.int .i64 (len : Nat)) := fun _ _ _ _ _ _ => rfl
theorem OM : ∀ ts g sz off len, dD env (57 :: ts) (.isl g sz off len) = M.pure (.int .i64 (len : Nat)) := fun _ _ _ _ _ => rfl
theorem OL : ∀ ts, dD env (57 :: ts) .aV = M.pure (.int .i64 0) := fun _ => rfl
theorem OK : ∀ ts, dD env (57 :: ts) .emp = M.pure (.int .i64 0) := fun _ => rfl
theorem ah4 : ∀ ts id off len cap sz, dD env (81 :: ts) (.sl id off len cap sz) = M.pure (.int .i64 (len : Nat)) := fun _ _ _ _ _ _ => rfl
theorem ah3 : ∀ ts g sz off len, dD env (81 :: ts) (.isl g sz off len) = M.pure (.int .i64 (len : Nat)) := fun _ _ _ _ _ => rfl
theorem ah2 : ∀ ts, dD env (81 :: ts) .aV = M.pure (.int .i64 0) := fun _ => rfl
theorem ah1 : ∀ ts, dD env (81 :: ts) .emp = M.pure (.int .i64 0) := fun _ => rfl
theorem OJ : ∀ ts id off len cap sz, dD env (95 :: ts) (.sl id off len cap sz) = M.pure (.int .i64 (len : Nat)) := fun _ _ _ _ _ _ => rfl
theorem OI : ∀ ts g sz off len, dD env (95 :: ts) (.isl g sz off len) = M.pure (.int .i64 (len : Nat)) := fun _ _ _ _ _ => rfl
theorem OH : ∀ ts, dD env (95 :: ts) .aV = M.pure (.int .i64 0) := fun _ => rfl
theorem OG : ∀ ts, dD env (95 :: ts) .emp = M.pure (.int .i64 0) := fun _ => rfl
theorem FV : ∀ ts id off len cap sz, dD env (147 :: ts) (.sl id off len cap sz) = M.pure (.int .i64 (len : Nat)) := fun _ _ _ _ _ _ => rfl
theorem FU : ∀ ts g sz off len, dD env (147 :: ts) (.isl g sz off len) = M.pure (.int .i64 (len : Nat)) := fun _ _ _ _ _ => rfl
theorem FR : ∀ ts, dD env (147 :: ts) .aV = M.pure (.int .i64 0) := fun _ => rfl
theorem FQ : ∀ ts, dD env (147 :: ts) .emp = M.pure (.int .i64 0) := fun _ => rfl
noncomputable def BA : Code := (c8 (Try.f17.body.getD .skip)).getD 0 .skip
noncomputable def B9 : Code := (c8 (Try.f17.body.getD .skip)).getD 1 .skip
noncomputable def sD : Code := (c8 (Try.f17.body.getD .skip)).getD 2 .skip
noncomputable def ER : Code := (c8 (Try.f18.body.getD .skip)).getD 0 .skip
noncomputable def EP : Code := (c8 (Try.f21.body.getD .skip)).getD 0 .skip
noncomputable def EO : Code := (c8 (Try.f22.body.getD .skip)).getD 0 .skip
noncomputable def LF : Code := ((cZ (Try.f25.body.getD .skip)).getD 0 (.skip, .skip)).1
noncomputable def L9 : Code := ((cZ (Try.f25.body.getD .skip)).getD 0 (.skip, .skip)).2
noncomputable def LD : Code := ((cZ (Try.f37.body.getD .skip)).getD 0 (.skip, .skip)).1
noncomputable def L8 : Code := ((cZ (Try.f37.body.getD .skip)).getD 0 (.skip, .skip)).2
noncomputable def LC : Code := ((cZ (Try.f43.body.getD .skip)).getD 0 (.skip, .skip)).1
noncomputable def L7 : Code := ((cZ (Try.f43.body.getD .skip)).getD 0 (.skip, .skip)).2
noncomputable def LB : Code := ((cZ (Try.f49.body.getD .skip)).getD 0 (.skip, .skip)).1
noncomputable def L6 : Code := ((cZ (Try.f49.body.getD .skip)).getD 0 (.skip, .skip)).2
noncomputable def EN : Code := (c8 (Try.f60.body.getD .skip)).getD 0 .skip
noncomputable def UX : Code := (c8 (Try.f63.body.getD .skip)).getD 0 .skip
noncomputable def LA : Code := ((cZ (Try.f67.body.getD .skip)).getD 0 (.skip, .skip)).1
noncomputable def L5 : Code := ((cZ (Try.f67.body.getD .skip)).getD 0 (.skip, .skip)).2
noncomputable def EM : Code := (c8 (Try.f69.body.getD .skip)).getD 0 .skip
noncomputable def EL : Code := (c8 (Try.f69.body.getD .skip)).getD 1 .skip
noncomputable def EK : Code := (c8 (Try.f74.body.getD .skip)).getD 0 .skip
noncomputable def BE : Code := (c8 (Try.f102.body.getD .skip)).getD 0 .skip
noncomputable def GB : Code := ((cZ (Try.f106.body.getD .skip)).getD 0 (.skip, .skip)).1
noncomputable def GA : Code := ((cZ (Try.f106.body.getD .skip)).getD 0 (.skip, .skip)).2
noncomputable def BD : Code := (c8 (Try.f109.body.getD .skip)).getD 0 .skip
noncomputable def BC : Code := (c8 (Try.f113.body.getD .skip)).getD 0 .skip
noncomputable def BB : Code := (c8 (Try.f113.body.getD .skip)).getD 1 .skip
noncomputable def wH : Code := (c8 (Try.f114.body.getD .skip)).getD 0 .skip
noncomputable def ai8 : Code := (c8 (Try.f123.body.getD .skip)).getD 0 .skip
def tyr := (And.intro ti2 (And.intro ti3 (And.intro ti4 (And.intro ti5 (And.intro ti9 (And.intro UE (And.intro UD (And.intro ak9 (And.intro UC (And.intro HX (And.intro UB (And.intro kH (And.intro uF (And.intro UA (And.intro j7 (And.intro wQ (And.intro U9 (And.intro eB (And.intro C9 (And.intro U8 (And.intro ak8 (And.intro U7 (And.intro HW (And.intro vM (And.intro PV (And.intro U6 (And.intro AT (And.intro U5 (And.intro vL (And.intro ak7 (And.intro oC (And.intro sP (And.intro U4 (And.intro HV (And.intro U3 (And.intro gJ (And.intro ak6 (And.intro ak5 (And.intro ak4 (And.intro ak3 (And.intro ak2 (And.intro pC (And.intro HU (And.intro U2 (And.intro U1 (And.intro U0 (And.intro G6 (And.intro YN (And.intro YL (And.intro YK (And.intro YJ (And.intro YI (And.intro KJ (And.intro YH (And.intro YG (And.intro YF (And.intro jB (And.intro KI (And.intro YE (And.intro YD (And.intro KH (And.intro YC (And.intro YB (And.intro YA (And.intro KG (And.intro Y9 (And.intro KF (And.intro Y8 (And.intro KE (And.intro KD (And.intro KC (And.intro KB (And.intro KA (And.intro K9 (And.intro K8 K7)))))))))))))))))))))))))))))))))))))))))))))))))))))))))))))))))))))))))))
def blr := (And.intro XH (And.intro P6 (And.intro P5 (And.intro P4 (And.intro P3 (And.intro P2 (And.intro P1 (And.intro P0 (And.intro OZ (And.intro OY (And.intro OX (And.intro OW (And.intro OV (And.intro OU (And.intro OT (And.intro OS (And.intro OR (And.intro OQ (And.intro OP (And.intro ON (And.intro OM (And.intro OL (And.intro OK (And.intro ah4 (And.intro ah3 (And.intro ah2 (And.intro ah1 (And.intro OJ (And.intro OI (And.intro OH (And.intro OG (And.intro FV (And.intro FU (And.intro FR FQ))))))))))))))))))))))))))))))))))
def fgr := (And.intro fg3 (And.intro aw7 (And.intro aw6 (And.intro aw5 (And.intro RG (And.intro aw4 (And.intro aw3 (And.intro aw1 (And.intro aw0 (And.intro av9 (And.intro av8 (And.intro av7 (And.intro av6 (And.intro av5 (And.intro av4 (And.intro av3 (And.intro av2 (And.intro av1 (And.intro av0 (And.intro au9 (And.intro au8 (And.intro au7 (And.intro au6 (And.intro au5 (And.intro au4 (And.intro au3 (And.intro au2 (And.intro au1 (And.intro WY (And.intro WX (And.intro WW (And.intro WV (And.intro au0 (And.intro at9 (And.intro at8 (And.intro at7 (And.intro at6 (And.intro as9 (And.intro as8 (And.intro as7 (And.intro as6 (And.intro as5 (And.intro as4 (And.intro as3 (And.intro as2 (And.intro as1 (And.intro as0 (And.intro ar9 (And.intro ar8 (And.intro ar7 (And.intro ar6 (And.intro ar5 (And.intro ar4 (And.intro ar3 (And.intro ar2 (And.intro WU (And.intro WT (And.intro ar1 (And.intro ac5 (And.intro ac4 (And.intro ac3 (And.intro ac2 (And.intro ac0 (And.intro ab9 (And.intro ab8 (And.intro ab6 (And.intro ab5 (And.intro ab4 (And.intro ab3 (And.intro ab2 (And.intro ab1 (And.intro ab0 (And.intro aa9 (And.intro aa8 (And.intro aa7 (And.intro aa6 (And.intro (NB 3 rfl) (And.intro (NB 14 rfl) (And.intro (NB 15 rfl) (And.intro (NB 16 rfl) (And.intro M9 (And.intro M8 (And.intro M7 (And.intro M4 (And.intro M3 (And.intro (NB 18 rfl) (And.intro (NB 19 rfl) (And.intro (NB 21 rfl) (And.intro (NB 22 rfl) (And.intro (NB 23 rfl) (And.intro (NB 24 rfl) (And.intro (NB 25 rfl) (And.intro (NB 26 rfl) (And.intro (NB 27 rfl) (And.intro (NB 28 rfl) (And.intro (NB 32 rfl) (And.intro (NB 33 rfl) (And.intro (NB 34 rfl) (And.intro (NB 36 rfl) (And.intro (NB 37 rfl) (And.intro (NB 38 rfl) (And.intro (NB 39 rfl) (And.intro (NB 40 rfl) (And.intro (NB 41 rfl) (And.intro (NB 43 rfl) (And.intro (NB 49 rfl) (And.intro (NB 60 rfl) (And.intro (NB 62 rfl) (And.intro (NB 63 rfl) (And.intro (NB 64 rfl) (And.intro (NB 65 rfl) (And.intro (NB 66 rfl) (And.intro (NB 67 rfl) (And.intro (NB 68 rfl) (And.intro (NB 69 rfl) (And.intro (NB 70 rfl) (And.intro (NB 71 rfl) (And.intro (NB 72 rfl) (And.intro (NB 73 rfl) (And.intro (NB 74 rfl) (And.intro (NB 75 rfl) (And.intro (NB 76 rfl) (And.intro (NB 77 rfl) (And.intro (NB 78 rfl) (And.intro (NB 79 rfl) (And.intro (NB 80 rfl) (And.intro (NB 81 rfl) (And.intro (NB 82 rfl) (And.intro (NB 83 rfl) (And.intro (NB 84 rfl) (And.intro (NB 85 rfl) (And.intro (NB 86 rfl) (And.intro (NB 88 rfl) (And.intro (NB 89 rfl) (And.intro (NB 90 rfl) (And.intro (NB 97 rfl) (And.intro (NB 98 rfl) (And.intro (NB 99 rfl) (And.intro (NB 100 rfl) (And.intro (NB 101 rfl) (And.intro (NB 102 rfl) (And.intro (NB 103 rfl) (And.intro (NB 105 rfl) (And.intro (NB 106 rfl) (And.intro (NB 107 rfl) (And.intro (NB 109 rfl) (And.intro (NB 113 rfl) (And.intro (NB 114 rfl) (And.intro (NB 116 rfl) (And.intro (NB 117 rfl) (And.intro (NB 118 rfl) (And.intro (NB 120 rfl) (And.intro (NB 121 rfl) (And.intro (NB 122 rfl) (And.intro (NB 123 rfl) (NB 124 rfl))))))))))))))))))))))))))))))))))))))))))))))))))))))))))))))))))))))))))))))))))))))))))))))))))))))))))))))))))))))))))))))))))))))))))))))))))))))))))))
def hkr := (And.intro (HK 3 rfl) (And.intro (HK 14 rfl) (And.intro (HK 15 rfl) (And.intro (HK 16 rfl) (And.intro (HK 17 rfl) (And.intro (HK 18 rfl) (And.intro (HK 19 rfl) (And.intro (HK 21 rfl) (And.intro (HK 22 rfl) (And.intro (HK 23 rfl) (And.intro (HK 24 rfl) (And.intro (HK 25 rfl) (And.intro (HK 26 rfl) (And.intro (HK 27 rfl) (And.intro (HK 28 rfl) (And.intro (HK 32 rfl) (And.intro (HK 33 rfl) (And.intro (HK 34 rfl) (And.intro (HK 36 rfl) (And.intro (HK 37 rfl) (And.intro (HK 38 rfl) (And.intro (HK 39 rfl) (And.intro (HK 40 rfl) (And.intro (HK 41 rfl) (And.intro (HK 43 rfl) (And.intro (HK 49 rfl) (And.intro (HK 60 rfl) (And.intro (HK 62 rfl) (And.intro (HK 63 rfl) (And.intro (HK 64 rfl) (And.intro (HK 65 rfl) (And.intro (HK 66 rfl) (And.intro (HK 67 rfl) (And.intro (HK 68 rfl) (And.intro (HK 69 rfl) (And.intro (HK 70 rfl) (And.intro (HK 71 rfl) (And.intro (HK 72 rfl) (And.intro (HK 73 rfl) (And.intro (HK 74 rfl) (And.intro (HK 75 rfl) (And.intro (HK 76 rfl) (And.intro (HK 77 rfl) (And.intro (HK 78 rfl) (And.intro (HK 79 rfl) (And.intro (HK 80 rfl) (And.intro (HK 81 rfl) (And.intro (HK 82 rfl) (And.intro (HK 83 rfl) (And.intro (HK 84 rfl) (And.intro (HK 85 rfl) (And.intro (HK 86 rfl) (And.intro (HK 88 rfl) (And.intro (HK 89 rfl) (And.intro (HK 90 rfl) (And.intro (HK 97 rfl) (And.intro (HK 98 rfl) (And.intro (HK 99 rfl) (And.intro (HK 100 rfl) (And.intro (HK 101 rfl) (And.intro (HK 102 rfl) (And.intro (HK 103 rfl) (And.intro (HK 105 rfl) (And.intro (HK 106 rfl) (And.intro (HK 107 rfl) (And.intro (HK 109 rfl) (And.intro (HK 113 rfl) (And.intro (HK 114 rfl) (And.intro (HK 116 rfl) (And.intro (HK 117 rfl) (And.intro (HK 118 rfl) (And.intro (HK 120 rfl) (And.intro (HK 121 rfl) (And.intro (HK 122 rfl) (And.intro (HK 123 rfl) (And.intro (HK 124 rfl) (And.intro am0 (And.intro ZC (And.intro ZB (And.intro N2 (And.intro N1 N0)))))))))))))))))))))))))))))))))))))))))))))))))))))))))))))))))))))))))))))))))
end Go.Am.Ytlgebaofkolkoaa
set_option linter.unusedSimpArgs false
set_option linter.unusedVariables false
set_option linter.defProp false
set_option maxRecDepth 10000
namespace Go.Am.Ytlgebaofkolkoaa
open Go Go.Am Go.Proofs
theorem f122 (h : Hp) (n : Nat) (x : Int) : Wp (bM env (aY env) 122 [.int .i64 x]) h n fun v' h' n' => v' = .bool false ∧ h' = h ∧ n' = n := by
  refine aZ ad7 ZR ?_
  simp only [N5, Try.f122, Option.getD_some, List.replicate, fgr, bor, Nat.reduceSub, gE]
def ag6 (h : Hp) (n : Nat) (x : Int) := kV (f122 h n x)
theorem f124 (h : Hp) (n : Nat) (x : Int) : Wp (bM env (aY env) 124 [.int .u32 x]) h n fun v' h' n' => v' = .bool false ∧ h' = h ∧ n' = n := by
  refine aZ ad6 ZQ ?_
  simp only [N4, Try.f124, Option.getD_some, List.replicate, fgr, bor, Nat.reduceSub, gE]
def ag5 (h : Hp) (n : Nat) (x : Int) := kV (f124 h n x)
theorem f118 (h : Hp) (n : Nat) (x y : Int) : Wp (bM env (aY env) 118 [.int .i64 x, .int .i64 y]) h n fun v' h' n' => v' = .int .i64 (jP x y) ∧ h' = h ∧ n' = n := by
  refine aZ ad9 ZT ?_
  by_cases h1 : x < y
  · simp only [GU, Try.f118, Option.getD_some, List.replicate, fgr, hkr, bor, Nat.reduceAdd, Nat.reduceSub, ↓reduceIte, Int.reduceNeg, ag6, jP, h1, gE]
  · by_cases h2 : y < x <;> simp only [GU, Try.f118, Option.getD_some, List.replicate, fgr, hkr, bor, Nat.reduceAdd, Nat.reduceSub, ↓reduceIte, Int.reduceNeg, gt_iff_lt, ag6, jP, h1, h2, gE]
theorem f121 (h : Hp) (n : Nat) (x y : Int) : Wp (bM env (aY env) 121 [.int .u32 x, .int .u32 y]) h n fun v' h' n' => v' = .int .i64 (jP x y) ∧ h' = h ∧ n' = n := by
  refine aZ ad8 ZS ?_
  by_cases h1 : x < y
  · simp only [GS, Try.f121, Option.getD_some, List.replicate, fgr, hkr, bor, Nat.reduceAdd, Nat.reduceSub, ↓reduceIte, Int.reduceNeg, ag5, jP, h1, gE]
  · by_cases h2 : y < x <;> simp only [GS, Try.f121, Option.getD_some, List.replicate, fgr, hkr, bor, Nat.reduceAdd, Nat.reduceSub, ↓reduceIte, Int.reduceNeg, gt_iff_lt, ag5, jP, h1, h2, gE]
theorem JR : und env 147 = M.pure (.slice 3) := rfl
theorem z3 : sizeOf env 3 = M.pure 1 := rfl
theorem f63 (id : Nat) (a b : Int) (e : TypeId) (h : Hp) (n : Nat) (hr : h id = some (.row (.l [.int .i64 a, .int .i64 b]) e)) : Wp (bM env (aY env) 63 [.sl id 0 2 (some 2) 1]) h n fun v' h' n' => v' = .int .i64 (orI a b) ∧ h' = h ∧ n' = n := by
  refine aZ WZ WR ?_
  have hs : Rds h 1 (.sl id 0 2 (some 2) 1) 2 [.int .i64 a, .int .i64 b] := mV hr rfl
  have i0 := hs.idx (E := env) JR z3 (kk := .i64) (z := 0) (j := 0) rfl (by omega) (h' := h) (n' := n)
  have i1 := hs.idx (E := env) JR z3 (kk := .i64) (z := 1) (j := 1) rfl (by omega) (h' := h) (n' := n)
  have l0 := hs.load (E := env) ti3 rfl (k := 0 * 1) (n := n) rfl
  have l1 := hs.load (E := env) ti3 rfl (k := 1 * 1) (n := n) rfl
  have w1 : IntKind.i64.wrap 1 = 1 := by decide
  have w2 : IntKind.i64.wrap 2 = 2 := by decide
  by_cases ha : a = 0
  · subst ha
    by_cases hb : b = 0
    · subst hb
      simp only [xO, Try.f63, Option.getD_some, List.replicate, fgr, builtin, blr, bor, bS, Nat.reduceSub, Int.cast_ofNat_Int, ↓reduceIte, Int.reduceLT, Int.reduceAdd, cY, aI i0, aI i1, aI l0, aI l1, orI, w1, w2, gE]
    · simp only [xO, Try.f63, Option.getD_some, List.replicate, fgr, builtin, blr, bor, bS, Nat.reduceSub, Int.cast_ofNat_Int, ↓reduceIte, Int.reduceLT, Int.reduceAdd, cY, aI i0, aI i1, aI l0, aI l1, orI, w1, hb, gE]
  · simp only [xO, Try.f63, Option.getD_some, List.replicate, fgr, builtin, blr, bor, Nat.reduceSub, Int.cast_ofNat_Int, ↓reduceIte, Int.reduceLT, cY, aI i0, aI l0, orI, ha, gE]
structure Ver where
  aO : List UInt8
  pn : Int
  made : Int
  value : Int
  aL : List UInt8
  eQ : Bool
  cV : Int
  by_ : List UInt8
def aX (aO : List UInt8) (pn : Int) : List a9 := aO.map u8 ++ [.int .u32 pn]
def nG (v : Ver) (sv : a9) : List a9 := [.int .i64 v.made, .int .i64 v.value, sv, .bool v.eQ, .int .i64 v.cV] ++ v.by_.map u8
def aK (v : Ver) (sv : a9) : List a9 := aX v.aO v.pn ++ nG v sv
theorem c9 {aO : List UInt8} {pn : Int} (h : aO.length = 32) : (aX aO pn).length = 33 := by simp [aX, h]
theorem lA {aO : List UInt8} {pn : Int} (h : aO.length = 32) : (aX aO pn)[32]? = some (.int .u32 pn) := by
  unfold aX
  rw [List.getElem?_append_right (by rw [List.length_map]; omega), List.length_map, h]; rfl
theorem rW (aO : List UInt8) (pn : Int) : (aX aO pn).all bI = true := by
  unfold aX
  rw [List.all_append, wP]; rfl
theorem bD {v : Ver} {sv : a9} (h : v.aO.length = 32) (h2 : v.by_.length = 32) : (aK v sv).length = 70 := by
  unfold aK
  rw [List.length_append, c9 h]
  simp [nG, h2]
theorem wO {v : Ver} {sv : a9} (h : v.aO.length = 32) : (aK v sv).take 33 = aX v.aO v.pn := by
  unfold aK
  rw [List.take_append_of_le_length (by rw [c9 h]; omega), List.take_of_length_le (by rw [c9 h]; omega)]
theorem lX {v : Ver} {sv : a9} (h : v.aO.length = 32) (k : Nat) : (aK v sv)[33 + k]? = (nG v sv)[k]? := by
  unfold aK
  rw [List.getElem?_append_right (by rw [c9 h]; omega), c9 h]
  congr 1; omega
def DS (h1 : List UInt8) (n1 : Int) (h2 : List UInt8) (n2 : Int) : Int := orI (Lib.compareBytes h1 h2) (jP n1 n2)
def gM (v w : Ver) : Int := orI (DS v.aO v.pn w.aO w.pn) (jP v.made w.made)
def FH (v w : Ver) : Int := orI (Lib.compareBytes v.aL w.aL) (gM v w)
theorem u25 : und env 25 = M.pure (.array 32 5) := rfl
theorem z5 : sizeOf env 5 = M.pure 1 := rfl
theorem PE {id : Nat} {h' : Hp} {n' : Nat} : Rd (slice env 25 (.ptr id 0) none none none) h' n' [] (.sl id 0 32 (some 32) 1) := by
  simp only [slice, u25, z5, aB, dN, Nat.zero_mul, Nat.add_zero, Nat.sub_zero]
  exact Rd.pure _
theorem xM {h : Hp} {id : Nat} {xs : List a9} {l : List UInt8} (hr : Row h id xs) (hl : l.length = 32) (ht : xs.take 32 = l.map u8) (hx : 32 ≤ xs.length) : Bytes h (.sl id 0 32 (some 32) 1) l := by
  obtain ⟨e, he⟩ := hr
  have := Bytes.sl (h := h) id 0 (some 32) (.l xs) e l he (by show 0 + l.length ≤ xs.length; omega) (fun j hj => by
    have hj2 : j < xs.length := by omega
    rw [Nat.zero_add, bK.vW hj2]
    have h1 : (xs.take 32)[j]? = (l.map u8)[j]? := by rw [ht]
    rw [List.getElem?_take, if_pos (by omega), List.getElem?_eq_getElem hj2, List.getElem?_map, List.getElem?_eq_getElem hj] at h1
    injection h1)
  rwa [hl] at this
theorem f117 (h1 h2 : List UInt8) (n1 n2 : Int) (l1 : h1.length = 32) (l2 : h2.length = 32) (h : Hp) (n : Nat) (hf : bG h n) :
    Wp (bM env (aY env) 117 [.agg (aX h1 n1), .agg (aX h2 n2)]) h n fun v' h' n' => v' = .int .i64 (DS h1 n1 h2 n2) ∧ Old h h' n := by
  refine aZ ae0 ZU ?_
  simp only [N6, Try.f117, Option.getD_some, List.replicate, Nat.reduceAdd, Nat.reduceSub, gE]
  refine dU (v := .agg (aX h1 n1)) j7 rfl hf fun H1 r1 o1 f1 => ?_
  simp only [gE]
  refine dU (v := .agg (aX h2 n2)) j7 rfl f1 fun H2 r2 o2 f2 => ?_
  simp only [fgr, gE]
  have r1' : Row H2 n (aX h1 n1) := r1.aS (o2 n (by omega))
  have r2' : Row H2 (n + 1) (aX h2 n2) := r2
  have b1 := xM r1' l1 (by unfold aX; rw [List.take_append_of_le_length (by simp [l1]), List.take_of_length_le (by simp [l1])]) (by rw [c9 l1]; omega)
  have b2 := xM r2' l2 (by unfold aX; rw [List.take_append_of_le_length (by simp [l2]), List.take_of_length_le (by simp [l2])]) (by rw [c9 l2]; omega)
  refine cP ⟨rfl, ?_⟩
  simp only [tyr, opt, aQ, gE]
  rw [bJ PE]
  simp only [tyr, opt, aQ, Nat.reduceAdd, gE]
  rw [bJ PE]
  simp only [hkr, Nat.reduceAdd, gE]
  rw [bJ (yC b1 b2)]
  simp only [tyr, aQ, Nat.reduceAdd, gE]
  rw [bJ (r1'.one (lA l1) uF rfl)]
  simp only [tyr, aQ, Nat.reduceAdd, gE]
  rw [bJ (r2'.one (lA l2) uF rfl)]
  simp only [hkr, Nat.reduceAdd, gE]
  refine pW f2 (f121 (fun _ => none) _ n1 n2) (f121 H2 _ n1 n2) fun v3 h3 n3 hn3 f3 ⟨e1, e2, e3⟩ => ?_
  subst e1; subst e2; subst e3
  simp only [tyr, cel, Nat.reduceAdd, Nat.beq, buildSlice, fS, fill, List.take_succ_cons, List.take_zero, List.drop_succ_cons, List.drop_zero, Nat.ble, Nat.one_mul, gE]
  refine kA ti3 f3 fun H4 r4 o4 f4 => ?_
  simp only [hkr, Nat.reduceAdd, gE]
  refine eE f4 (f63 _ _ _ _ _ _ r4) fun v5 h5 n5 r5 w5 hn5 f5 ⟨e1, e2, e3⟩ => ?_
  subst e1; subst e2; subst e3
  simp only [fgr, Nat.reduceAdd, gE]
  refine ⟨(by (try simp (disch := first | assumption | omega) only [dW, gF]); repeat' (first | rfl | exact (Bool.or_eq_true _ _).mpr (.inr rfl) | refine (Bool.and_eq_true _ _).mpr ⟨?_, ?_⟩)), ?_⟩
  exact ⟨rfl, fun j hj => by rw [o4 j (by omega), o2 j (by omega), o1 j (by omega)]⟩
structure Ver.Ok (v : Ver) : Prop where
  h : v.aO.length = 32
  b : v.by_.length = 32
theorem jN {h : Hp} {n id : Nat} {v : Ver} {sv : a9} (hr : Row h id (aK v sv)) (ho : v.Ok) : Rd (load env 28 (.ptr id 0)) h n [id] (.agg (aX v.aO v.pn)) := by
  have := hr.agg (E := env) (n := n) (off := 0) j7 rfl (by rw [bD ho.h ho.b]; decide)
  rw [List.drop_zero] at this
  have e : (aK v sv).take 33 = aX v.aO v.pn := wO ho.h
  exact e ▸ this
theorem fI {h : Hp} {n id : Nat} {v : Ver} {sv : a9} (hr : Row h id (aK v sv)) (ho : v.Ok) : Rd (load env 31 (.ptr id 0)) h n [id] (.agg (aK v sv)) := hr.gT eB rfl (bD ho.h ho.b)
theorem gV {h : Hp} {n id : Nat} {v : Ver} {sv : a9} (hr : Row h id (aK v sv)) (ho : v.Ok) : Rd (load env 3 (.ptr id 33)) h n [id] (.int .i64 v.made) := hr.one (lX ho.h 0) ti3 rfl
theorem nI {h : Hp} {n id : Nat} {v : Ver} {sv : a9} (hr : Row h id (aK v sv)) (ho : v.Ok) : Rd (load env 2 (.ptr id 34)) h n [id] (.int .i64 v.value) := hr.one (lX ho.h 1) ti2 rfl
theorem kN {h : Hp} {n id : Nat} {v : Ver} {sv : a9} (hr : Row h id (aK v sv)) (ho : v.Ok) : Rd (load env 29 (.ptr id 35)) h n [id] sv := hr.one (lX ho.h 2) wQ rfl
theorem eP {h : Hp} {n id : Nat} {v : Ver} {sv : a9} (hr : Row h id (aK v sv)) (ho : v.Ok) : Rd (load env 3 (.ptr id 37)) h n [id] (.int .i64 v.cV) := hr.one (lX ho.h 4) ti3 rfl
theorem UL {h : Hp} {n id : Nat} {v : Ver} {sv : a9} (hr : Row h id (aK v sv)) (ho : v.Ok) : Rd (load env 25 (.ptr id 38)) h n [id] (.agg (v.by_.map u8)) := by
  have := hr.agg (E := env) (n := n) (off := 38) kH rfl (by rw [bD ho.h ho.b]; decide)
  have e : ((aK v sv).drop 38).take 32 = v.by_.map u8 := by
    unfold aK
    rw [List.drop_append, List.drop_eq_nil_of_le (by rw [c9 ho.h]; omega), c9 ho.h]
    show (([] : List a9) ++ v.by_.map u8).take 32 = _
    rw [List.nil_append, List.take_of_length_le (by simp [ho.b])]
  exact e ▸ this
theorem f107 (v w : Ver) (sv sw : a9) (ov : v.Ok) (ow : w.Ok) (h : Hp) (n : Nat) (hf : bG h n) :
    Wp (bM env (aY env) 107 [.agg (aK v sv), .agg (aK w sw)]) h n fun v' h' n' => v' = .int .i64 (gM v w) ∧ Old h h' n := by
  refine aZ ae5 ZZ ?_
  simp only [NC, Try.f107, Option.getD_some, List.replicate, Nat.reduceAdd, Nat.reduceSub, gE]
  refine dU (v := .agg (aK v sv)) eB rfl hf fun H1 r1 o1 f1 => ?_
  simp only [gE]
  refine dU (v := .agg (aK w sw)) eB rfl f1 fun H2 r2 o2 f2 => ?_
  simp only [fgr, gE]
  have r1' : Row H2 n (aK v sv) := r1.aS (o2 n (by omega))
  have r2' : Row H2 (n + 1) (aK w sw) := r2
  refine cP ⟨rfl, ?_⟩
  simp only [tyr, aQ, gE]
  rw [bJ (jN r1' ov)]
  simp only [tyr, aQ, Nat.reduceAdd, gE]
  rw [bJ (jN r2' ow)]
  simp only [hkr, Nat.reduceAdd, gE]
  refine pW f2 (f117 v.aO w.aO v.pn w.pn ov.h ow.h (fun _ => none) _ (fun _ _ => rfl)) (f117 v.aO w.aO v.pn w.pn ov.h ow.h H2 _ f2) fun v3 h3 n3 hn3 f3 ⟨e3, o3⟩ => ?_
  subst e3
  simp only [tyr, aQ, Nat.reduceAdd, gE]
  have r1' := r1'.aS (o3 n (by omega))
  have r2' := r2'.aS (o3 (n + 1) (by omega))
  rw [bJ (gV r1' ov)]
  simp only [tyr, aQ, Nat.reduceAdd, gE]
  rw [bJ (gV r2' ow)]
  simp only [hkr, Nat.reduceAdd, gE]
  refine pW f3 (f118 (fun _ => none) _ v.made w.made) (f118 h3 _ v.made w.made) fun v3 h3 n3 hn3 f3 ⟨e1, e2, e3⟩ => ?_
  subst e1; subst e2; subst e3
  simp only [tyr, cel, Nat.reduceAdd, Nat.beq, buildSlice, fS, fill, List.take_succ_cons, List.take_zero, List.drop_succ_cons, List.drop_zero, Nat.ble, Nat.one_mul, gE]
  refine kA ti3 f3 fun H4 r4 o4 f4 => ?_
  simp only [hkr, Nat.reduceAdd, gE]
  refine eE f4 (f63 _ _ _ _ _ _ r4) fun v5 h5 n5 r5 w5 hn5 f5 ⟨e1, e2, e3⟩ => ?_
  subst e1; subst e2; subst e3
  simp only [fgr, Nat.reduceAdd, gE]
  refine ⟨(by (try simp (disch := first | assumption | omega) only [dW, gF]); repeat' (first | rfl | exact (Bool.or_eq_true _ _).mpr (.inr rfl) | refine (Bool.and_eq_true _ _).mpr ⟨?_, ?_⟩)), ?_⟩
  exact ⟨rfl, fun j hj => by rw [o4 j (by omega), o3 j (by omega), o2 j (by omega), o1 j (by omega)]⟩
theorem t29 : und env 29 = M.pure (.slice 5) := rfl
theorem t9 : und env 9 = M.pure .string := rfl
theorem t5 : und env 5 = M.pure (.int .u8) := rfl
theorem s5 : sizeOf env 5 = M.pure 1 := rfl
structure At (h : Hp) (id : Nat) (sv : a9) (v : Ver) : Prop where
  row : Row h id (aK v sv)
  s : Bytes h sv v.aL
  ok : v.Ok
theorem At.aS {h h' : Hp} {id : Nat} {sv : a9} {v : Ver} (a : At h id sv v) (hi : h' id = h id) (hs : ∀ j, bB sv = some j → h' j = h j) : At h' id sv v := ⟨a.row.aS hi, a.s.aS hs, a.ok⟩
structure AtN (h : Hp) (n : Nat) (id : Nat) (sv : a9) (v : Ver) : Prop extends At h id sv v where
  idn : id < n
  sn : ∀ j, bB sv = some j → j < n
theorem AtN.old {h h' : Hp} {n n' : Nat} {id : Nat} {sv : a9} {v : Ver} (a : AtN h n id sv v) (hn : n ≤ n') (ho : Old h h' n) : AtN h' n' id sv v :=
  ⟨a.toAt.aS (ho id a.idn) (fun j hj => ho j (a.sn j hj)), by have := a.idn; omega, fun j hj => by have := a.sn j hj; omega⟩
theorem f84 (a b : Nat) (sa sb : a9) (v w : Ver) (h : Hp) (n : Nat) (ha : AtN h n a sa v) (hb : AtN h n b sb w) (hf : bG h n) :
    Wp (bM env (aY env) 84 [.ptr a 0, .ptr b 0]) h n fun v' h' n' => v' = .int .i64 (gM v w) ∧ Old h h' n := by
  refine aZ ax4 am7 ?_
  simp only [VM, Try.f84, Option.getD_some, List.replicate, fgr, Nat.reduceAdd, Nat.reduceSub, gE]
  refine cP ⟨rfl, ?_⟩
  simp only [Nat.reduceAdd, gE]
  rw [bJ (fI ha.row ha.ok)]
  simp only [Nat.reduceAdd, gE]
  rw [bJ (fI hb.row hb.ok)]
  simp only [hkr, Nat.reduceAdd, gE]
  refine eE hf (f107 v w sa sb ha.ok hb.ok h n hf) fun v5 h5 n5 r5 w5 hn5 f5 ⟨e1, o1⟩ => ?_
  subst e1
  simp only [fgr, Nat.reduceAdd, gE]
  refine ⟨(by (try simp (disch := first | assumption | omega) only [dW, gF]); repeat' (first | rfl | exact (Bool.or_eq_true _ _).mpr (.inr rfl) | refine (Bool.and_eq_true _ _).mpr ⟨?_, ?_⟩)), ?_⟩
  exact o1
theorem f85 (a b : Nat) (sa sb : a9) (v w : Ver) (h : Hp) (n : Nat) (ha : AtN h n a sa v) (hb : AtN h n b sb w) (hf : bG h n) :
    Wp (bM env (aY env) 85 [.ptr a 0, .ptr b 0]) h n fun v' h' n' => v' = .int .i64 (FH v w) ∧ Old h h' n := by
  refine aZ ax3 am6 ?_
  simp only [VK, Try.f85, Option.getD_some, List.replicate, fgr, Nat.reduceAdd, Nat.reduceSub, gE]
  refine cP ⟨rfl, ?_⟩
  simp only [tyr, aQ, Nat.reduceAdd, gE]
  rw [bJ (kN ha.row ha.ok)]
  simp only [tyr, aQ, Nat.reduceAdd, gE]
  rw [bJ (kN hb.row hb.ok)]
  simp only [hkr, Nat.reduceAdd, gE]
  rw [bJ (yC ha.s hb.s)]
  simp only [hkr, Nat.reduceAdd, gE]
  refine eE hf (f84 a b sa sb v w h n ha hb hf) fun v5 h5 n5 r5 w5 hn5 f5 ⟨e1, o1⟩ => ?_
  subst e1
  simp only [tyr, cel, Nat.reduceAdd, Nat.beq, buildSlice, fS, fill, List.take_succ_cons, List.take_zero, List.drop_succ_cons, List.drop_zero, Nat.ble, Nat.one_mul, gE]
  refine kA ti3 f5 fun H4 r4 o4 f4 => ?_
  simp only [hkr, Nat.reduceAdd, gE]
  refine eE f4 (f63 _ _ _ _ _ _ r4) fun v6 h6 n6 r6 w6 hn6 f6 ⟨e1, e2, e3⟩ => ?_
  subst e1; subst e2; subst e3
  simp only [fgr, Nat.reduceAdd, gE]
  refine ⟨(by (try simp (disch := first | assumption | omega) only [dW, gF]); repeat' (first | rfl | exact (Bool.or_eq_true _ _).mpr (.inr rfl) | refine (Bool.and_eq_true _ _).mpr ⟨?_, ?_⟩)), ?_⟩
  exact ⟨rfl, fun j hj => by rw [o4 j (by omega), o1 j hj]⟩
def gB (v : Ver) (z : Int) : Bool := decide (v.made ≤ z) && (decide (v.cV = 0) || decide (z < v.cV))
theorem f82 (v : Ver) (sv : a9) (ov : v.Ok) (z : Int) (h : Hp) (n : Nat) (hf : bG h n) :
    Wp (bM env (aY env) 82 [.agg (aK v sv), .int .i64 z]) h n fun v' h' n' => v' = .bool (gB v z) ∧ Old h h' n := by
  refine aZ ax6 am9 ?_
  simp only [VO, Try.f82, Option.getD_some, List.replicate, Nat.reduceAdd, Nat.reduceSub, gE]
  refine dU (v := .agg (aK v sv)) eB rfl hf fun H1 r1 o1 f1 => ?_
  simp only [tyr, fgr, bor, aQ, aI (gV r1 ov), gE]
  by_cases c1 : v.made ≤ z
  · by_cases c2 : v.cV = 0
    · simp only [tyr, fgr, bor, aT, aQ, aI (eP r1 ov), c1, c2, gE]
      exact ⟨by simp [gB, c1, c2], fun j hj => o1 j (by omega)⟩
    · by_cases c3 : z < v.cV
      · simp only [tyr, fgr, bor, aT, aQ, gt_iff_lt, aI (eP r1 ov), c1, c2, c3, gE]
        exact ⟨by simp [gB, c1, c2, c3], fun j hj => o1 j (by omega)⟩
      · simp only [tyr, fgr, bor, aT, aQ, gt_iff_lt, aI (eP r1 ov), c1, c2, c3, gE]
        exact ⟨by simp [gB, c1, c2, c3], fun j hj => o1 j (by omega)⟩
  · simp only [fgr, aT, c1, gE]
    exact ⟨by simp [gB, c1], fun j hj => o1 j (by omega)⟩
theorem f90 (v : a9) (l : List UInt8) (h : Hp) (n : Nat) (hb : Bytes h v l) (hl : l.length ≤ 1000000) (hf : bG h n) : Wp (bM env (aY env) 90 [v]) h n fun v' h' n' => Bytes h' v' l ∧ (∀ j, bB v' = some j → n ≤ j ∧ j < n') ∧ Old h h' n := by
  refine aZ aw9 am2 ?_
  simp only [VG, Try.f90, Option.getD_some, List.replicate, fgr, Nat.reduceSub, hb.DL t29, gE]
  cases hnil : mG v with
  | true =>
    simp only [fgr, gE]
    have := hb.nil.2 hnil
    subst this
    exact ⟨.aV, (fun j hj => by cases hj), Old.refl _ _⟩
  | false =>
    simp only [tyr, builtin, newRow, buildSlice, fS, fill, Nat.ble, gE]
    refine j3 (i := ⟨.int .u8, 1, 1, .int .u8 0⟩) (e := 5) (cnt := 0) (xs := []) (B8 (aP _ _ _) rfl (fun k hk => by injection hk with hk; exact hk.symm)) ((hb.aS fun j hj => ?_).rds) t29 t29 ti5 (wP l) (by decide) (by show 2 * (0 + l.length) * 1 ≤ _; omega) (by omega) hf.new ?_
    · rw [aG]
      intro e
      cases hb with
      | aV => cases hj
      | isl => cases hj
      | sl id off cap c e2 l hh hs hc => injection hj with hj; subst hj; subst e; rw [hf _ (Nat.le_refl _)] at hh; cases hh
    · intro v' h' n' hn hf' ho hid hold
      simp only [fgr, gE]
      rw [List.nil_append] at ho
      refine ⟨ho.rds.bytes (by intro e; subst e; cases ho), fun j hj => ?_, fun j hj => ?_⟩
      · rcases hid with q | ⟨q, q2⟩
        · rw [q] at hj; injection hj with hj; subst hj; exact ⟨Nat.le_refl _, by omega⟩
        · rw [q] at hj; injection hj with hj; omega
      · rw [hold j (by omega) (fun e => by injection e with e; omega), aG _ _ (by omega)]
theorem cS {v : Ver} {sv : a9} (h1 : bI sv = true) : (aK v sv).all bI = true := by
  unfold aK nG
  rw [List.all_append, rW, List.all_append, wP]
  simp only [List.all_cons, List.all_nil, h1, Bool.and_true]
  rfl
theorem HQ {v : Ver} {sv s' : a9} (h : v.aO.length = 32) : cH (aK v sv) 35 [s'] = aK v s' := by
  unfold cH aK
  have hl := c9 (pn := v.pn) h
  rw [List.take_append, List.drop_append, hl, List.take_of_length_le (by rw [hl]; omega), List.drop_eq_nil_of_le (by rw [hl]; simp)]
  simp only [List.length_singleton, nG, List.append_assoc]
  rfl
theorem f77 (v : Ver) (sv : a9) (ov : v.Ok) (h : Hp) (n : Nat) (hs : Bytes h sv v.aL) (hsn : ∀ j, bB sv = some j → j < n) (hl : v.aL.length ≤ 1000000) (hf : bG h n) :
    Wp (bM env (aY env) 77 [.agg (aK v sv)]) h n fun v' h' n' => ∃ s', v' = .agg (aK v s') ∧ Bytes h' s' v.aL ∧ (∀ j, bB s' = some j → n ≤ j ∧ j < n') ∧ Old h h' n := by
  refine aZ ay1 an5 ?_
  simp only [VT, Try.f77, Option.getD_some, List.replicate, Nat.reduceSub, gE]
  refine dU (v := .agg (aK v sv)) eB rfl hf fun H1 r1 o1 f1 => ?_
  simp only [gE]
  rw [cD eB rfl]
  obtain ⟨H2, hH2⟩ : ∃ H2, H2 = upd H1 (n + 1) (some (Blk.row (bK.l fX.i.zero.cells) 31)) := ⟨_, rfl⟩
  have f2 : bG H2 (n + 1 + 1) := by rw [hH2]; exact f1.new
  have o2 : ∀ j, j ≠ n + 1 → H2 j = H1 j := fun j hj => by rw [hH2, aG _ _ hj]
  have r2 : H2 (n + 1) = some (Blk.row (bK.l fX.i.zero.cells) 31) := by rw [hH2, aP]
  show Ops env 77 none _ _ _ _ _ (upd H1 (n + 1) (some (Blk.row (bK.l fX.i.zero.cells) 31))) _
  rw [← hH2]
  clear hH2
  have r1 := r1.aS (o2 n (by omega))
  have old2 : Old h H2 n := fun j hj => by rw [o2 j (by omega), o1 j (by omega)]
  simp only [tyr, fgr, aQ, gE]
  rw [aI (kN r1 ov)]
  simp only [hkr, gE]
  refine aJ f2 (f90 sv v.aL H2 _ (hs.aS fun j hj => old2 j (hsn j hj)) hl f2) fun s' H3 n3 hn3 f3 ⟨b3, i3, o3⟩ => ?_
  simp only [tyr, aQ, gE]
  obtain ⟨e1, he1⟩ := r1.aS (o3 n (by omega))
  rw [eS (Row.eZ he1 wQ (by rw [b3.kind.1]; rfl) (by show 35 + 1 ≤ (aK v sv).length; rw [bD ov.h ov.b]; decide) (by rw [b3.kind.1]; simp [b3.kind.2.1]))]
  rw [b3.kind.1, show cH (a9.agg (aK v sv)).cells 35 [s'] = aK v s' from HQ ov.h]
  simp only [fgr, gE]
  have f4 : bG (upd H3 n (some (Blk.row (bK.l (aK v s')) e1))) n3 := f3.upd (by omega)
  have r4 : Row (upd H3 n (some (Blk.row (bK.l (aK v s')) e1))) n (aK v s') := Row.new _ _ _ _
  rw [aI (fI r4 ov)]
  simp only [gE]
  have q4 : (upd H3 n (some (Blk.row (bK.l (aK v s')) e1))) (n + 1) = some (Blk.row (bK.l fX.i.zero.cells) 31) := by rw [aG _ _ (by omega), o3 _ (by omega), r2]
  rw [eS (Row.eZ q4 eB (v := .agg (aK v s')) (bD ov.h ov.b) (by decide) (cS b3.kind.2.1))]
  rw [eL (by show (aK v s').length = _; rw [bD ov.h ov.b]; rfl)]
  have hne : ∀ j, bB s' = some j → j ≠ n ∧ j ≠ n + 1 := fun j hj => by have := i3 j hj; omega
  have r5 : Row (upd (upd H3 n (some (Blk.row (bK.l (aK v s')) e1))) (n + 1) (some (Blk.row (bK.l (a9.agg (aK v s')).cells) 31))) (n + 1) (aK v s') := Row.new _ _ _ _
  simp only [bP, fgr, bX, nth, aE, cel, true_and]
  refine fL (fI r5 ov) ?_
  refine aM.2 ⟨s', rfl, b3.aS fun j hj => ?_, fun j hj => by have := i3 j hj; omega, fun j hj => ?_⟩
  · rw [aG _ _ (hne j hj).2, aG _ _ (hne j hj).1]
  · rw [aG _ _ (by omega), aG _ _ (by omega), o3 j (by omega), old2 j hj]
theorem f73 (x : Nat) (cs : List a9) (b : Bool) (h : Hp) (n : Nat) (hr : Row h x cs) (hc : cs[0]? = some (.bool b)) : Wp (bM env (aY env) 73 [.ptr x 0]) h n fun v' h' n' => v' = .bool (!b) ∧ h' = h ∧ n' = n := by
  refine aZ ay5 an9 ?_
  simp only [VX, Try.f73, Option.getD_some, List.replicate, tyr, fgr, bor, aR, dE, unOp, aT, aQ, aU, equal, cL, bT, bU, Nat.reduceSub, aI (hr.one hc ti4 rfl), gE]
theorem f75 (h : Hp) (n : Nat) (v : a9) : Wp (bM env (aY env) 75 [v]) h n fun v' h' n' => v' = .bool true ∧ h' = h ∧ n' = n := by
  refine aZ ay3 an7 ?_
  simp only [VV, Try.f75, Option.getD_some, List.replicate, fgr, Nat.reduceSub, gE]
structure Ps (h : Hp) (D : Nat → Prop) (xs : List a9) (vs : List Ver) : Prop where
  len : xs.length = vs.length
  at_ : ∀ (j : Nat) x v, xs[j]? = some x → vs[j]? = some v → ∃ id sv, x = .ptr id 0 ∧ At h id sv v ∧ D id ∧ ∀ i, bB sv = some i → D i
theorem Ps.mono {h h' : Hp} {D D' : Nat → Prop} {xs : List a9} {vs : List Ver} (p : Ps h D xs vs) (hd : ∀ j, D j → D' j) (hk : ∀ j, D j → h' j = h j) : Ps h' D' xs vs :=
  ⟨p.len, fun j x v hx hv => by
    obtain ⟨id, sv, e, a, d1, d2⟩ := p.at_ j x v hx hv
    exact ⟨id, sv, e, a.aS (hk id d1) (fun i hi => hk i (d2 i hi)), hd id d1, fun i hi => hd i (d2 i hi)⟩⟩
theorem Ps.get {h : Hp} {D : Nat → Prop} {xs : List a9} {vs : List Ver} (p : Ps h D xs vs) {j : Nat} (hj : j < vs.length) : ∃ id sv, xs[j]? = some (.ptr id 0) ∧ At h id sv vs[j] ∧ D id ∧ ∀ i, bB sv = some i → D i := by
  have hx : j < xs.length := by rw [p.len]; exact hj
  obtain ⟨id, sv, e, a⟩ := p.at_ j _ _ (List.getElem?_eq_getElem hx) (List.getElem?_eq_getElem hj)
  exact ⟨id, sv, by rw [List.getElem?_eq_getElem hx, e], a⟩
theorem Ps.cells {h : Hp} {D : Nat → Prop} {xs : List a9} {vs : List Ver} (p : Ps h D xs vs) : xs.all bI = true := by
  refine PF fun j x hx => ?_
  have hj := (List.getElem?_eq_some_iff.1 hx).1
  obtain ⟨id, sv, rfl, _⟩ := p.at_ j x _ hx (List.getElem?_eq_getElem (by rw [← p.len]; exact hj))
  rfl
def iP : Bool → Ver → Ver → Int
  | false => gM
  | true => FH
def fid : Bool → Nat
  | false => 84
  | true => 85
def fo (o : Bool) : a9 := .fn (.func (fid o)) [] []
theorem hkO (o : Bool) (args : List a9) : gX env (aY env) (fid o) args = bM env (aY env) (fid o) args := by cases o <;> rfl
theorem fO (o : Bool) (a b : Nat) (sa sb : a9) (v w : Ver) (h : Hp) (n : Nat) (ha : AtN h n a sa v) (hb : AtN h n b sb w) (hf : bG h n) :
    Wp (bM env (aY env) (fid o) [.ptr a 0, .ptr b 0]) h n fun v' h' n' => v' = .int .i64 (iP o v w) ∧ Old h h' n := by
  cases o
  · exact f84 a b sa sb v w h n ha hb hf
  · exact f85 a b sa sb v w h n ha hb hf
theorem u95 : und env 95 = M.pure (.slice 128) := rfl
theorem rC : sizeOf env 128 = M.pure 1 := rfl
theorem mid (i j : Nat) (h : i + j ≤ 1000000000) : IntKind.i64.wrap (Int.fdiv (IntKind.u64.wrap (IntKind.i64.wrap ((i : Int) + (j : Int)))) (2 ^ min (Int.toNat 1) IntKind.u64.bits)) = (((i + j) / 2 : Nat) : Int) := by
  have e1 : IntKind.i64.wrap ((i : Int) + (j : Int)) = (i : Int) + (j : Int) := w64 (by omega) (by omega)
  have e2 : IntKind.u64.wrap ((i : Int) + (j : Int)) = (i : Int) + (j : Int) := aj3 (by omega) (by omega)
  have e3 : ((2 : Int) ^ min (Int.toNat 1) IntKind.u64.bits) = 2 := by decide
  have e4 : ((i : Int) + (j : Int)).fdiv 2 = (((i + j) / 2 : Nat) : Int) := by rw [Int.fdiv_eq_ediv_of_nonneg _ (by decide)]; omega
  rw [e1, e2, e3, e4]
  exact w64 (by omega) (by omega)
theorem QJ (Q : fC) (ks : List Kf) (o : Bool) (v : a9) (t : Nat) (st : a9) (tv : Ver) (cnt : Nat) (xs : List a9) (vs : List Ver) (D : Nat → Prop) (h0 : Hp) (n0 : Nat) (hc : cnt ≤ 100000000) (hv : Rds h0 1 v cnt xs) (hvn : ∀ j, bB v = some j → j < n0) (hp : Ps h0 D xs vs) (hD : ∀ j, D j → j < n0) (ht : AtN h0 n0 t st tv)
    (hmono : ∀ (a b : Nat) (ha : a < vs.length) (hb : b < vs.length), a < b → iP o vs[b] tv < 0 → iP o vs[a] tv < 0)
    (hT : ∀ (p : Nat) (h : Hp) (n : Nat) (x6 x7 x11 x17 x31 : a9), p ≤ cnt → (∀ k (hk : k < vs.length), k < p → iP o vs[k] tv < 0) → (∀ k (hk : k < vs.length), p ≤ k → ¬ iP o vs[k] tv < 0) → n0 ≤ n → bG h n → Old h0 h n0 →
      eR env 114 none Q ks (.exit 0) (v :: .ptr t 0 :: fo o :: a9.aA :: a9.aA :: a9.aA :: x6 :: x7 :: .int .i64 (cnt : Nat) :: .int .i64 (p : Nat) :: .int .i64 (p : Nat) :: x11 :: a9.aA :: a9.aA :: a9.aA :: a9.aA :: a9.aA :: x17 :: a9.aA :: a9.aA :: a9.aA :: a9.aA :: a9.aA :: a9.aA :: a9.aA :: a9.aA :: a9.aA :: a9.aA :: a9.aA :: a9.aA :: a9.aA :: x31 :: a9.aA :: a9.aA :: a9.aA :: a9.aA :: a9.aA :: a9.aA :: a9.aA :: a9.aA :: a9.aA :: a9.aA :: a9.aA :: a9.aA :: a9.aA :: a9.aA :: a9.aA :: a9.aA :: a9.aA :: []) h n) :
    ∀ (m i j : Nat) (h : Hp) (n : Nat) (x6 x7 x11 x17 x31 : a9), j - i ≤ m → i ≤ j → j ≤ cnt → (∀ k (hk : k < vs.length), k < i → iP o vs[k] tv < 0) → (∀ k (hk : k < vs.length), j ≤ k → ¬ iP o vs[k] tv < 0) → n0 ≤ n → bG h n → Old h0 h n0 →
      Run env 114 none Q (.loop wH) ks (v :: .ptr t 0 :: fo o :: a9.aA :: a9.aA :: a9.aA :: x6 :: x7 :: .int .i64 (cnt : Nat) :: .int .i64 (i : Nat) :: .int .i64 (j : Nat) :: x11 :: a9.aA :: a9.aA :: a9.aA :: a9.aA :: a9.aA :: x17 :: a9.aA :: a9.aA :: a9.aA :: a9.aA :: a9.aA :: a9.aA :: a9.aA :: a9.aA :: a9.aA :: a9.aA :: a9.aA :: a9.aA :: a9.aA :: x31 :: a9.aA :: a9.aA :: a9.aA :: a9.aA :: a9.aA :: a9.aA :: a9.aA :: a9.aA :: a9.aA :: a9.aA :: a9.aA :: a9.aA :: a9.aA :: a9.aA :: a9.aA :: a9.aA :: a9.aA :: []) h n := by
  intro m
  have hcl : cnt = vs.length := by have := hv.length; have := hp.len; omega
  induction m with
  | zero =>
    intro i j h n x6 x7 x11 x17 x31 hm hij hjc h1 h2 hn hf ho
    have : i = j := by omega
    subst this
    rw [cY]
    have hcc : ¬ ((i : Int) < (i : Int)) := by omega
    simp only [wH, c8, Try.f114, Option.getD_some, fgr, bor, List.getD_cons_zero, hcc, gE]
    exact hT i h n _ _ _ _ _ hjc h1 h2 hn hf ho
  | succ m ih =>
    intro i j h n x6 x7 x11 x17 x31 hm hij hjc h1 h2 hn hf ho
    rw [cY]
    by_cases hlt : i < j
    · have hcc : ((i : Int) < (j : Int)) := by omega
      have hk : (i + j) / 2 < cnt := by omega
      have hv' := hv.aS (h' := h) (fun j hj => ho j (hvn j hj))
      have hp' := hp.mono (D' := D) (fun _ q => q) (fun j hj => ho j (hD j hj))
      obtain ⟨id, sv, hx, a, d1, d2⟩ := hp'.get (j := (i + j) / 2) (by omega)
      have hidx := hv'.idx (E := env) u95 rC (kk := .i64) (z := (((i + j) / 2 : Nat) : Int)) (j := (i + j) / 2) rfl hk (h' := h) (n' := n)
      have hld := hv'.load (E := env) jB rfl (k := (i + j) / 2 * 1) (n := n) (by rw [Nat.mul_one]; exact hx)
      simp only [wH, c8, Try.f114, Option.getD_some, tyr, fgr, lenOf, bor, bZ, bS, Int.reduceLE, convert, gP, oG, List.getD_cons_zero, hcc, mid i j (by omega), gE]
      rw [aI hidx]
      simp only [gE]
      rw [aI hld]
      simp only [fo, hkO, gE]
      have atn : AtN h n id sv (vs[(i + j) / 2]'(by omega)) := ⟨a, by have := hD _ d1; omega, fun q hq => by have := hD _ (d2 q hq); omega⟩
      refine aJ hf (fO o id t sv st _ tv h n atn (ht.old hn ho) hf) fun v' h' n' hn' hf' ⟨e', o'⟩ => ?_
      subst e'
      have ho' : Old h0 h' n0 := fun q hq => (o' q (by omega)).trans (ho q hq)
      by_cases hneg : iP o (vs[(i + j) / 2]'(by omega)) tv < 0
      · have w1 : IntKind.i64.wrap ((((i + j) / 2 : Nat) : Int) + 1) = (((i + j) / 2 + 1 : Nat) : Int) := by rw [w64 (by omega) (by omega)]; omega
        simp only [fgr, bor, bS, hneg, w1, gE]
        exact ih ((i + j) / 2 + 1) j h' n' _ _ _ _ _ (by omega) (by omega) hjc (fun k hk hlt => by
          by_cases q : k = (i + j) / 2
          · subst q; exact hneg
          · exact hmono k ((i + j) / 2) hk (by omega) (by omega) hneg) h2 (by omega) hf' ho'
      · simp only [fgr, bor, hneg, gE]
        exact ih i ((i + j) / 2) h' n' _ _ _ _ _ (by omega) (by omega) (by omega) h1 (fun k hk hle hlt => by
          by_cases q : k = (i + j) / 2
          · subst q; exact hneg hlt
          · exact hneg (hmono ((i + j) / 2) k (by omega) hk (by omega) hlt)) (by omega) hf' ho'
    · have : i = j := by omega
      subst this
      have hcc : ¬ ((i : Int) < (i : Int)) := by omega
      simp only [wH, c8, Try.f114, Option.getD_some, fgr, bor, List.getD_cons_zero, hcc, gE]
      exact hT i h n _ _ _ _ _ hjc h1 h2 hn hf ho
structure Pos (o : Bool) (vs : List Ver) (t : Ver) (p : Nat) : Prop where
  le : p ≤ vs.length
  lo : ∀ k (hk : k < vs.length), k < p → iP o vs[k] t < 0
  hi : ∀ k (hk : k < vs.length), p ≤ k → ¬ iP o vs[k] t < 0
def vR (o : Bool) (vs : List Ver) (t : Ver) (p : Nat) : Bool := match vs[p]? with
  | some w => decide (iP o w t = 0)
  | none => false
def JN (o : Bool) (vs : List Ver) (t : Ver) : Prop := ∀ (a b : Nat) (ha : a < vs.length) (hb : b < vs.length), a < b → iP o vs[b] t < 0 → iP o vs[a] t < 0
theorem f114 (o : Bool) (v : a9) (t : Nat) (st : a9) (tv : Ver) (cnt : Nat) (xs : List a9) (vs : List Ver) (D : Nat → Prop) (h : Hp) (n : Nat) (hc : cnt ≤ 100000000) (hv : Rds h 1 v cnt xs) (hvn : ∀ j, bB v = some j → j < n) (hp : Ps h D xs vs) (hD : ∀ j, D j → j < n) (ht : AtN h n t st tv)
    (hmono : JN o vs tv) (hf : bG h n) :
    Wp (bM env (aY env) 114 [v, .ptr t 0, fo o]) h n fun v' h' n' => ∃ p, Pos o vs tv p ∧ v' = .tup [.int .i64 (p : Nat), .bool (vR o vs tv p)] ∧ Old h h' n := by
  have hcl : cnt = vs.length := by have := hv.length; have := hp.len; omega
  refine aZ ae1 ZV ?_
  simp only [N7, Try.f114, Option.getD_some, List.replicate, fgr, builtin, Nat.reduceAdd, Nat.reduceSub, hv.dD u95, gE]
  refine QJ _ _ o v t st tv cnt xs vs D h n hc hv hvn hp hD ht hmono ?_ cnt 0 cnt h n _ _ _ _ _ (by omega) (by omega) (Nat.le_refl _) (fun k _ hk => by omega) (fun k hk hle => by omega) (Nat.le_refl _) hf (Old.refl _ _)
  intro p h1 n1 x6 x7 x11 x17 x31 hpc hlo hhi hn1 hf1 ho1
  have hP : Pos o vs tv p := ⟨by omega, hlo, hhi⟩
  by_cases hlt : p < cnt
  · have hcc : ((p : Int) < ((cnt : Nat) : Int)) := by omega
    have hv' := hv.aS (h' := h1) (fun j hj => ho1 j (hvn j hj))
    have hp' := hp.mono (D' := D) (fun _ q => q) (fun j hj => ho1 j (hD j hj))
    obtain ⟨id, sv, hx, a, d1, d2⟩ := hp'.get (j := p) (by omega)
    have hidx := hv'.idx (E := env) u95 rC (kk := .i64) (z := ((p : Nat) : Int)) (j := p) rfl hlt (h' := h1) (n' := n1)
    have hld := hv'.load (E := env) jB rfl (k := p * 1) (n := n1) (by rw [Nat.mul_one]; exact hx)
    simp only [bor, hcc, gE]
    rw [aI hidx]
    simp only [gE]
    rw [aI hld]
    simp only [fo, hkO, gE]
    have atn : AtN h1 n1 id sv (vs[p]'(by omega)) := ⟨a, by have := hD _ d1; omega, fun q hq => by have := hD _ (d2 q hq); omega⟩
    refine aJ hf1 (fO o id t sv st _ tv h1 n1 atn (ht.old hn1 ho1) hf1) fun v' h' n' hn' hf' ⟨e', o'⟩ => ?_
    subst e'
    have hia : vR o vs tv p = decide (iP o (vs[p]'(by omega)) tv = 0) := by
      unfold vR
      rw [List.getElem?_eq_getElem (by omega)]
    simp only [fgr, bor, aT, gE]
    exact ⟨p, hP, by rw [hia], fun q hq => (o' q (by omega)).trans (ho1 q hq)⟩
  · have hcc : ¬ ((p : Int) < ((cnt : Nat) : Int)) := by omega
    have hia : vR o vs tv p = false := by
      unfold vR
      rw [List.getElem?_eq_none (by omega)]
    simp only [fgr, bor, aT, hcc, gE]
    exact ⟨p, hP, by rw [hia], ho1⟩
theorem f103 (o : Bool) (x off : Nat) (cs : List a9) (v : a9) (t : Nat) (st : a9) (tv : Ver) (cnt : Nat) (xs : List a9) (vs : List Ver) (D : Nat → Prop) (h : Hp) (n : Nat) (hr : Row h x cs) (hc0 : cs[off]? = some v) (hc1 : cs[off + 1]? = some (fo o)) (hc : cnt ≤ 100000000) (hv : Rds h 1 v cnt xs) (hvn : ∀ j, bB v = some j → j < n) (hp : Ps h D xs vs) (hD : ∀ j, D j → j < n) (ht : AtN h n t st tv)
    (hmono : JN o vs tv) (hf : bG h n) :
    Wp (bM env (aY env) 103 [.ptr x off, .ptr t 0]) h n fun v' h' n' => ∃ p, Pos o vs tv p ∧ v' = .tup [.int .i64 (p : Nat), .bool (vR o vs tv p)] ∧ Old h h' n := by
  refine aZ ae8 aa2 ?_
  simp only [NG, Try.f103, Option.getD_some, List.replicate, fgr, Nat.reduceAdd, Nat.reduceSub, gE]
  refine cP ⟨rfl, ?_⟩
  simp only [tyr, aQ, Nat.reduceAdd, gE]
  rw [bJ (hr.one hc0 pC rfl)]
  simp only [tyr, aQ, Nat.reduceAdd, gE]
  rw [bJ (hr.one hc1 HU rfl)]
  simp only [hkr, Nat.reduceAdd, gE]
  refine eE hf (f114 o v t st tv cnt xs vs D h n hc hv hvn hp hD ht hmono hf) fun v5 h5 n5 r5 w5 hn5 f5 ⟨p, hP, e1, o1⟩ => ?_
  subst e1
  simp only [fgr, Nat.reduceAdd, gE]
  refine ⟨(by (try simp (disch := first | assumption | omega) only [dW, gF]); repeat' (first | rfl | exact (Bool.or_eq_true _ _).mpr (.inr rfl) | refine (Bool.and_eq_true _ _).mpr ⟨?_, ?_⟩)), ?_⟩
  exact ⟨p, hP, rfl, o1⟩
inductive Lp (h : Hp) : a9 → Nat → List a9 → Prop
  | nil : Lp h .aV 0 []
  | zero (id off : Nat) (c : bK) (hh : h id = some (.row c 128)) (hs : off ≤ c.size) : Lp h (.sl id off 0 (some 0) 1) 0 []
  | sl (id cnt : Nat) (cells xs : List a9) (hh : h id = some (.row (.l cells) 128)) (h0 : 0 < cells.length) (hl : cnt ≤ cells.length) (hx : cells.take cnt = xs) : Lp h (.sl id 0 cnt none 1) cnt xs
theorem Lp.rds {h : Hp} {s : a9} {cnt : Nat} {xs : List a9} (l : Lp h s cnt xs) : Rds h 1 s cnt xs := by
  cases l with
  | nil => exact .aV
  | zero id off c hh hs => exact .sl id off 0 (some 0) c 128 _ hh rfl (by simpa using hs) (fun j hj => by simp at hj)
  | sl id cnt cells xs hh h0 hl hx =>
    subst hx
    exact .sl id 0 cnt none (.l cells) 128 _ hh (by rw [List.length_take]; omega) (by rw [List.length_take]; show 0 + _ ≤ cells.length; omega) (fun j hj => by
      rw [List.length_take] at hj
      rw [Nat.zero_add, bK.vW (by omega), List.getElem_take])
theorem Lp.aS {h h' : Hp} {s : a9} {cnt : Nat} {xs : List a9} (l : Lp h s cnt xs) (hk : ∀ j, bB s = some j → h' j = h j) : Lp h' s cnt xs := by
  cases l with
  | nil => exact .nil
  | zero id off c hh hs => exact .zero id off c ((hk id rfl).trans hh) hs
  | sl id cnt cells xs hh h0 hl hx => exact .sl id cnt cells xs ((hk id rfl).trans hh) h0 hl hx
theorem Lp.eT {h : Hp} {n : Nat} {s : a9} {cnt : Nat} {xs : List a9} (l : Lp h s cnt xs) (hf : bG h n) {j : Nat} (hj : bB s = some j) : j < n := by
  by_cases q : j < n
  · exact q
  · cases l with
    | nil => cases hj
    | zero id off c hh hs => injection hj with hj; subst hj; rw [hf id (by omega)] at hh; cases hh
    | sl id cnt cells xs hh h0 hl hx => injection hj with hj; subst hj; rw [hf id (by omega)] at hh; cases hh
theorem T1 {h : Hp} {n xid k cnt : Nat} {s x : a9} {xs : List a9} (l : Lp h s cnt xs) (hx : h xid = some (.row (.l [x]) 128)) (h1 : bI x = true) (hk : k ≤ cnt) (hc : cnt ≤ 100000000) (hxs : xs.all bI = true) (hne : bB s ≠ some xid) (hf : bG h n) :
    Wp (uM 128 oV.i [s, .int .i64 (k : Nat), .sl xid 0 1 (some 1) 1]) h n fun v' h' n' => v' = .sl n 0 (cnt + 1) none 1 ∧ n' = n + 1 ∧ h' n = some (.row (.l (gR xs k x)) 128) ∧ ∀ j, j < n → bB s ≠ some j → h' j = h j := by
  have hxn : xid < n := by
    by_cases q : xid < n
    · exact q
    · rw [hf xid (by omega)] at hx; cases hx
  have b1 : Nat.blt xid n = true := Nat.ble_eq_true_of_le hxn
  have b2 : Nat.blt 0 1 = true := rfl
  have r0 : ((2 * 1 * 8).ble room && (1).ble room) = true := rfl
  simp only [uM, PJ, fW, hx, Option.some.injEq, exists_eq_left', cT, fP, b1, bK.size, bK.at, nth, List.length_singleton, b2, Nat.beq_refl, h1, Bool.and_self, true_and]
  cases l with
  | nil =>
    have : k = 0 := by omega
    subst this
    simp only [qT, iS, fP, hO, aM, decide_true, Int.cast_ofNat_Int, oV, r0, true_and]
    exact ⟨aP _ _ _, fun j hj _ => aG _ _ (by omega)⟩
  | zero id off c hh hs =>
    have : k = 0 := by omega
    subst this
    have hid : id < n := by
      by_cases q : id < n
      · exact q
      · rw [hf id (by omega)] at hh; cases hh
    have b3 : Nat.blt id n = true := Nat.ble_eq_true_of_le hid
    have b4 : off.ble c.size = true := Nat.ble_eq_true_of_le hs
    unfold bK.size at b4
    simp only [bE, fW, hh, Option.some.injEq, exists_eq_left', cT, fP, b3, b4, Nat.beq_refl, Bool.and_self, true_and, qT, iS, hO, aM, decide_true, Int.cast_ofNat_Int, oV, r0]
    exact ⟨aP _ _ _, fun j hj _ => aG _ _ (by omega)⟩
  | sl id cnt cells xs hh h0 hl hxx =>
    subst hxx
    have hid : id < n := by
      by_cases q : id < n
      · exact q
      · rw [hf id (by omega)] at hh; cases hh
    have b3 : Nat.blt id n = true := Nat.ble_eq_true_of_le hid
    have b4 : Nat.blt 0 cells.length = true := Nat.ble_eq_true_of_le h0
    have b5 : cnt.ble cells.length = true := Nat.ble_eq_true_of_le hl
    have b6 : (id.beq xid) = false := kU (fun e => hne (by rw [e]; rfl))
    have b7 : YW ((k : Nat) : Int) cnt = true := decide_eq_true ⟨by omega, by omega⟩
    have b8 : (bK.l cells).sub 0 cnt = cells.take cnt := rfl
    have r1 : ((2 * (cnt + 1) * 8).ble room && (cnt + 1).ble room) = true := by
      unfold room
      rw [dS (by omega), dS (by omega)]; rfl
    simp only [bE, fW, hh, Option.some.injEq, exists_eq_left', cT, fP, b3, b4, b5, b6, b7, b8, hxs, Nat.beq_refl, Bool.not_false, Bool.and_self, true_and, qI, iS, hO, aM, oV, r1, Int.toNat_natCast]
    refine ⟨by simp, aP _ _ _, fun j hj hn => ?_⟩
    rw [aG _ _ (by omega), aG _ _ (fun e => hn (by rw [e]; rfl))]
theorem aD4 (x : a9) (hx : x.cells = [x] ∧ bI x = true ∧ dV x = false) : buildSlice env 95 1 [(0, x)] = (newRow env 128 [x]).bind fun id => M.pure (.sl id 0 1 (some 1) 1) := by
  cases x with
  | agg l => cases hx.2.1
  | tup l => cases hx.2.1
  | aA => cases hx.2.1
  | _ => rfl
theorem f78 (o : Bool) (x off : Nat) (cs : List a9) (v : a9) (t : Nat) (st : a9) (tv : Ver) (cnt : Nat) (xs : List a9) (vs : List Ver) (D : Nat → Prop) (h : Hp) (n : Nat) (hr : Row h x cs) (hc0 : cs[off]? = some v) (hc1 : cs[off + 1]? = some (fo o)) (hc : cnt ≤ 10000000) (hv : Lp h v cnt xs) (hp : Ps h D xs vs) (hD : ∀ j, D j → j < n ∧ bB v ≠ some j) (ht : AtN h n t st tv)
    (hmono : JN o vs tv) (hx : x < n) (hxv : bB v ≠ some x) (hf : bG h n) :
    Wp (bM env (aY env) 78 [.ptr x off, .ptr t 0]) h n fun v' h' n' => v' = .tup [] ∧ ∃ p m, Pos o vs tv p ∧ n ≤ m ∧ m < n' ∧ Lp h' (.sl m 0 (cnt + 1) none 1) (cnt + 1) (gR xs p (.ptr t 0)) ∧ Row h' x (cH cs off [.sl m 0 (cnt + 1) none 1]) ∧ ∀ j, j < n → j ≠ x → bB v ≠ some j → h' j = h j := by
  have hcl : cnt = vs.length := by have := hv.rds.length; have := hp.len; omega
  have ho : off < cs.length := (List.getElem?_eq_some_iff.1 hc0).1
  refine aZ ay0 an4 ?_
  simp only [VS, Try.f78, Option.getD_some, List.replicate, hkr, Nat.reduceAdd, Nat.reduceSub, gE]
  refine aJ hf (f103 o x off cs v t st tv cnt xs vs D h n hr hc0 hc1 (by omega) hv.rds (fun j hj => hv.eT hf hj) hp (fun j hj => (hD j hj).1) ht hmono hf) fun v1 h1 n1 hn1 f1 ⟨p, hP, e1, o1⟩ => ?_
  subst e1
  have hr1 := hr.aS (o1 x hx)
  have hv1 := hv.aS (h' := h1) (fun j hj => o1 j (hv.eT hf hj))
  simp only [tyr, fgr, aQ, gE]
  rw [aI (hr1.one hc0 pC rfl)]
  simp only [tyr, hkr, newRow, aD4 (.ptr t 0) ⟨rfl, rfl, rfl⟩, gE]
  obtain ⟨H2, hH2⟩ : ∃ H2, H2 = upd h1 n1 (some (Blk.row (bK.l [a9.ptr t 0]) 128)) := ⟨_, rfl⟩
  have f2 : bG H2 (n1 + 1) := by rw [hH2]; exact f1.new
  have o2 : ∀ j, j ≠ n1 → H2 j = h1 j := fun j hj => by rw [hH2, aG _ _ hj]
  have r2 : H2 n1 = some (Blk.row (bK.l [a9.ptr t 0]) 128) := by rw [hH2, aP]
  rw [← hH2]
  clear hH2
  have hv2 := hv1.aS (h' := H2) (fun j hj => o2 j (by have := hv.eT hf hj; omega))
  have hvn : ∀ j, bB v = some j → j < n := fun j hj => hv.eT hf hj
  refine aJ f2 (T1 hv2 r2 rfl (by have := hP.le; omega) (by omega) hp.cells (fun e => by have := hvn _ e; omega) f2) fun v3 h3 n3 hn3 f3 ⟨e3, e3n, r3, o3⟩ => ?_
  subst e3; subst e3n
  obtain ⟨ex, hx3⟩ := hr1.aS (h' := h3) ((o3 x (by omega) hxv).trans (o2 x (by omega)))
  have hil : (gR xs p (a9.ptr t 0)).length = cnt + 1 := by rw [jU, hp.len, hcl]
  simp only [tyr, aQ, gE]
  rw [eS (Row.eZ (v := .sl (n1 + 1) 0 (cnt + 1) none 1) hx3 pC rfl (by show off + 1 ≤ _; omega) rfl)]
  simp only [bP, fgr, bX, aE, cel, true_and]
  refine ⟨p, n1 + 1, hP, by omega, by omega, .sl _ _ _ _ ((aG _ _ (by omega)).trans r3) (by omega) (by omega) (by rw [← hil, List.take_length]), Row.new _ _ _ _, fun j hj hjx hjv => ?_⟩
  rw [aG _ _ hjx, o3 j (by omega) hjv, o2 j (by omega), o1 j hj]
def iV {α : Type} (l : List α) (k : Nat) : List α := l.take k ++ l.drop (k + 1)
theorem pZ {α : Type} {l : List α} {k : Nat} (h : k < l.length) : (iV l k).length = l.length - 1 := by
  unfold iV
  rw [List.length_append, List.length_take, List.length_drop]; omega
theorem sl3 {id len i j : Nat} {z1 z2 z3 : Int} (e1 : z1 = (i : Nat)) (e2 : z2 = (j : Nat)) (e3 : z3 = (len : Nat)) (h1 : i ≤ j) (h2 : j ≤ len) {h' : Hp} {n' : Nat} :
    Rd (slice env 95 (.sl id 0 len none 1) (some (.int .i64 z1)) (some (.int .i64 z2)) (some (.int .i64 z3))) h' n' [] (.sl id i (j - i) (some (len - i)) 1) := by
  subst e1; subst e2; subst e3
  simp only [slice, u95, rC, aB, dN, dC, bind_assoc, bE, Option.getD_none, Int.toNat_natCast, Nat.zero_add, Nat.mul_one]
  exact Rd.bind (i2 := []) (Rd.ob (decide_eq_true ⟨by omega, by omega⟩)) (Rd.bind (i2 := []) (Rd.ob (decide_eq_true ⟨by omega, by omega⟩)) (Rd.bind (i2 := []) (Rd.ob (decide_eq_true ⟨by omega, by omega⟩)) (Rd.pure _)))
theorem slh {id len k : Nat} {z : Int} (hz : z = (k : Nat)) (hk : k ≤ len) {h' : Hp} {n' : Nat} : Rd (slice env 95 (.sl id 0 len none 1) none (some (.int .i64 z)) none) h' n' [] (.sl id 0 k none 1) := by
  subst hz
  have hle : (decide (((k : Nat) : Int) ≤ ((len : Nat) : Int))) = true := decide_eq_true (by omega)
  simp only [slice, mA, hle, u95, rC, aB, dN, dC, bind_assoc, bE, Nat.zero_mul, Nat.add_zero, Nat.sub_zero, Int.toNat_natCast]
  exact Rd.bind (i2 := []) (Rd.ob (decide_eq_true ⟨by omega, by omega⟩)) (Rd.pure _)
theorem sll {id len k : Nat} {z : Int} (hz : z = (k : Nat)) (hk : k ≤ len) {h' : Hp} {n' : Nat} : Rd (slice env 95 (.sl id 0 len none 1) (some (.int .i64 z)) none none) h' n' [] (.sl id k (len - k) none 1) := by
  subst hz
  simp only [slice, mA, u95, rC, aB, dN, dC, bind_assoc, bE, Nat.zero_add, Nat.mul_one, Int.toNat_natCast]
  exact Rd.bind (i2 := []) (Rd.ob (decide_eq_true ⟨by omega, by omega⟩)) (Rd.pure _)
theorem slb {id len hi : Nat} {z1 z2 : Int} {cells : List a9} {e : TypeId} (e1 : z1 = (len : Nat)) (e2 : z2 = (hi : Nat)) (h1 : len < hi) (h2 : hi ≤ cells.length) {h' : Hp} {n' : Nat} (hh : h' id = some (.row (.l cells) e)) :
    Rd (slice env 95 (.sl id 0 len none 1) (some (.int .i64 z1)) (some (.int .i64 z2)) none) h' n' [id] (.sl id len (hi - len) none 1) := by
  subst e1; subst e2
  have hle : (decide (((hi : Nat) : Int) ≤ ((len : Nat) : Int))) = false := decide_eq_false (by omega)
  simp only [slice, mA, hle, u95, rC, aB, dN, dC, bind_assoc, bE, Nat.zero_add, Nat.mul_one, Int.toNat_natCast]
  refine Rd.bind (i1 := [id]) (i2 := []) (Rd.get hh) ?_
  simp only [cT, aB, bK.size, Nat.sub_zero, Nat.div_one]
  exact Rd.bind (i2 := []) (Rd.ob (decide_eq_true ⟨by omega, by omega⟩)) (Rd.bind (i2 := []) (Rd.ob (decide_eq_true ⟨by omega, by omega⟩)) (Rd.pure _))
theorem clr {id off : Nat} {cells : List a9} {e : TypeId} {h : Hp} {n : Nat} (hh : h id = some (.row (.l cells) e)) (ho : off + 1 ≤ cells.length) :
    Wp (qF env [95] (.sl id off 1 none 1)) h n fun v' h' n' => h' = upd h id (some (.row (.l (cH cells off [.dP])) e)) ∧ n' = n := by
  have hb : (off + 1).ble cells.length = true := dS ho
  simp only [qF, u95, aB, hU, show (Nat.beq 1 0) = false from rfl, jB, bE, fS, List.append_nil, a9.cells, eK, bind_assoc, fW, hh, Option.some.injEq, exists_eq_left', cT, fP, bK.size, List.length_singleton, hb, List.all_cons, List.all_nil, bI, Bool.and_true, true_and, nZ, aM]
  rw [nH _ _ _ (by simpa using ho)]
  exact ⟨by simp, rfl, trivial⟩
theorem f105 (id cnt i : Nat) (cells xs : List a9) (h : Hp) (n : Nat) (hh : h id = some (.row (.l cells) 128)) (hl : cnt ≤ cells.length) (hx : cells.take cnt = xs) (hi : i < cnt) (hc : cnt ≤ 10000000) (h1 : xs.all bI = true) (hf : bG h n) :
    Wp (bM env (aY env) 105 [.sl id 0 cnt none 1, .int .i64 (i : Nat), .int .i64 (i + 1 : Nat)]) h n fun v' h' n' => v' = .sl id 0 (cnt - 1) none 1 ∧ n' = n ∧ ∃ cells', cells'.length = cells.length ∧ cells'.take (cnt - 1) = iV xs i ∧ h' id = some (.row (.l cells') 128) ∧ ∀ j, j ≠ id → h' j = h j := by
  have hxl : xs.length = cnt := by rw [← hx, List.length_take]; omega
  have hin : id < n := by
    by_cases q : id < n
    · exact q
    · rw [hf id (by omega)] at hh; cases hh
  refine aZ ae7 aa1 ?_
  simp only [NF, Try.f105, Option.getD_some, List.replicate, fgr, opt, builtin, blr, Nat.reduceAdd, Nat.reduceSub, gE]
  rw [aI (sl3 rfl rfl rfl (by omega) (by omega))]
  have ei : (((i : Nat) : Int) = ((i + 1 : Nat) : Int)) = False := by simp; omega
  simp only [fgr, builtin, blr, bor, ei, gE]
  refine cP ⟨rfl, ?_⟩
  simp only [opt, Nat.reduceAdd, gE]
  rw [bJ (slh rfl (by omega))]
  simp only [opt, Nat.reduceAdd, gE]
  rw [bJ (sll rfl (by omega))]
  simp only [builtin, Nat.reduceAdd, gE]
  have hsub : Rds h 1 (.sl id (i + 1) (cnt - (i + 1)) none 1) (cnt - (i + 1)) (xs.drop (i + 1)) := .sl id (i + 1) _ none (.l cells) 128 _ hh (by rw [List.length_drop, hxl]; omega) (by rw [List.length_drop, hxl]; show i + 1 + _ ≤ cells.length; omega) (fun j hj => by
    rw [List.length_drop, hxl] at hj
    subst hx
    rw [bK.vW (by omega), List.getElem_drop, List.getElem_take])
  have hone : (xs.drop (i + 1)).all bI = true := by
    rw [List.all_eq_true] at h1 ⊢
    exact fun x hx => h1 x (List.mem_of_mem_drop hx)
  have hdl : (xs.drop (i + 1)).length = cnt - (i + 1) := by rw [List.length_drop, hxl]
  refine eE hf (AP (i := ⟨.pointer 31, 1, 8, .dP⟩) (e := 128) (cap := none) (Q1 := fun v' h' n' => v' = .sl id 0 (cnt - 1) none 1 ∧ n' = n ∧ h' = upd h id (some (.row (.l (cH cells i (xs.drop (i + 1)))) 128))) hh hsub u95 u95 jB hone (by decide) (by show (i + (cnt - (i + 1))) * 1 ≤ _; omega) (fun m hm => by cases hm) ?_) fun v5 h5 n5 r5 w5 hn5 f5 ⟨e1, e2, e3⟩ => ?_
  · refine ⟨by rw [show i + (cnt - (i + 1)) = cnt - 1 by omega], rfl, ?_⟩
    rw [Nat.mul_one]
  subst e1; subst e2; subst e3
  simp only [fgr, opt, builtin, blr, Nat.reduceAdd, gE]
  refine ⟨(by (try simp (disch := first | assumption | omega) only [dW, gF]); repeat' (first | rfl | exact (Bool.or_eq_true _ _).mpr (.inr rfl) | refine (Bool.and_eq_true _ _).mpr ⟨?_, ?_⟩)), ?_⟩
  have hsl : (cH cells i (xs.drop (i + 1))).length = cells.length := fY (by rw [hdl]; omega)
  rw [aI (slb rfl rfl (by omega) (by rw [hsl]; omega) (aP _ _ _))]
  simp only [builtin, gE]
  rw [show cnt - (cnt - 1) = 1 by omega]
  refine dL (clr (aP _ _ _) (by rw [hsl]; omega)) fun v6 h6 n6 ⟨e1, e2⟩ => ?_
  subst e1; subst e2
  simp only [fgr, gE]
  refine ⟨_, ?_, ?_, aP _ _ _, fun j hj => by rw [aG _ _ hj, aG _ _ hj]⟩
  · rw [fY (by rw [hsl]; simp; omega), hsl]
  · have a1 : (cH (cH cells i (xs.drop (i + 1))) (cnt - 1) [a9.dP]).take (cnt - 1) = (cH cells i (xs.drop (i + 1))).take (cnt - 1) := by
      unfold cH
      rw [List.take_append_of_le_length (by rw [List.length_take]; simp only [List.length_append, List.length_take, List.length_drop]; omega), List.take_take, Nat.min_self]
    have a2 := pD (xs := cells) (ys := xs.drop (i + 1)) (a := i) (by rw [hdl]; omega)
    rw [hdl, show i + (cnt - (i + 1)) = cnt - 1 by omega] at a2
    rw [a1, a2]
    unfold iV
    rw [← hx, List.take_take, Nat.min_eq_left (by omega)]
theorem f79 (o : Bool) (x off : Nat) (cs : List a9) (v : a9) (t : Nat) (st : a9) (tv : Ver) (cnt : Nat) (xs : List a9) (vs : List Ver) (D : Nat → Prop) (h : Hp) (n : Nat) (hr : Row h x cs) (hc0 : cs[off]? = some v) (hc1 : cs[off + 1]? = some (fo o)) (hc : cnt ≤ 10000000) (hv : Lp h v cnt xs) (hp : Ps h D xs vs) (hD : ∀ j, D j → j < n ∧ bB v ≠ some j) (ht : AtN h n t st tv)
    (hmono : JN o vs tv) (hin : ∃ w ∈ vs, ¬ iP o w tv < 0) (hx : x < n) (hxv : bB v ≠ some x) (hf : bG h n) :
    Wp (bM env (aY env) 79 [.ptr x off, .ptr t 0]) h n fun v' h' n' => v' = .tup [] ∧ ∃ p id, Pos o vs tv p ∧ p < cnt ∧ bB v = some id ∧ Lp h' (.sl id 0 (cnt - 1) none 1) (cnt - 1) (iV xs p) ∧ Row h' x (cH cs off [.sl id 0 (cnt - 1) none 1]) ∧ ∀ j, j < n → j ≠ x → bB v ≠ some j → h' j = h j := by
  have hcl : cnt = vs.length := by have := hv.rds.length; have := hp.len; omega
  have ho : off < cs.length := (List.getElem?_eq_some_iff.1 hc0).1
  refine aZ ax9 an3 ?_
  simp only [VR, Try.f79, Option.getD_some, List.replicate, hkr, Nat.reduceAdd, Nat.reduceSub, gE]
  refine aJ hf (f103 o x off cs v t st tv cnt xs vs D h n hr hc0 hc1 (by omega) hv.rds (fun j hj => hv.eT hf hj) hp (fun j hj => (hD j hj).1) ht hmono hf) fun v1 h1 n1 hn1 f1 ⟨p, hP, e1, o1⟩ => ?_
  subst e1
  have hpc : p < cnt := by
    obtain ⟨w, hw, hwt⟩ := hin
    obtain ⟨k, hk, rfl⟩ := List.mem_iff_getElem.1 hw
    by_cases q : p < cnt
    · exact q
    · exact absurd (hP.lo k hk (by omega)) hwt
  have hr1 := hr.aS (o1 x hx)
  have hv1 := hv.aS (h' := h1) (fun j hj => o1 j (hv.eT hf hj))
  have hvn : ∀ j, bB v = some j → j < n := fun j hj => hv.eT hf hj
  have hxo := hp.cells
  cases hv1 with
  | nil => omega
  | zero id off c hh hs => omega
  | sl id cnt cells xs hh h0 hl hxx =>
  have w1 : IntKind.i64.wrap (((p : Nat) : Int) + 1) = ((p + 1 : Nat) : Int) := by rw [w64 (by omega) (by omega)]; omega
  simp only [tyr, fgr, aQ, gE]
  rw [aI (hr1.one hc0 pC rfl)]
  simp only [hkr, bor, bS, w1, gE]
  refine aJ f1 (f105 id cnt p cells xs h1 n1 hh hl hxx hpc hc hxo f1) fun v3 h3 n3 hn3 f3 ⟨e3, e3n, cells', l3, t3, r3, o3⟩ => ?_
  subst e3; subst e3n
  have hxid : x ≠ id := fun e => hxv (by rw [e]; rfl)
  obtain ⟨ex, hx3⟩ := hr1.aS (h' := h3) (o3 x hxid)
  simp only [tyr, aQ, gE]
  rw [eS (Row.eZ (v := .sl id 0 (cnt - 1) none 1) hx3 pC rfl (by show off + 1 ≤ _; omega) rfl)]
  simp only [bP, fgr, bX, aE, cel, true_and]
  refine ⟨p, id, hP, hpc, rfl, .sl _ _ _ _ ((aG _ _ (fun e => hxid e.symm)).trans r3) (by omega) (by omega) t3, Row.new _ _ _ _, fun j hj hjx hjv => ?_⟩
  rw [aG _ _ hjx, o3 j (fun e => hjv (by rw [e]; rfl)), o1 j hj]
theorem uG : p9 gM := ((qP.on Ver.aO).or (tA.on Ver.pn)).or (tA.on Ver.made)
theorem UQ : p9 FH := (qP.on Ver.aL).or uG
theorem AZ (o : Bool) : p9 (iP o) := by cases o; exact uG; exact UQ
def eU (o : Bool) (vs : List Ver) : Prop := vs.Pairwise fun a b => iP o a b < 0
theorem eU.at_ {o : Bool} {vs : List Ver} (r : eU o vs) {i j : Nat} (hi : i < vs.length) (hj : j < vs.length) (h : i < j) : iP o vs[i] vs[j] < 0 := List.pairwise_iff_getElem.1 r i j hi hj h
theorem eU.mono {o : Bool} {vs : List Ver} (r : eU o vs) (t : Ver) : JN o vs t := fun a b ha hb hab h => (AZ o).lt _ _ _ (r.at_ ha hb hab) h
theorem CU {o : Bool} {vs : List Ver} {t : Ver} {p : Nat} (r : eU o vs) (hp : Pos o vs t p) : vR o vs t p = true ↔ ∃ w ∈ vs, iP o w t = 0 := by
  unfold vR
  constructor
  · intro h
    cases e : vs[p]? with
    | none => rw [e] at h; cases h
    | some w =>
      rw [e] at h
      exact ⟨w, List.mem_of_getElem? e, of_decide_eq_true h⟩
  · rintro ⟨w, hw, he⟩
    obtain ⟨k, hk, rfl⟩ := List.mem_iff_getElem.1 hw
    have h1 : ¬ k < p := fun h => by have := hp.lo k hk h; omega
    have h2 : ¬ p < k := fun h => by
      have hpl : p < vs.length := by omega
      have := r.at_ hpl hk h
      rw [(AZ o).eqr he] at this
      exact hp.hi p hpl (Nat.le_refl _) this
    have : k = p := by omega
    subst this
    rw [List.getElem?_eq_getElem hk]
    exact decide_eq_true he
theorem CV {α : Type} {l : List α} {k : Nat} {v w : α} : w ∈ gR l k v ↔ w = v ∨ w ∈ l := by
  unfold gR
  rw [List.mem_append, List.mem_cons]
  constructor
  · rintro (h | h | h)
    · exact .inr (List.mem_of_mem_take h)
    · exact .inl h
    · exact .inr (List.mem_of_mem_drop h)
  · rintro (h | h)
    · exact .inr (.inl h)
    · rw [← List.take_append_drop k l, List.mem_append] at h
      exact h.elim .inl fun h => .inr (.inr h)
theorem uL {α : Type} (l : List α) (k : Nat) (v : α) : (gR l k v).Perm (v :: l) := by
  unfold gR
  have h := @List.perm_middle α v (l.take k) (l.drop k)
  rwa [List.take_append_drop] at h
theorem kT {α : Type} {l : List α} {k : Nat} (h : k < l.length) : l.Perm (l[k] :: iV l k) := by
  unfold iV
  have h1 : l = l.take k ++ l[k] :: l.drop (k + 1) := by
    rw [List.getElem_cons_drop, List.take_append_drop]
  have h2 := @List.perm_middle α l[k] (l.take k) (l.drop (k + 1))
  exact (List.Perm.of_eq h1).trans h2
theorem A2 {o : Bool} {vs : List Ver} {t : Ver} {p : Nat} (r : eU o vs) (hp : Pos o vs t p) (hn : ∀ w ∈ vs, iP o w t ≠ 0) : eU o (gR vs p t) := by
  unfold gR eU
  have r' := r
  rw [eU, ← List.take_append_drop p vs, List.pairwise_append] at r'
  obtain ⟨r1, r2, r3⟩ := r'
  rw [List.pairwise_append, List.pairwise_cons]
  have hlo : ∀ a ∈ vs.take p, iP o a t < 0 := fun a ha => by
    obtain ⟨k, hk, rfl⟩ := List.mem_iff_getElem.1 ha
    rw [List.length_take] at hk
    rw [List.getElem_take]
    exact hp.lo k (by omega) (by omega)
  have hhi : ∀ a ∈ vs.drop p, iP o t a < 0 := fun a ha => by
    obtain ⟨k, hk, rfl⟩ := List.mem_iff_getElem.1 ha
    rw [List.length_drop] at hk
    rw [List.getElem_drop]
    have h1 := hp.hi (p + k) (by omega) (by omega)
    have h2 := hn _ (List.getElem_mem (show p + k < vs.length by omega))
    have h3 := (AZ o).sM vs[p + k] t
    omega
  refine ⟨r1, ⟨hhi, r2⟩, fun a ha b hb => ?_⟩
  rcases List.mem_cons.1 hb with rfl | hb
  · exact hlo a ha
  · exact r3 a ha b hb
theorem qV {o : Bool} {vs : List Ver} (r : eU o vs) (p : Nat) : eU o (iV vs p) := by
  refine List.Pairwise.sublist ?_ r
  unfold iV
  conv => rhs; rw [← List.take_append_drop p vs]
  exact List.Sublist.append (List.Sublist.refl _) (List.drop_sublist_drop_left _ (by omega))
theorem Ps.ins {h : Hp} {D : Nat → Prop} {xs : List a9} {vs : List Ver} (p : Ps h D xs vs) {t : Nat} {st : a9} {tv : Ver} (a : At h t st tv) (d1 : D t) (d2 : ∀ j, bB st = some j → D j) (k : Nat) : Ps h D (gR xs k (.ptr t 0)) (gR vs k tv) := by
  have hl := p.len
  refine ⟨by rw [jU, jU, hl], fun j x v hx hv => ?_⟩
  unfold gR at hx hv
  by_cases c : j < (xs.take k).length
  · have c2 : j < (vs.take k).length := by rw [List.length_take] at *; omega
    rw [List.getElem?_append_left c, List.getElem?_take] at hx
    rw [List.getElem?_append_left c2, List.getElem?_take] at hv
    split at hx
    · rename_i q
      rw [if_pos q] at hv
      exact p.at_ j x v hx hv
    · cases hx
  · have e1 : (xs.take k).length = (vs.take k).length := by rw [List.length_take, List.length_take, hl]
    rw [List.getElem?_append_right (by omega)] at hx
    rw [List.getElem?_append_right (by omega), ← e1] at hv
    cases hc : j - (xs.take k).length with
    | zero =>
      rw [hc] at hx hv
      injection hx with hx
      injection hv with hv
      subst hx; subst hv
      exact ⟨t, st, rfl, a, d1, d2⟩
    | succ m =>
      rw [hc] at hx hv
      rw [List.getElem?_cons_succ, List.getElem?_drop] at hx hv
      exact p.at_ _ x v hx hv
theorem Ps.del {h : Hp} {D : Nat → Prop} {xs : List a9} {vs : List Ver} (p : Ps h D xs vs) (k : Nat) : Ps h D (iV xs k) (iV vs k) := by
  have hl := p.len
  have e1 : (xs.take k).length = (vs.take k).length := by rw [List.length_take, List.length_take, hl]
  refine ⟨by unfold iV; rw [List.length_append, List.length_append, e1, List.length_drop, List.length_drop, hl], fun j x v hx hv => ?_⟩
  unfold iV at hx hv
  by_cases c : j < (xs.take k).length
  · rw [List.getElem?_append_left c, List.getElem?_take] at hx
    rw [List.getElem?_append_left (by omega), List.getElem?_take] at hv
    split at hx
    · rename_i q
      rw [if_pos q] at hv
      exact p.at_ j x v hx hv
    · cases hx
  · rw [List.getElem?_append_right (by omega), List.getElem?_drop] at hx
    rw [List.getElem?_append_right (by omega), ← e1, List.getElem?_drop] at hv
    exact p.at_ _ x v hx hv
structure IxV (h : Hp) (n : Nat) (D : Nat → Prop) (x : Nat) (vl vs : a9) (xl xs : List a9) (L S : List Ver) : Prop where
  row : Row h x [.bool true, vl, fo false, vs, fo true]
  l : Lp h vl L.length xl
  lp : Ps h D xl L
  s : Lp h vs S.length xs
  sp : Ps h D xs S
  xn : x < n
  dn : ∀ j, D j → j < n
  xd : ¬ D x
  vlx : ∀ j, bB vl = some j → j ≠ x ∧ ¬ D j
  vsx : ∀ j, bB vs = some j → j ≠ x ∧ ¬ D j ∧ bB vl ≠ some j
def IxS (h : Hp) (n : Nat) (D M : Nat → Prop) (x : Nat) (L S : List Ver) : Prop :=
  ∃ vl vs xl xs, IxV h n D x vl vs xl xs L S ∧ M x ∧ (∀ j, bB vl = some j → M j) ∧ (∀ j, bB vs = some j → M j) ∧ ∀ j, M j → j < n ∧ ¬ D j
structure Ch2 (h : Hp) (n : Nat) (M : Nat → Prop) (h' : Hp) (n' : Nat) (M' : Nat → Prop) : Prop where
  nx : n ≤ n'
  fr : bG h' n'
  m' : ∀ j, M' j → M j ∨ n ≤ j
  old : ∀ j, j < n → ¬ M j → h' j = h j
theorem Ch2.trans {h h1 h2 : Hp} {n n1 n2 : Nat} {M M1 M2 : Nat → Prop} (a : Ch2 h n M h1 n1 M1) (b : Ch2 h1 n1 M1 h2 n2 M2) : Ch2 h n M h2 n2 M2 where
  nx := Nat.le_trans a.nx b.nx
  fr := b.fr
  m' := fun j hj => (b.m' j hj).elim (a.m' j) (fun q => .inr (Nat.le_trans a.nx q))
  old := fun j hj hm => by
    rw [b.old j (by have := a.nx; omega) (fun q => by
      rcases a.m' j q with q | q
      · exact hm q
      · omega)]
    exact a.old j hj hm
theorem Ch2.of {h h' : Hp} {n n' : Nat} {M : Nat → Prop} (hf : bG h' n') (hn : n ≤ n') (ho : Old h h' n) : Ch2 h n M h' n' M := ⟨hn, hf, fun _ h => .inl h, fun j hj _ => ho j hj⟩
theorem IxS.oU {h h' : Hp} {n n' : Nat} {D M : Nat → Prop} {x : Nat} {L S : List Ver} (s : IxS h n D M x L S) (hn : n ≤ n') (ho : ∀ j, j < n → (D j ∨ M j) → h' j = h j) : IxS h' n' D M x L S := by
  obtain ⟨vl, vs, xl, xs, sv, mx, ml, ms, mn⟩ := s
  refine ⟨vl, vs, xl, xs, ⟨sv.row.aS (ho x sv.xn (.inr mx)), sv.l.aS (fun j q => ho j (mn j (ml j q)).1 (.inr (ml j q))), sv.lp.mono (fun j q => q) (fun j q => ho j (sv.dn j q) (.inl q)), sv.s.aS (fun j q => ho j (mn j (ms j q)).1 (.inr (ms j q))), sv.sp.mono (fun j q => q) (fun j q => ho j (sv.dn j q) (.inl q)), by have := sv.xn; omega, fun j q => by have := sv.dn j q; omega, sv.xd, sv.vlx, sv.vsx⟩, mx, ml, ms, fun j q => ⟨by have := (mn j q).1; omega, (mn j q).2⟩⟩
theorem IxS.old {h h' : Hp} {n n' : Nat} {D M : Nat → Prop} {x : Nat} {L S : List Ver} (s : IxS h n D M x L S) (hn : n ≤ n') (ho : Old h h' n) : IxS h' n' D M x L S := s.oU hn fun j hj _ => ho j hj
theorem wA {m : M a9} {h : Hp} {n : Nat} {Q Q' : a9 → Hp → Nat → Prop} (hf : bG h n) (hw : Wp m h n Q) (hq : ∀ v h' n', n ≤ n' → bG h' n' → Q v h' n' → Q' v h' n') : Wp m h n Q' :=
  dL (hw.xP hf) fun v h' n' hh => hq v h' n' hh.2.1 hh.2.2 hh.1
theorem YT (x t : Nat) (st : a9) (tv : Ver) (L S : List Ver) (D M : Nat → Prop) (h : Hp) (n : Nat) (hs : IxS h n D M x L S) (ht : AtN h n t st tv) (htm : ¬ M t) (hsm : ∀ j, bB st = some j → ¬ M j) (hr : eU false L) (hc : L.length ≤ 1000000) (hf : bG h n) :
    Wp (bM env (aY env) 78 [.ptr x 1, .ptr t 0]) h n fun v' h' n' => v' = .tup [] ∧ ∃ p M', Pos false L tv p ∧ IxS h' n' (fun j => D j ∨ j = t ∨ bB st = some j) M' x (gR L p tv) S ∧ Ch2 h n M h' n' M' := by
  obtain ⟨vl, vs, xl, xs, sv, mx, ml, ms, mn⟩ := hs
  refine wA hf (f78 false x 1 _ vl t st tv L.length xl L D h n sv.row rfl rfl (by omega) sv.l sv.lp (fun j hj => ⟨sv.dn j hj, fun q => (sv.vlx j q).2 hj⟩) ht (hr.mono tv) sv.xn (fun q => (sv.vlx x q).1 rfl) hf) fun v' h' n' hn' f' ⟨e, p, m, hp, hm1, hm2, l', r', o'⟩ => ?_
  have hil : (gR L p tv).length = L.length + 1 := jU _ _ _
  have keepD : ∀ j, (D j ∨ j = t ∨ bB st = some j) → h' j = h j := fun j q => by
    rcases q with q | q | q
    · exact o' j (sv.dn j q) (fun e => sv.xd (by rw [← e]; exact q)) (fun e => (sv.vlx j e).2 q)
    · subst q; exact o' _ ht.idn (fun e => htm (by rw [e]; exact mx)) (fun e => htm (ml _ e))
    · exact o' j (ht.sn j q) (fun e => hsm j q (by rw [e]; exact mx)) (fun e => hsm j q (ml j e))
  have hne : ∀ j, (D j ∨ j = t ∨ bB st = some j) → j < n ∧ j ≠ x ∧ bB vs ≠ some j := fun j q => by
    rcases q with q | q | q
    · exact ⟨sv.dn j q, fun e => sv.xd (by rw [← e]; exact q), fun e => (sv.vsx j e).2.1 q⟩
    · subst q; exact ⟨ht.idn, fun e => htm (by rw [e]; exact mx), fun e => htm (ms _ e)⟩
    · exact ⟨ht.sn j q, fun e => hsm j q (by rw [e]; exact mx), fun e => hsm j q (ms j e)⟩
  have hw : ∀ j, bB vs = some j → h' j = h j := fun j q => o' j (mn j (ms j q)).1 ((sv.vsx j q).1) (fun e => (sv.vsx j q).2.2 e)
  refine ⟨e, p, fun j => j = x ∨ bB vs = some j ∨ j = m, hp, ⟨.sl m 0 (L.length + 1) none 1, vs, gR xl p (.ptr t 0), xs, ⟨r', ?_, ?_, ?_, ?_, by have := sv.xn; omega, fun j q => by have := (hne j q).1; omega, fun q => (hne x q).2.1 rfl, fun j q => ?_, fun j q => ?_⟩, .inl rfl, fun j q => ?_, fun j q => ?_, fun j q => ?_⟩, ⟨hn', f', fun j q => ?_, fun j hj hm => o' j hj (fun e => hm (by rw [e]; exact mx)) (fun e => hm (ml j e))⟩⟩
  · rw [hil]; exact l'
  · exact ((sv.lp.mono (D' := fun j => D j ∨ j = t ∨ bB st = some j) (fun j q => .inl q) (fun j q => keepD j (.inl q)))).ins (ht.toAt.aS (keepD t (.inr (.inl rfl))) (fun j q => keepD j (.inr (.inr q)))) (.inr (.inl rfl)) (fun j q => .inr (.inr q)) p
  · exact sv.s.aS hw
  · exact sv.sp.mono (fun j q => .inl q) (fun j q => keepD j (.inl q))
  · injection q with q
    subst q
    exact ⟨by have := sv.xn; omega, fun w => by have := (hne _ w).1; omega⟩
  · exact ⟨(sv.vsx j q).1, fun w => (hne j w).2.2 q, fun w => by injection w with w; have := (mn j (ms j q)).1; omega⟩
  · injection q with q; exact .inr (.inr q.symm)
  · exact .inr (.inl q)
  · rcases q with q | q | q
    · subst q; exact ⟨by have := sv.xn; omega, fun w => (hne _ w).2.1 rfl⟩
    · exact ⟨by have := (mn j (ms j q)).1; omega, fun w => (hne j w).2.2 q⟩
    · subst q; exact ⟨hm2, fun w => by have := (hne _ w).1; omega⟩
  · rcases q with q | q | q
    · subst q; exact .inl mx
    · exact .inl (ms j q)
    · exact .inr (by omega)
theorem YS (x t : Nat) (st : a9) (tv : Ver) (L S : List Ver) (D M : Nat → Prop) (h : Hp) (n : Nat) (hs : IxS h n D M x L S) (ht : AtN h n t st tv) (htm : ¬ M t) (hsm : ∀ j, bB st = some j → ¬ M j) (hr : eU true S) (hc : S.length ≤ 1000000) (hf : bG h n) :
    Wp (bM env (aY env) 78 [.ptr x 3, .ptr t 0]) h n fun v' h' n' => v' = .tup [] ∧ ∃ p M', Pos true S tv p ∧ IxS h' n' (fun j => D j ∨ j = t ∨ bB st = some j) M' x L (gR S p tv) ∧ Ch2 h n M h' n' M' := by
  obtain ⟨vl, vs, xl, xs, sv, mx, ml, ms, mn⟩ := hs
  refine wA hf (f78 true x 3 _ vs t st tv S.length xs S D h n sv.row rfl rfl (by omega) sv.s sv.sp (fun j hj => ⟨sv.dn j hj, fun q => (sv.vsx j q).2.1 hj⟩) ht (hr.mono tv) sv.xn (fun q => (sv.vsx x q).1 rfl) hf) fun v' h' n' hn' f' ⟨e, p, m, hp, hm1, hm2, l', r', o'⟩ => ?_
  have hil : (gR S p tv).length = S.length + 1 := jU _ _ _
  have keepD : ∀ j, (D j ∨ j = t ∨ bB st = some j) → h' j = h j := fun j q => by
    rcases q with q | q | q
    · exact o' j (sv.dn j q) (fun e => sv.xd (by rw [← e]; exact q)) (fun e => (sv.vsx j e).2.1 q)
    · subst q; exact o' _ ht.idn (fun e => htm (by rw [e]; exact mx)) (fun e => htm (ms _ e))
    · exact o' j (ht.sn j q) (fun e => hsm j q (by rw [e]; exact mx)) (fun e => hsm j q (ms j e))
  have hne : ∀ j, (D j ∨ j = t ∨ bB st = some j) → j < n ∧ j ≠ x ∧ bB vl ≠ some j := fun j q => by
    rcases q with q | q | q
    · exact ⟨sv.dn j q, fun e => sv.xd (by rw [← e]; exact q), fun e => (sv.vlx j e).2 q⟩
    · subst q; exact ⟨ht.idn, fun e => htm (by rw [e]; exact mx), fun e => htm (ml _ e)⟩
    · exact ⟨ht.sn j q, fun e => hsm j q (by rw [e]; exact mx), fun e => hsm j q (ml j e)⟩
  have hw : ∀ j, bB vl = some j → h' j = h j := fun j q => o' j (mn j (ml j q)).1 ((sv.vlx j q).1) (fun e => (sv.vsx j e).2.2 q)
  refine ⟨e, p, fun j => j = x ∨ bB vl = some j ∨ j = m, hp, ⟨vl, .sl m 0 (S.length + 1) none 1, xl, gR xs p (.ptr t 0), ⟨r', ?_, ?_, ?_, ?_, by have := sv.xn; omega, fun j q => by have := (hne j q).1; omega, fun q => (hne x q).2.1 rfl, fun j q => ?_, fun j q => ?_⟩, .inl rfl, fun j q => ?_, fun j q => ?_, fun j q => ?_⟩, ⟨hn', f', fun j q => ?_, fun j hj hm => o' j hj (fun e => hm (by rw [e]; exact mx)) (fun e => hm (ms j e))⟩⟩
  · exact sv.l.aS hw
  · exact sv.lp.mono (fun j q => .inl q) (fun j q => keepD j (.inl q))
  · rw [hil]; exact l'
  · exact ((sv.sp.mono (D' := fun j => D j ∨ j = t ∨ bB st = some j) (fun j q => .inl q) (fun j q => keepD j (.inl q)))).ins (ht.toAt.aS (keepD t (.inr (.inl rfl))) (fun j q => keepD j (.inr (.inr q)))) (.inr (.inl rfl)) (fun j q => .inr (.inr q)) p
  · exact ⟨(sv.vlx j q).1, fun w => (hne j w).2.2 q⟩
  · injection q with q
    subst q
    exact ⟨by have := sv.xn; omega, fun w => by have := (hne _ w).1; omega, fun w => by have := (mn _ (ml _ w)).1; omega⟩
  · exact .inr (.inl q)
  · injection q with q; exact .inr (.inr q.symm)
  · rcases q with q | q | q
    · subst q; exact ⟨by have := sv.xn; omega, fun w => (hne _ w).2.1 rfl⟩
    · exact ⟨by have := (mn j (ml j q)).1; omega, fun w => (hne j w).2.2 q⟩
    · subst q; exact ⟨hm2, fun w => by have := (hne _ w).1; omega⟩
  · rcases q with q | q | q
    · subst q; exact .inl mx
    · exact .inl (ml j q)
    · exact .inr (by omega)
theorem SS (x t : Nat) (st : a9) (tv : Ver) (L S : List Ver) (D M : Nat → Prop) (h : Hp) (n : Nat) (hs : IxS h n D M x L S) (ht : AtN h n t st tv) (hr : eU false L) (hin : ∃ w ∈ L, iP false w tv = 0) (hc : L.length ≤ 1000000) (hf : bG h n) :
    Wp (bM env (aY env) 79 [.ptr x 1, .ptr t 0]) h n fun v' h' n' => v' = .tup [] ∧ ∃ p, Pos false L tv p ∧ p < L.length ∧ IxS h' n' D M x (iV L p) S ∧ Ch2 h n M h' n' M := by
  obtain ⟨vl, vs, xl, xs, sv, mx, ml, ms, mn⟩ := hs
  refine wA hf (f79 false x 1 _ vl t st tv L.length xl L D h n sv.row rfl rfl (by omega) sv.l sv.lp (fun j hj => ⟨sv.dn j hj, fun q => (sv.vlx j q).2 hj⟩) ht (hr.mono tv) (by obtain ⟨w, hw, he⟩ := hin; exact ⟨w, hw, by omega⟩) sv.xn (fun q => (sv.vlx x q).1 rfl) hf) fun v' h' n' hn' f' ⟨e, p, id, hp, hpl, hid, l', r', o'⟩ => ?_
  have hdl : (iV L p).length = L.length - 1 := pZ hpl
  have keepD : ∀ j, D j → h' j = h j := fun j q => o' j (sv.dn j q) (fun e => sv.xd (by rw [← e]; exact q)) (fun e => (sv.vlx j e).2 q)
  have hw : ∀ j, bB vs = some j → h' j = h j := fun j q => o' j (mn j (ms j q)).1 ((sv.vsx j q).1) (fun e => (sv.vsx j q).2.2 e)
  refine ⟨e, p, hp, hpl, ⟨.sl id 0 (L.length - 1) none 1, vs, iV xl p, xs, ⟨r', ?_, ?_, ?_, ?_, by have := sv.xn; omega, fun j q => by have := sv.dn j q; omega, sv.xd, fun j q => ?_, fun j q => ?_⟩, mx, fun j q => ?_, fun j q => ?_, fun j q => ⟨by have := (mn j q).1; omega, (mn j q).2⟩⟩, ⟨hn', f', fun j q => .inl q, fun j hj hm => o' j hj (fun e => hm (by rw [e]; exact mx)) (fun e => hm (ml j e))⟩⟩
  · rw [hdl]; exact l'
  · exact (sv.lp.mono (fun j q => q) keepD).del p
  · exact sv.s.aS hw
  · exact sv.sp.mono (fun j q => q) keepD
  · injection q with q; subst q; exact sv.vlx _ hid
  · refine ⟨(sv.vsx j q).1, (sv.vsx j q).2.1, fun w => (sv.vsx j q).2.2 (by injection w with w; rw [← w]; exact hid)⟩
  · injection q with q; subst q; exact ml _ hid
  · exact ms j q
theorem SR (x t : Nat) (st : a9) (tv : Ver) (L S : List Ver) (D M : Nat → Prop) (h : Hp) (n : Nat) (hs : IxS h n D M x L S) (ht : AtN h n t st tv) (hr : eU true S) (hin : ∃ w ∈ S, iP true w tv = 0) (hc : S.length ≤ 1000000) (hf : bG h n) :
    Wp (bM env (aY env) 79 [.ptr x 3, .ptr t 0]) h n fun v' h' n' => v' = .tup [] ∧ ∃ p, Pos true S tv p ∧ p < S.length ∧ IxS h' n' D M x L (iV S p) ∧ Ch2 h n M h' n' M := by
  obtain ⟨vl, vs, xl, xs, sv, mx, ml, ms, mn⟩ := hs
  refine wA hf (f79 true x 3 _ vs t st tv S.length xs S D h n sv.row rfl rfl (by omega) sv.s sv.sp (fun j hj => ⟨sv.dn j hj, fun q => (sv.vsx j q).2.1 hj⟩) ht (hr.mono tv) (by obtain ⟨w, hw, he⟩ := hin; exact ⟨w, hw, by omega⟩) sv.xn (fun q => (sv.vsx x q).1 rfl) hf) fun v' h' n' hn' f' ⟨e, p, id, hp, hpl, hid, l', r', o'⟩ => ?_
  have hdl : (iV S p).length = S.length - 1 := pZ hpl
  have keepD : ∀ j, D j → h' j = h j := fun j q => o' j (sv.dn j q) (fun e => sv.xd (by rw [← e]; exact q)) (fun e => (sv.vsx j e).2.1 q)
  have hw : ∀ j, bB vl = some j → h' j = h j := fun j q => o' j (mn j (ml j q)).1 ((sv.vlx j q).1) (fun e => (sv.vsx j e).2.2 q)
  refine ⟨e, p, hp, hpl, ⟨vl, .sl id 0 (S.length - 1) none 1, xl, iV xs p, ⟨r', ?_, ?_, ?_, ?_, by have := sv.xn; omega, fun j q => by have := sv.dn j q; omega, sv.xd, fun j q => ?_, fun j q => ?_⟩, mx, fun j q => ?_, fun j q => ?_, fun j q => ⟨by have := (mn j q).1; omega, (mn j q).2⟩⟩, ⟨hn', f', fun j q => .inl q, fun j hj hm => o' j hj (fun e => hm (by rw [e]; exact mx)) (fun e => hm (ms j e))⟩⟩
  · exact sv.l.aS hw
  · exact sv.lp.mono (fun j q => q) keepD
  · rw [hdl]; exact l'
  · exact (sv.sp.mono (fun j q => q) keepD).del p
  · exact sv.vlx j q
  · injection q with q; subst q; exact sv.vsx _ hid
  · exact ml j q
  · injection q with q; subst q; exact ms _ hid
def key (aO : List UInt8) (pn made : Int) : Ver := ⟨aO, pn, made, 0, [], false, 0, List.replicate 32 0⟩
theorem MT {aO : List UInt8} {pn made : Int} (h : aO.length = 32) : (key aO pn made).Ok := ⟨h, rfl⟩
theorem iK {place : Nat → Option (Nat × Nat)} {i off sz : Nat} {pre mid post : List a9} {v : a9} {bH : List (Nat × a9)} (hp : place i = some (off, sz)) (h1 : pre.length = off) (h2 : mid.length = sz) (h3 : v.cells.length = sz) (h4 : dV v = false) :
    fill place (pre ++ mid ++ post) ((i, v) :: bH) = fill place (pre ++ v.cells ++ post) bH := by
  have e1 : (off + sz).ble (pre ++ mid ++ post).length = true := dS (by simp only [List.length_append]; omega)
  have e2 : (pre ++ mid ++ post).take off = pre := by rw [List.append_assoc, List.take_left' h1]
  have e3 : (pre ++ mid ++ post).drop (off + sz) = post := by rw [List.drop_left' (by rw [List.length_append]; omega)]
  simp only [fill, hp, h4, Bool.not_false, h3, Nat.beq_refl, e1, Bool.and_self, e2, e3]
def z33 : List a9 := List.replicate 32 (.int .u8 0) ++ [.int .u32 0]
def z36 : List a9 := [.int .i64 0, .aV, .bool false, .int .i64 0] ++ List.replicate 32 (.int .u8 0)
theorem z31 : fX.i.zero.cells = [] ++ z33 ++ ([.int .i64 0] ++ z36) := rfl
theorem RT {aO : List UInt8} {pn made : Int} (hl : aO.length = 32) : build env 31 [(0, .agg (aX aO pn)), (1, .int .i64 made)] = M.pure (.agg (aK (key aO pn made) .aV)) := by
  have h1 : (a9.agg (aX aO pn)).cells.length = 33 := c9 hl
  have e1 : ∀ pl : Nat → Option (Nat × Nat), pl 0 = some (0, 33) → pl 1 = some (33, 1) → fill pl fX.i.zero.cells [(0, .agg (aX aO pn)), (1, .int .i64 made)] = some (aK (key aO pn made) .aV) := fun pl p0 p1 => by
    rw [z31, iK p0 rfl rfl h1 rfl, List.nil_append, ← List.append_assoc]
    rw [iK p1 h1 rfl rfl rfl]
    simp only [fill]
    congr 1
    unfold aK nG key
    simp only [a9.cells, List.append_assoc]
    congr 1
  have e2 : build env 31 [(0, .agg (aX aO pn)), (1, .int .i64 made)] = (dG "build" (fill ([(0, 33), (33, 1), (34, 1), (35, 1), (36, 1), (37, 1), (38, 32)][·]?) fX.i.zero.cells [(0, .agg (aX aO pn)), (1, .int .i64 made)])).bind fun cs => M.pure (.agg cs) := rfl
  rw [e2, e1 _ rfl rfl]
  rfl
theorem f76 (x : Nat) (aO : List UInt8) (pn made : Int) (hl : aO.length = 32) (L S : List Ver) (D M : Nat → Prop) (h : Hp) (n : Nat) (hs : IxS h n D M x L S) (hr : eU false L) (hc : L.length ≤ 1000000) (hf : bG h n) :
    Wp (bM env (aY env) 76 [.ptr x 0, .agg (aX aO pn), .int .i64 made]) h n fun v' h' n' => ((∀ w ∈ L, gM w (key aO pn made) ≠ 0) ∧ v' = .dP ∨ ∃ id sv w, w ∈ L ∧ gM w (key aO pn made) = 0 ∧ v' = .ptr id 0 ∧ At h' id sv w ∧ D id ∧ ∀ j, bB sv = some j → D j) ∧ Old h h' n := by
  have hs0 := hs
  obtain ⟨vl, vs, xl, xs, sv, mx, ml, ms, mn⟩ := hs
  refine aZ ay2 an6 ?_
  simp only [VU, Try.f76, Option.getD_some, List.replicate, Nat.reduceAdd, Nat.reduceSub, gE]
  refine dU (v := .agg (aX aO pn)) j7 rfl hf fun H1 r1 o1 f1 => ?_
  simp only [fgr, gE]
  refine cP ⟨rfl, ?_⟩
  simp only [tyr, aQ, Nat.reduceAdd, gE]
  have hld : Rd (load env 28 (.ptr n 0)) H1 (n + 1) [n] (.agg (aX aO pn)) := Row.gT r1 j7 rfl (c9 hl)
  rw [bJ hld]
  simp only [Nat.reduceAdd, RT hl, gE]
  refine HB (v := .agg (aK (key aO pn made) .aV)) eB rfl f1 fun H2 r w r2 o2 f2 => ?_
  simp only [hkr, Nat.reduceAdd, gE]
  have old2 : Old h H2 n := fun j hj => by rw [o2 j (by omega), o1 j (by omega)]
  have ht : AtN H2 (n + 1 + 1) (n + 1) .aV (key aO pn made) := ⟨⟨⟨_, r2⟩, .aV, MT hl⟩, by omega, fun j hj => by cases hj⟩
  have row2 := sv.row.aS (old2 x sv.xn)
  refine eE f2 (f103 false x 1 _ vl (n + 1) .aV (key aO pn made) L.length xl L D H2 _ row2 rfl rfl (by omega) (sv.l.aS (fun j q => old2 j (mn j (ml j q)).1)).rds (fun j q => by have := (mn j (ml j q)).1; omega) (sv.lp.mono (fun j q => q) (fun j q => old2 j (sv.dn j q))) (fun j q => by have := sv.dn j q; omega) ht (hr.mono _) f2) fun v3 h3 n3 r3 w3 hn3 f3 ⟨p, hP, e3, o3⟩ => ?_
  subst e3
  have old3 : Old h h3 n := fun j hj => by rw [o3 j (by omega), old2 j hj]
  simp only [fgr, unOp, Nat.reduceAdd, gE]
  refine ⟨(by (try simp (disch := first | assumption | omega) only [dW, gF]); repeat' (first | rfl | exact (Bool.or_eq_true _ _).mpr (.inr rfl) | refine (Bool.and_eq_true _ _).mpr ⟨?_, ?_⟩)), ?_⟩
  have hat := CU hr hP
  cases hq : vR false L (key aO pn made) p with
  | false =>
    simp only [fgr, reduceCtorEq, gE]
    exact ⟨.inl (fun w hw he => by rw [hq] at hat; exact absurd (hat.2 ⟨w, hw, he⟩) (by decide)), old3⟩
  | true =>
    simp only [tyr, aQ, gE]
    have hpl : p < L.length := by
      by_cases q : p < L.length
      · exact q
      · unfold vR at hq; rw [List.getElem?_eq_none (by omega)] at hq; cases hq
    have he : gM L[p] (key aO pn made) = 0 := by
      unfold vR at hq
      rw [List.getElem?_eq_getElem hpl] at hq
      exact of_decide_eq_true hq
    have row3 := sv.row.aS (old3 x sv.xn)
    have lp3 := sv.lp.mono (D' := D) (fun j q => q) (fun j q => old3 j (sv.dn j q))
    have l3 := sv.l.aS (fun j q => old3 j (mn j (ml j q)).1)
    obtain ⟨id, sw, hx, a, d1, d2⟩ := lp3.get hpl
    rw [aI (row3.one (off := 1) rfl pC rfl)]
    simp only [gE]
    rw [aI (l3.rds.idx u95 rC rfl hpl)]
    simp only [gE]
    rw [aI (l3.rds.load jB rfl (by rw [Nat.mul_one]; exact hx))]
    simp only [fgr, reduceCtorEq, gE]
    exact ⟨.inr ⟨id, sw, L[p], List.getElem_mem hpl, he, rfl, a, d1, d2⟩, old3⟩
theorem mB {o : Bool} {vs : List Ver} (r : eU o vs) {a b : Ver} (ha : a ∈ vs) (hb : b ∈ vs) (h : iP o a b = 0) : a = b := by
  obtain ⟨i, hi, rfl⟩ := List.mem_iff_getElem.1 ha
  obtain ⟨j, hj, rfl⟩ := List.mem_iff_getElem.1 hb
  rcases Nat.lt_trichotomy i j with q | q | q
  · have := r.at_ hi hj q; omega
  · subst q; rfl
  · have := r.at_ hj hi q
    have := (AZ o).sM vs[i] vs[j]
    omega
def pos (o : Bool) (vs : List Ver) (t : Ver) : Nat := vs.countP fun w => decide (iP o w t < 0)
theorem Pos.eq {o : Bool} {vs : List Ver} {t : Ver} {p : Nat} (h : Pos o vs t p) : p = pos o vs t := by
  unfold pos
  conv => rhs; rw [← List.take_append_drop p vs]
  rw [List.countP_append]
  have h1 : (vs.take p).countP (fun w => decide (iP o w t < 0)) = p := by
    rw [List.countP_eq_length.2 (fun a ha => by
      obtain ⟨k, hk, rfl⟩ := List.mem_iff_getElem.1 ha
      rw [List.length_take] at hk
      rw [List.getElem_take]
      exact decide_eq_true (h.lo k (by omega) (by omega))), List.length_take]
    have := h.le; omega
  have h2 : (vs.drop p).countP (fun w => decide (iP o w t < 0)) = 0 := by
    rw [List.countP_eq_zero]
    intro a ha
    obtain ⟨k, hk, rfl⟩ := List.mem_iff_getElem.1 ha
    rw [List.length_drop] at hk
    rw [List.getElem_drop]
    have := h.hi (p + k) (by omega) (by omega)
    simpa using this
  omega
theorem pK {o : Bool} {vs : List Ver} {t : Ver} {p : Nat} (r : eU o vs) (h : Pos o vs t p) (ht : t ∈ vs) : ∃ hp : p < vs.length, vs[p] = t := by
  have ha := (CU r h).2 ⟨t, ht, (AZ o).refl t⟩
  unfold vR at ha
  cases e : vs[p]? with
  | none => rw [e] at ha; cases ha
  | some w =>
    rw [e] at ha
    obtain ⟨hp, hw⟩ := List.getElem?_eq_some_iff.1 e
    refine ⟨hp, ?_⟩
    rw [hw]
    exact mB r (List.mem_of_getElem? e) ht (of_decide_eq_true ha)
def rF (L : List Ver) (v : Ver) : List Ver := gR L (pos false L v) v
def lI (L : List Ver) (v : Ver) : List Ver := iV L (pos false L v)
structure Ix (h : Hp) (n : Nat) (D M : Nat → Prop) (x : Nat) (L : List Ver) : Prop where
  ex : ∃ S, IxS h n D M x L S ∧ eU true S ∧ L.Perm S
  r : eU false L
  ok : ∀ v ∈ L, v.Ok ∧ v.aL.length ≤ 1000000
structure Chg (h : Hp) (n : Nat) (D M : Nat → Prop) (h' : Hp) (n' : Nat) (D' M' : Nat → Prop) : Prop extends Ch2 h n M h' n' M' where
  d : ∀ j, D j → D' j
  d' : ∀ j, D' j → D j ∨ n ≤ j
theorem Chg.trans {h h1 h2 : Hp} {n n1 n2 : Nat} {D D1 D2 M M1 M2 : Nat → Prop} (a : Chg h n D M h1 n1 D1 M1) (b : Chg h1 n1 D1 M1 h2 n2 D2 M2) : Chg h n D M h2 n2 D2 M2 :=
  ⟨a.toCh2.trans b.toCh2, fun j hj => b.d j (a.d j hj), fun j hj => (b.d' j hj).elim (a.d' j) (fun q => .inr (Nat.le_trans a.nx q))⟩
theorem Chg.of {h h' : Hp} {n n' : Nat} {D M : Nat → Prop} (hf : bG h' n') (hn : n ≤ n') (ho : Old h h' n) : Chg h n D M h' n' D M := ⟨.of hf hn ho, fun _ h => h, fun _ h => .inl h⟩
theorem Ix.oU {h h' : Hp} {n n' : Nat} {D M : Nat → Prop} {x : Nat} {L : List Ver} (s : Ix h n D M x L) (hn : n ≤ n') (ho : ∀ j, j < n → (D j ∨ M j) → h' j = h j) : Ix h' n' D M x L := by
  obtain ⟨⟨S, a, b, c⟩, r, k⟩ := s
  exact ⟨⟨S, a.oU hn ho, b, c⟩, r, k⟩
theorem Ix.old {h h' : Hp} {n n' : Nat} {D M : Nat → Prop} {x : Nat} {L : List Ver} (s : Ix h n D M x L) (hn : n ≤ n') (ho : Old h h' n) : Ix h' n' D M x L := s.oU hn fun j hj _ => ho j hj
theorem aE8 : build env 100 [(0, .bool true)] = M.pure (.agg [.bool true, .aV, .dI, .aV, .dI]) := rfl
theorem f40 (h : Hp) (n : Nat) (hf : bG h n) : Wp (bM env (aY env) 40 []) h n fun v' h' n' => ∃ x, v' = .ptr x 0 ∧ n ≤ x ∧ Ix h' n' (fun _ => False) (fun j => j = x) x [] ∧ Old h h' n := by
  refine aZ az7 ap1 ?_
  simp only [W9, Try.f40, Option.getD_some, List.replicate, fgr, Nat.reduceSub, aE8, gE]
  refine dU (v := .agg [.bool true, .aV, .dI, .aV, .dI]) G6 rfl hf fun h1 r1 o1 f1 => ?_
  obtain ⟨e, he⟩ := r1
  simp only [tyr, fgr, aQ, Nat.reduceAdd, gE]
  rw [eS (Row.eZ (v := .fn (.func 84) [] []) he HU rfl (by decide) rfl)]
  simp only [tyr, cel, aQ, Nat.reduceAdd, gE]
  rw [eS (Row.eZ (v := .fn (.func 85) [] []) (aP _ _ _) HU rfl (by decide) rfl)]
  simp only [fgr, cel, gE]
  refine ⟨n, rfl, Nat.le_refl _, ⟨⟨[], ⟨.aV, .aV, [], [], ⟨?_, .nil, ⟨rfl, fun j x v hx => by simp at hx⟩, .nil, ⟨rfl, fun j x v hx => by simp at hx⟩, by omega, fun j q => q.elim, fun q => q, fun j q => (by cases q), fun j q => (by cases q)⟩, rfl, fun j q => (by cases q), fun j q => (by cases q), fun j q => ⟨by omega, fun w => w⟩⟩, .nil, .nil⟩, .nil, fun v hv => (by cases hv)⟩, fun j hj => ?_⟩
  · exact Row.new _ _ _ _
  · rw [aG _ _ (by omega), aG _ _ (by omega), o1 j (by omega)]
theorem f34 (x : Nat) (aO : List UInt8) (pn made : Int) (hl : aO.length = 32) (L : List Ver) (D M : Nat → Prop) (h : Hp) (n : Nat) (hs : Ix h n D M x L) (hc : L.length ≤ 1000000) (hf : bG h n) :
    Wp (bM env (aY env) 34 [.ptr x 0, .agg (aX aO pn), .int .i64 made]) h n fun v' h' n' => ((∀ w ∈ L, gM w (key aO pn made) ≠ 0) ∧ v' = .int .i64 210 ∧ Ix h' n' D M x L ∨ ∃ w, w ∈ L ∧ gM w (key aO pn made) = 0 ∧ v' = .int .i64 0 ∧ Ix h' n' D M x (lI L w)) ∧ Chg h n D M h' n' D M := by
  obtain ⟨⟨S, s, rS, perm⟩, rL, ok⟩ := hs
  have s0 := s
  obtain ⟨vl, vs, xl, xs, sv, mx, ml, ms, mn⟩ := s0
  refine aZ aA2 aq0 ?_
  simp only [WE, Try.f34, Option.getD_some, List.replicate, Nat.reduceAdd, Nat.reduceSub, gE]
  refine dU (v := .agg (aX aO pn)) j7 rfl hf fun H1 r1 o1 f1 => ?_
  have old1 : Old h H1 n := fun j hj => o1 j (by omega)
  simp only [fgr, hkr, gE]
  refine dA (f73 x _ true H1 (n + 1) (sv.row.aS (old1 x sv.xn)) rfl) ?_
  simp only [fgr, gE]
  have hld : Rd (load env 28 (.ptr n 0)) H1 (n + 1) [n] (.agg (aX aO pn)) := Row.gT r1 j7 rfl (c9 hl)
  rw [aI hld]
  simp only [hkr, gE]
  have s1 := s.old (n' := n + 1) (by omega) old1
  refine aJ f1 (f76 x aO pn made hl L S D M H1 (n + 1) s1 rL hc f1) fun v2 h2 n2 hn2 f2 ⟨hh, o2⟩ => ?_
  have old2 : Old h h2 n := fun j hj => by rw [o2 j (by omega), old1 j hj]
  have s2 := s1.old hn2 o2
  rcases hh with ⟨hno, e2⟩ | ⟨id, sw, w, hw, hkey, e2, a, d1, d2⟩
  · subst e2
    simp only [tyr, fgr, bor, aR, dE, aU, equal, cL, bT, bU, gE]
    exact ⟨.inl ⟨hno, ⟨⟨S, s2, rS, perm⟩, rL, ok⟩⟩, .of f2 (by omega) old2⟩
  subst e2
  simp only [tyr, fgr, hkr, bor, aR, dE, aQ, aU, equal, cL, bT, bU, gE]
  have at2 : AtN h2 n2 id sw w := ⟨a, by have := sv.dn id d1; omega, fun j q => by have := sv.dn j (d2 j q); omega⟩
  refine aJ f2 (SS x id sw w L S D M h2 n2 s2 at2 rL ⟨w, hw, uG.refl w⟩ hc f2) fun v3 h3 n3 hn3 f3 ⟨e3, p, hp, hpl, s3, c3⟩ => ?_
  subst e3
  simp only [tyr, fgr, hkr, aQ, gE]
  have hwm : ∀ j, D j → ¬ M j := fun j q w => (mn j w).2 q
  have at3 : AtN h3 n3 id sw w := ⟨a.aS (c3.old id at2.idn (hwm id d1)) (fun j q => c3.old j (at2.sn j q) (hwm j (d2 j q))), by have := at2.idn; omega, fun j q => by have := at2.sn j q; omega⟩
  have hwS : w ∈ S := perm.mem_iff.1 hw
  refine aJ f3 (SR x id sw w _ S D M h3 n3 s3 at3 rS ⟨w, hwS, UQ.refl w⟩ (by rw [← perm.length_eq]; exact hc) f3) fun v4 h4 n4 hn4 f4 ⟨e4, q, hq, hql, s4, c4⟩ => ?_
  subst e4
  simp only [fgr, gE]
  obtain ⟨hp1, hp2⟩ := pK rL hp hw
  obtain ⟨hq1, hq2⟩ := pK rS hq hwS
  have perm2 : (iV L p).Perm (iV S q) := by
    have e1 := kT hp1
    have e2 := kT hq1
    rw [hp2] at e1
    rw [hq2] at e2
    exact (List.perm_cons w).1 (e1.symm.trans (perm.trans e2))
  have e : iV L p = lI L w := by unfold lI; rw [← hp.eq]
  have ok2 : ∀ v ∈ iV L p, v.Ok ∧ v.aL.length ≤ 1000000 := fun v hv => ok v ((kT hp1).mem_iff.2 (List.mem_cons_of_mem _ hv))
  rw [e] at s4 perm2 ok2
  exact ⟨.inr ⟨w, hw, hkey, ⟨⟨_, s4, qV rS q, perm2⟩, by rw [← e]; exact qV rL p, ok2⟩⟩, ⟨((Ch2.of f2 (by omega) old2).trans c3).trans c4, fun j q => q, fun j q => .inl q⟩⟩
theorem XA {a b : Ver} (h : FH a b = 0) : gM a b = 0 := by
  unfold FH orI at h
  split at h
  · exact h
  · contradiction
def vT (v : Ver) : Bool := decide (v.made < 0) || (decide (v.cV ≠ 0) && (decide (v.cV < v.made) || decide (v.cV < 0)))
def BK (v : Ver) (L : List Ver) : Prop := vT v = true ∨ ∃ w ∈ L, gM w v = 0
theorem LG {h : Hp} {n : Nat} {D M : Nat → Prop} {x : Nat} {tv : Ver} {L S : List Ver} {p q : Nat} (hp : Pos false L tv p) (hq : Pos true S tv q) (rL : eU false L) (rS : eU true S) (perm : L.Perm S) (ok : ∀ v ∈ L, v.Ok ∧ v.aL.length ≤ 1000000) (okt : tv.Ok ∧ tv.aL.length ≤ 1000000)
    (hno : ∀ w ∈ L, gM w tv ≠ 0) (hs : IxS h n D M x (gR L p tv) (gR S q tv)) : Ix h n D M x (rF L tv) := by
  have e : gR L p tv = rF L tv := by unfold rF; rw [← hp.eq]
  have rL2 := A2 rL hp hno
  have rS2 := A2 rS hq (fun w hw he => hno w (perm.mem_iff.2 hw) (XA he))
  have pm : (gR L p tv).Perm (gR S q tv) := (uL L p tv).trans ((List.Perm.cons tv perm).trans (uL S q tv).symm)
  have ok2 : ∀ v ∈ gR L p tv, v.Ok ∧ v.aL.length ≤ 1000000 := fun v hv => by
    rcases CV.1 hv with rfl | hv
    · exact okt
    · exact ok v hv
  rw [e] at hs rL2 pm ok2
  exact ⟨⟨_, hs, rS2, pm⟩, rL2, ok2⟩
end Go.Am.Ytlgebaofkolkoaa
set_option linter.unusedSimpArgs false
set_option linter.unusedVariables false
set_option linter.defProp false
set_option maxRecDepth 10000
namespace Go.Am.Ytlgebaofkolkoaa
open Go Go.Am Go.Proofs
theorem f33 (x : Nat) (v : Ver) (sv : a9) (ov : v.Ok) (hsl : v.aL.length ≤ 1000000) (L : List Ver) (D M : Nat → Prop) (h : Hp) (n : Nat) (hs : Ix h n D M x L) (hb : Bytes h sv v.aL) (hsn : ∀ j, bB sv = some j → j < n) (hc : L.length ≤ 900000) (hf : bG h n) :
    Wp (bM env (aY env) 33 [.ptr x 0, .agg (aK v sv)]) h n fun v' h' n' => (BK v L ∧ v' = .int .i64 210 ∧ Ix h' n' D M x L ∧ Chg h n D M h' n' D M) ∨ (¬ BK v L ∧ v' = .int .i64 0 ∧ ∃ D' M', Ix h' n' D' M' x (rF L v) ∧ Chg h n D M h' n' D' M') := by
  obtain ⟨⟨S, s, rS, perm⟩, rL, ok⟩ := hs
  have s0 := s
  obtain ⟨vl, vs, xl, xs, iv, mx, ml, ms, mn⟩ := s0
  refine aZ aA3 aq1 ?_
  simp only [WG, Try.f33, Option.getD_some, List.replicate, Nat.reduceAdd, Nat.reduceSub, gE]
  refine dU (v := .agg (aK v sv)) eB rfl hf fun H1 r1 o1 f1 => ?_
  have old1 : Old h H1 n := fun j hj => o1 j (by omega)
  have s1 := s.old (n' := n + 1) (by omega) old1
  simp only [fgr, hkr, gE]
  refine dA (f73 x _ true H1 (n + 1) (iv.row.aS (old1 x iv.xn)) rfl) ?_
  simp only [tyr, fgr, aQ, gE]
  rw [aI (gV r1 ov)]
  have bad : vT v = true → (BK v L ∧ a9.int .i64 210 = a9.int .i64 210 ∧ Ix H1 (n + 1) D M x L ∧ Chg h n D M H1 (n + 1) D M) ∨ (¬ BK v L ∧ a9.int .i64 210 = a9.int .i64 0 ∧ ∃ D' M', Ix H1 (n + 1) D' M' x (rF L v) ∧ Chg h n D M H1 (n + 1) D' M') := fun e =>
    .inl ⟨.inl e, rfl, ⟨⟨S, s1, rS, perm⟩, rL, ok⟩, .of f1 (by omega) old1⟩
  by_cases c1 : v.made < 0
  · simp only [fgr, bor, aT, c1, gE]
    have := bad (by unfold vT; simp [c1])
    simpa using this
  simp only [tyr, bor, aQ, c1, gE]
  rw [aI (eP r1 ov)]
  have go : (v.cV = 0 ∨ (¬ v.cV = 0 ∧ ¬ v.cV < v.made ∧ ¬ v.cV < 0)) ∨ (¬ v.cV = 0 ∧ (v.cV < v.made ∨ (¬ v.cV < v.made ∧ v.cV < 0))) := by omega
  rcases go with (c2 | ⟨c2, c3, c4⟩) | ⟨c2, c3 | ⟨c3, c4⟩⟩
  rotate_left 2
  · simp only [tyr, bor, aQ, c2, gE]
    rw [aI (eP r1 ov)]
    simp only [tyr, aQ, gE]
    rw [aI (gV r1 ov)]
    simp only [fgr, bor, aT, c3, gE]
    have := bad (by unfold vT; simp [c2, c3])
    simpa using this
  · simp only [tyr, bor, aQ, c2, gE]
    rw [aI (eP r1 ov)]
    simp only [tyr, aQ, gE]
    rw [aI (gV r1 ov)]
    simp only [tyr, bor, aQ, c3, gE]
    rw [aI (eP r1 ov)]
    simp only [fgr, bor, aT, c4, gE]
    have := bad (by unfold vT; simp [c2, c4])
    simpa using this
  all_goals
    have ne : vT v = false := by
      unfold vT
      first | (simp [c1, c2, c3, c4]; done) | (simp [c1, c2]; done)
    first
      | (simp only [tyr, bor, aT, aQ, c2, gE]
         rw [aI (jN r1 ov)])
      | (simp only [tyr, bor, aQ, c2, gE]
         rw [aI (eP r1 ov)]
         simp only [tyr, aQ, gE]
         rw [aI (gV r1 ov)]
         simp only [tyr, bor, aQ, c3, gE]
         rw [aI (eP r1 ov)]
         simp only [tyr, bor, aT, aQ, c4, gE]
         rw [aI (jN r1 ov)])
    simp only [tyr, aQ, gE]
    rw [aI (gV r1 ov)]
    simp only [hkr, gE]
    refine aJ f1 (f76 x v.aO v.pn v.made ov.h L S D M H1 (n + 1) s1 rL (by omega) f1) fun v2 h2 n2 hn2 f2 ⟨hh, o2⟩ => ?_
    have old2 : Old h h2 n := fun j hj => by rw [o2 j (by omega), old1 j hj]
    have s2 := s1.old hn2 o2
    rcases hh with ⟨hno, e2⟩ | ⟨id, sw, w, hw, hkey, e2, a, d1, d2⟩
    rotate_left
    · subst e2
      simp only [tyr, fgr, bor, aR, dE, aT, aU, equal, cL, bT, bU, gE]
      exact .inl ⟨.inr ⟨w, hw, hkey⟩, ⟨⟨S, s2, rS, perm⟩, rL, ok⟩, .of f2 (by omega) old2⟩
    subst e2
    simp only [tyr, fgr, bor, aR, dE, aT, aU, equal, cL, bT, bU, gE]
    have r2 := r1.aS (o2 n (by omega))
    rw [aI (fI r2 ov)]
    simp only [hkr, gE]
    refine aJ f2 (f77 v sv ov h2 n2 (hb.aS fun j q => old2 j (hsn j q)) (fun j q => by have := hsn j q; omega) hsl f2) fun v3 h3 n3 hn3 f3 ⟨s', e3, b3, i3, o3⟩ => ?_
    subst e3
    simp only [gE]
    rw [cD eB rfl]
    simp only [cel, gE]
    refine dM (v := .agg (aK v s')) eB rfl (bD ov.h ov.b) (cS b3.kind.2.1) f3 fun H4 r4 o4 f4 => ?_
    have old4 : Old h2 H4 n2 := fun j hj => by rw [o4 j (by omega), o3 j hj]
    have s4 := s2.old (n' := n3 + 1) (by omega) old4
    have at4 : AtN H4 (n3 + 1) n3 s' v := ⟨⟨r4, b3.aS fun j q => o4 j (by have := i3 j q; omega), ov⟩, by omega, fun j q => by have := i3 j q; omega⟩
    simp only [tyr, fgr, hkr, aQ, gE]
    refine aJ f4 (YT x n3 s' v L S D M H4 (n3 + 1) s4 at4 (fun q => by have := (mn _ q).1; omega) (fun j q w => by have := (mn _ w).1; have := i3 j q; omega) rL (by omega) f4) fun v5 h5 n5 hn5 f5 ⟨e5, p, M5, hp, s5, c5⟩ => ?_
    subst e5
    simp only [tyr, fgr, hkr, aQ, gE]
    have nm5 : ∀ j, n2 ≤ j → j < n3 + 1 → ¬ M5 j := fun j q1 q2 w => by
      rcases c5.m' j w with w | w
      · have := (mn _ w).1; omega
      · omega
    have at5 : AtN h5 n5 n3 s' v := ⟨at4.toAt.aS (c5.old n3 (by omega) (fun q => by have := (mn _ q).1; omega)) (fun j q => c5.old j (at4.sn j q) (fun w => by have := (mn _ w).1; have := i3 j q; omega)), by omega, fun j q => by have := at4.sn j q; omega⟩
    refine aJ f5 (YS x n3 s' v _ S _ M5 h5 n5 s5 at5 (nm5 n3 (by omega) (by omega)) (fun j q => nm5 j (i3 j q).1 (by have := i3 j q; omega)) rS (by rw [← perm.length_eq]; omega) f5) fun v6 h6 n6 hn6 f6 ⟨e6, q, M6, hq, s6, c6⟩ => ?_
    subst e6
    simp only [fgr, gE]
    have nP : ¬ BK v L := fun w => by
      rcases w with w | ⟨w, hw, he⟩
      · rw [ne] at w; cases w
      · exact hno w hw he
    have o04 : Old h H4 n := fun j hj => by rw [old4 j (by omega), old2 j hj]
    refine .inr ⟨nP, _, _, LG hp hq rL rS perm ok ⟨ov, hsl⟩ hno s6, ((Ch2.of f4 (by omega) o04).trans c5).trans c6, fun j w => .inl (.inl w), fun j w => ?_⟩
    rcases w with (w | w | w) | w | w
    · exact .inl w
    · subst w; exact .inr (by omega)
    · exact .inr (by have := i3 j w; omega)
    · subst w; exact .inr (by omega)
    · exact .inr (by have := i3 j w; omega)
theorem BN {L : List Ver} {p : Nat} {w : Ver} (h : w ∈ iV L p) : w ∈ L := by
  unfold iV at h
  rcases List.mem_append.1 h with h | h
  · exact List.mem_of_mem_take h
  · exact List.mem_of_mem_drop h
theorem X7 {o : Bool} {L : List Ver} {p : Nat} {w t : Ver} (r : eU o L) (hp : Pos o L w p) (hw : w ∈ L) (he : iP o w t = 0) : ∀ a ∈ iV L p, iP o a t ≠ 0 := by
  intro a ha h0
  obtain ⟨hp1, hp2⟩ := pK r hp hw
  have haw : iP o a w = 0 := by
    have := (AZ o).eqr (d := a) he
    omega
  have e : a = w := mB r (BN ha) hw haw
  subst e
  have pm := kT hp1
  rw [hp2] at pm
  have nd : L.Nodup := by
    refine List.Pairwise.imp ?_ r
    intro a b hab e
    subst e
    have := (AZ o).refl a
    omega
  have := pm.nodup_iff.1 nd
  exact (List.nodup_cons.1 this).1 ha
theorem f80 (x id : Nat) (sw : a9) (w v : Ver) (L : List Ver) (D M : Nat → Prop) (h : Hp) (n : Nat) (hs : Ix h n D M x L) (hw : w ∈ L) (a : At h id sw w) (d1 : D id) (d2 : ∀ j, bB sw = some j → D j) (hv : gM w v = 0) (hvs : v.aL = w.aL) (ov : v.Ok) (hc : L.length ≤ 900000) (hf : bG h n) :
    Wp (bM env (aY env) 80 [.ptr x 0, .ptr id 0, .agg (aK v sw)]) h n fun v' h' n' => v' = .tup [] ∧ ∃ D' M', Ix h' n' D' M' x (rF (lI L w) v) ∧ Chg h n D M h' n' D' M' := by
  obtain ⟨⟨S, s, rS, perm⟩, rL, ok⟩ := hs
  have s0 := s
  obtain ⟨vl, vs, xl, xs, iv, mx, ml, ms, mn⟩ := s0
  refine aZ ax8 an1 ?_
  simp only [VQ, Try.f80, Option.getD_some, List.replicate, Nat.reduceAdd, Nat.reduceSub, gE]
  refine dU (v := .agg (aK v sw)) eB rfl hf fun H1 r1 o1 f1 => ?_
  have old1 : Old h H1 n := fun j hj => o1 j (by omega)
  have s1 := s.old (n' := n + 1) (by omega) old1
  have hdm : ∀ j, D j → ¬ M j := fun j q w => (mn j w).2 q
  have a1 : AtN H1 (n + 1) id sw w := ⟨a.aS (old1 id (iv.dn id d1)) (fun j q => old1 j (iv.dn j (d2 j q))), by have := iv.dn id d1; omega, fun j q => by have := iv.dn j (d2 j q); omega⟩
  have b1 : AtN H1 (n + 1) n sw v := ⟨⟨r1, by rw [hvs]; exact a1.s, ov⟩, by omega, a1.sn⟩
  simp only [tyr, fgr, hkr, aQ, gE]
  refine aJ f1 (SS x id sw w L S D M H1 (n + 1) s1 a1 rL ⟨w, hw, uG.refl w⟩ (by omega) f1) fun v3 h3 n3 hn3 f3 ⟨e3, p, hp, hpl, s3, c3⟩ => ?_
  subst e3
  simp only [tyr, fgr, hkr, aQ, gE]
  have nM : ¬ M n := fun q => by have := (mn n q).1; omega
  have a3 : AtN h3 n3 id sw w := ⟨a1.toAt.aS (c3.old id a1.idn (hdm id d1)) (fun j q => c3.old j (a1.sn j q) (hdm j (d2 j q))), by have := a1.idn; omega, fun j q => by have := a1.sn j q; omega⟩
  have b3 : AtN h3 n3 n sw v := ⟨b1.toAt.aS (c3.old n (by omega) nM) (fun j q => c3.old j (a1.sn j q) (hdm j (d2 j q))), by omega, a3.sn⟩
  have hwS : w ∈ S := perm.mem_iff.1 hw
  refine aJ f3 (SR x id sw w _ S D M h3 n3 s3 a3 rS ⟨w, hwS, UQ.refl w⟩ (by rw [← perm.length_eq]; omega) f3) fun v4 h4 n4 hn4 f4 ⟨e4, q, hq, hql, s4, c4⟩ => ?_
  subst e4
  simp only [tyr, fgr, hkr, aQ, gE]
  have b4 : AtN h4 n4 n sw v := ⟨b3.toAt.aS (c4.old n (by omega) nM) (fun j q => c4.old j (a3.sn j q) (hdm j (d2 j q))), by omega, fun j q => by have := a3.sn j q; omega⟩
  obtain ⟨hp1, hp2⟩ := pK rL hp hw
  obtain ⟨hq1, hq2⟩ := pK rS hq hwS
  have perm2 : (iV L p).Perm (iV S q) := by
    have e1 := kT hp1
    have e2 := kT hq1
    rw [hp2] at e1
    rw [hq2] at e2
    exact (List.perm_cons w).1 (e1.symm.trans (perm.trans e2))
  have e : iV L p = lI L w := by unfold lI; rw [← hp.eq]
  have ok2 : ∀ v ∈ iV L p, v.Ok ∧ v.aL.length ≤ 1000000 := fun v hv => ok v (BN hv)
  have hno : ∀ a ∈ iV L p, gM a v ≠ 0 := X7 rL hp hw hv
  have rL2 := qV rL p
  have rS2 := qV rS q
  have hl2 : (iV L p).length ≤ 900000 := by have := pZ hp1; omega
  refine aJ f4 (YT x n sw v _ _ D M h4 n4 s4 b4 nM (fun j q => hdm j (d2 j q)) rL2 (by omega) f4) fun v5 h5 n5 hn5 f5 ⟨e5, p5, M5, hp5, s5, c5⟩ => ?_
  subst e5
  simp only [tyr, fgr, hkr, aQ, gE]
  have nm5 : ∀ j, j < n4 → ¬ M j → ¬ M5 j := fun j q1 q2 w => by
    rcases c5.m' j w with w | w
    · exact q2 w
    · omega
  have b5 : AtN h5 n5 n sw v := ⟨b4.toAt.aS (c5.old n (by omega) nM) (fun j q => c5.old j (b4.sn j q) (hdm j (d2 j q))), by omega, fun j q => by have := b4.sn j q; omega⟩
  refine aJ f5 (YS x n sw v _ _ _ M5 h5 n5 s5 b5 (nm5 n (by omega) nM) (fun j q => nm5 j (b4.sn j q) (hdm j (d2 j q))) rS2 (by rw [← perm2.length_eq]; omega) f5) fun v6 h6 n6 hn6 f6 ⟨e6, q6, M6, hq6, s6, c6⟩ => ?_
  subst e6
  simp only [bP, fgr, bX, put, aE, true_and]
  have fin := LG hp5 hq6 rL2 rS2 perm2 ok2 ⟨ov, by rw [hvs]; exact (ok w hw).2⟩ hno s6
  rw [e] at fin
  refine ⟨_, _, fin, ((((Ch2.of f1 (by omega) old1).trans c3).trans c4).trans c5).trans c6, fun j w => .inl (.inl w), fun j w => ?_⟩
  rcases w with (w | w | w) | w | w
  · exact .inl w
  · subst w; exact .inr (by omega)
  · exact .inl (d2 j w)
  · subst w; exact .inr (by omega)
  · exact .inl (d2 j w)
theorem rU {pre mid post vs : List a9} {off : Nat} (h1 : pre.length = off) (h2 : mid.length = vs.length) : cH (pre ++ (mid ++ post)) off vs = pre ++ (vs ++ post) := by
  have e : (pre ++ (mid ++ post)).drop (off + vs.length) = post := by rw [← List.append_assoc, List.drop_left' (by rw [List.length_append]; omega)]
  unfold cH
  rw [List.take_left' h1, e]
theorem nC {w : Ver} {sv : a9} (h : w.aO.length = 32) (s : Int) : cH (aK w sv) 37 [.int .i64 s] = aK { w with cV := s } sv := by
  have e : aK w sv = (aX w.aO w.pn ++ [.int .i64 w.made, .int .i64 w.value, sv, .bool w.eQ]) ++ ([.int .i64 w.cV] ++ w.by_.map u8) := by simp [aK, nG]
  rw [e, rU (mid := [.int .i64 w.cV]) (vs := [.int .i64 s]) (by rw [List.length_append, c9 h]; rfl) rfl]
  simp [aK, nG]
theorem rR {w : Ver} {sv : a9} (h : w.aO.length = 32) (h2 : w.by_.length = 32) (b : List UInt8) (hb : b.length = 32) : cH (aK w sv) 38 (b.map u8) = aK { w with by_ := b } sv := by
  have e : aK w sv = (aX w.aO w.pn ++ [.int .i64 w.made, .int .i64 w.value, sv, .bool w.eQ, .int .i64 w.cV]) ++ (w.by_.map u8 ++ []) := by simp [aK, nG]
  rw [e, rU (by rw [List.length_append, c9 h]; rfl) (by simp [h2, hb])]
  simp [aK, nG]
def iU (w : Ver) (s : Int) (b : List UInt8) : Ver := { w with cV := s, by_ := b }
theorem f36 (x : Nat) (aO : List UInt8) (pn made s : Int) (b : List UInt8) (hl : aO.length = 32) (hbl : b.length = 32) (L : List Ver) (D M : Nat → Prop) (h : Hp) (n : Nat) (hs : Ix h n D M x L) (hc : L.length ≤ 900000) (hf : bG h n) :
    Wp (bM env (aY env) 36 [.ptr x 0, .agg (aX aO pn), .int .i64 made, .int .i64 s, .agg (b.map u8)]) h n fun v' h' n' =>
      ((∀ w ∈ L, gM w (key aO pn made) = 0 → (w.cV ≠ 0 ∨ s < 1 ∨ s < made)) ∧ v' = .int .i64 210 ∧ Ix h' n' D M x L ∧ Chg h n D M h' n' D M) ∨
      (∃ w ∈ L, gM w (key aO pn made) = 0 ∧ w.cV = 0 ∧ 1 ≤ s ∧ made ≤ s ∧ v' = .int .i64 0 ∧ ∃ D' M', Ix h' n' D' M' x (rF (lI L w) (iU w s b)) ∧ Chg h n D M h' n' D' M') := by
  have hs0 := hs
  obtain ⟨⟨S, s0, rS, perm⟩, rL, ok⟩ := hs
  have s00 := s0
  obtain ⟨vl, vs, xl, xs, iv, mx, ml, ms, mn⟩ := s00
  refine aZ aA1 ap5 ?_
  simp only [WD, Try.f36, Option.getD_some, List.replicate, Nat.reduceAdd, Nat.reduceSub, gE]
  refine dU (v := .agg (aX aO pn)) j7 rfl hf fun H1 r1 o1 f1 => ?_
  simp only [gE]
  refine dU (v := .agg (b.map u8)) kH rfl f1 fun H2 r2 o2 f2 => ?_
  have old2 : Old h H2 n := fun j hj => by rw [o2 j (by omega), o1 j (by omega)]
  have r1 := r1.aS (o2 n (by omega))
  simp only [fgr, hkr, gE]
  refine dA (f73 x _ true H2 (n + 1 + 1) (iv.row.aS (old2 x iv.xn)) rfl) ?_
  simp only [fgr, gE]
  have hld : Rd (load env 28 (.ptr n 0)) H2 (n + 1 + 1) [n] (.agg (aX aO pn)) := Row.gT r1 j7 rfl (c9 hl)
  rw [aI hld]
  simp only [hkr, gE]
  have s2 := s0.old (n' := n + 1 + 1) (by omega) old2
  refine aJ f2 (f76 x aO pn made hl L S D M H2 _ s2 rL (by omega) f2) fun v3 h3 n3 hn3 f3 ⟨hh, o3⟩ => ?_
  have old3 : Old h h3 n := fun j hj => by rw [o3 j (by omega), old2 j hj]
  have ix3 : Ix h3 n3 D M x L := hs0.old (by omega) old3
  rcases hh with ⟨hno, e2⟩ | ⟨id, sw, w, hw, hkey, e2, a, d1, d2⟩
  · subst e2
    simp only [tyr, fgr, bor, aR, dE, aT, aU, equal, cL, bT, bU, gE]
    exact .inl ⟨fun w hw he => absurd he (hno w hw), ix3, .of f3 (by omega) old3⟩
  subst e2
  have uq : ∀ u ∈ L, gM u (key aO pn made) = 0 → u = w := fun u hu he => mB rL hu hw (by
    have := uG.eqr (d := u) hkey
    show gM u w = 0
    omega)
  have okw := ok w hw
  by_cases c1 : w.cV = 0
  rotate_left
  · simp only [tyr, fgr, bor, aR, dE, aQ, aU, equal, cL, bT, bU, gE]
    rw [aI (eP a.row okw.1)]
    simp only [fgr, bor, aT, c1, gE]
    exact .inl ⟨fun u hu he => by rw [uq u hu he]; exact .inl c1, ix3, .of f3 (by omega) old3⟩
  by_cases c2 : s < 1
  · simp only [tyr, fgr, bor, aR, dE, aQ, aU, equal, cL, bT, bU, gE]
    rw [aI (eP a.row okw.1)]
    simp only [fgr, bor, aT, c1, c2, gE]
    exact .inl ⟨fun u hu he => by simp, ix3, .of f3 (by omega) old3⟩
  by_cases c3 : s < made
  · simp only [tyr, fgr, bor, aR, dE, aQ, aU, equal, cL, bT, bU, gE]
    rw [aI (eP a.row okw.1)]
    simp only [fgr, bor, aT, c1, c2, c3, gE]
    exact .inl ⟨fun u hu he => by simp, ix3, .of f3 (by omega) old3⟩
  simp only [tyr, fgr, bor, aR, dE, aQ, aU, equal, cL, bT, bU, gE]
  rw [aI (eP a.row okw.1)]
  simp only [fgr, bor, aT, c1, c2, c3, gE]
  rw [aI (fI a.row okw.1)]
  simp only [gE]
  rw [cD eB rfl]
  simp only [cel, gE]
  refine dM (v := .agg (aK w sw)) eB rfl (bD okw.1.h okw.1.b) (cS a.s.kind.2.1) f3 fun H4 r4 o4 f4 => ?_
  have r2 : Row H4 (n + 1) (b.map u8) := (r2.aS (o3 (n + 1) (by omega))).aS (o4 (n + 1) (by omega))
  obtain ⟨e4, r4⟩ := r4
  simp only [bP, fgr, bX, aE]
  refine cP ⟨rfl, ?_⟩
  simp only [gE]
  have hld2 : Rd (load env 25 (.ptr (n + 1) 0)) H4 (n3 + 1) [n + 1] (.agg (b.map u8)) := Row.gT r2 kH rfl (by simp [hbl])
  rw [bJ hld2]
  simp only [tyr, aQ, Nat.reduceAdd, gE]
  refine jZ (Row.eZ (v := .int .i64 s) r4 ti3 rfl (by show 37 + 1 ≤ (aK w sw).length; rw [bD okw.1.h okw.1.b]; decide) rfl) ?_
  simp only [tyr, cel, aQ, Nat.reduceAdd, gE]
  have w1 : cH (aK w sw) 37 [a9.int .i64 s] = aK { w with cV := s } sw := nC okw.1.h s
  rw [w1]
  refine jZ (Row.eZ (v := .agg (b.map u8)) (aP _ _ _) kH (by simp [a9.cells, hbl]) (by show 38 + 32 ≤ _; rw [bD (v := { w with cV := s }) okw.1.h okw.1.b]; decide) (wP b)) ?_
  have w2 : cH (aK { w with cV := s } sw) 38 (a9.agg (b.map u8)).cells = aK (iU w s b) sw := rR (w := { w with cV := s }) okw.1.h okw.1.b b hbl
  rw [w2]
  simp only [fgr, Nat.reduceAdd, gE]
  refine ⟨(by (try simp (disch := omega) only [dW, gF]); repeat' (first | rfl | exact (Bool.or_eq_true _ _).mpr (.inr rfl) | refine (Bool.and_eq_true _ _).mpr ⟨?_, ?_⟩)), ?_⟩
  have f5 : bG (upd (upd H4 n3 (some (Blk.row (bK.l (aK { w with cV := s } sw)) e4))) n3 (some (Blk.row (bK.l (aK (iU w s b) sw)) e4))) (n3 + 1) := (f4.upd (by omega)).upd (by omega)
  obtain ⟨H5, hH5⟩ : ∃ H5, H5 = upd (upd H4 n3 (some (Blk.row (bK.l (aK { w with cV := s } sw)) e4))) n3 (some (Blk.row (bK.l (aK (iU w s b) sw)) e4)) := ⟨_, rfl⟩
  have o5 : ∀ j, j ≠ n3 → H5 j = h3 j := fun j hj => by rw [hH5, aG _ _ hj, aG _ _ hj, o4 j hj]
  have r5 : Row H5 n3 (aK (iU w s b) sw) := by rw [hH5]; exact Row.new _ _ _ _
  rw [← hH5] at f5
  rw [← hH5]
  clear hH5
  have ov5 : (iU w s b).Ok := ⟨okw.1.h, hbl⟩
  rw [aI (fI r5 ov5)]
  simp only [hkr, gE]
  have old5 : Old h H5 n := fun j hj => by rw [o5 j (by omega), old3 j hj]
  have ix5 : Ix H5 (n3 + 1) D M x L := hs0.old (by omega) old5
  have a5 : At H5 id sw w := a.aS (o5 id (by have := iv.dn id d1; omega)) (fun j q => o5 j (by have := iv.dn j (d2 j q); omega))
  refine aJ f5 (f80 x id sw w (iU w s b) L D M H5 (n3 + 1) ix5 hw a5 d1 d2 (uG.refl w) rfl ov5 hc f5) fun v6 h6 n6 hn6 f6 ⟨e6, D', M', ix6, c6⟩ => ?_
  subst e6
  simp only [fgr, gE]
  exact .inr ⟨w, hw, hkey, c1, by omega, by omega, D', M', ix6, (Chg.of f5 (by omega) old5).trans c6⟩
def z32 : List UInt8 := List.replicate 32 0
theorem b25 : build env 25 [] = M.pure (.agg (z32.map u8)) := rfl
theorem f38 (x : Nat) (aO : List UInt8) (pn made : Int) (hl : aO.length = 32) (L : List Ver) (D M : Nat → Prop) (h : Hp) (n : Nat) (hs : Ix h n D M x L) (hc : L.length ≤ 900000) (hf : bG h n) :
    Wp (bM env (aY env) 38 [.ptr x 0, .agg (aX aO pn), .int .i64 made]) h n fun v' h' n' =>
      ((∀ w ∈ L, gM w (key aO pn made) = 0 → w.cV = 0) ∧ v' = .int .i64 210 ∧ Ix h' n' D M x L ∧ Chg h n D M h' n' D M) ∨
      (∃ w ∈ L, gM w (key aO pn made) = 0 ∧ w.cV ≠ 0 ∧ v' = .int .i64 0 ∧ ∃ D' M', Ix h' n' D' M' x (rF (lI L w) (iU w 0 z32)) ∧ Chg h n D M h' n' D' M') := by
  have hs0 := hs
  obtain ⟨⟨S, s0, rS, perm⟩, rL, ok⟩ := hs
  have s00 := s0
  obtain ⟨vl, vs, xl, xs, iv, mx, ml, ms, mn⟩ := s00
  refine aZ az9 ap3 ?_
  simp only [WB, Try.f38, Option.getD_some, List.replicate, Nat.reduceAdd, Nat.reduceSub, gE]
  refine dU (v := .agg (aX aO pn)) j7 rfl hf fun H2 r1 o1 f2 => ?_
  have old2 : Old h H2 n := fun j hj => by rw [o1 j (by omega)]
  simp only [fgr, hkr, gE]
  refine dA (f73 x _ true H2 (n + 1) (iv.row.aS (old2 x iv.xn)) rfl) ?_
  simp only [fgr, gE]
  have hld : Rd (load env 28 (.ptr n 0)) H2 (n + 1) [n] (.agg (aX aO pn)) := Row.gT r1 j7 rfl (c9 hl)
  rw [aI hld]
  simp only [hkr, gE]
  have s2 := s0.old (n' := n + 1) (by omega) old2
  refine aJ f2 (f76 x aO pn made hl L S D M H2 _ s2 rL (by omega) f2) fun v3 h3 n3 hn3 f3 ⟨hh, o3⟩ => ?_
  have old3 : Old h h3 n := fun j hj => by rw [o3 j (by omega), old2 j hj]
  have ix3 : Ix h3 n3 D M x L := hs0.old (by omega) old3
  rcases hh with ⟨hno, e2⟩ | ⟨id, sw, w, hw, hkey, e2, a, d1, d2⟩
  · subst e2
    simp only [tyr, fgr, bor, aR, dE, aT, aU, equal, cL, bT, bU, gE]
    exact .inl ⟨fun w hw he => absurd he (hno w hw), ix3, .of f3 (by omega) old3⟩
  subst e2
  have uq : ∀ u ∈ L, gM u (key aO pn made) = 0 → u = w := fun u hu he => mB rL hu hw (by
    have := uG.eqr (d := u) hkey
    show gM u w = 0
    omega)
  have okw := ok w hw
  by_cases c1 : w.cV = 0
  · simp only [tyr, fgr, bor, aR, dE, aQ, aU, equal, cL, bT, bU, gE]
    rw [aI (eP a.row okw.1)]
    simp only [fgr, bor, aT, c1, gE]
    exact .inl ⟨fun u hu he => by rw [uq u hu he]; exact c1, ix3, .of f3 (by omega) old3⟩
  simp only [tyr, fgr, bor, aR, dE, aQ, aU, equal, cL, bT, bU, gE]
  rw [aI (eP a.row okw.1)]
  simp only [fgr, bor, aT, c1, gE]
  rw [aI (fI a.row okw.1)]
  simp only [gE]
  rw [cD eB rfl]
  simp only [cel, gE]
  refine dM (v := .agg (aK w sw)) eB rfl (bD okw.1.h okw.1.b) (cS a.s.kind.2.1) f3 fun H4 r4 o4 f4 => ?_
  obtain ⟨e4, r4⟩ := r4
  simp only [tyr, fgr, aQ, b25, gE]
  rw [eS (Row.eZ (v := .int .i64 0) r4 ti3 rfl (by show 37 + 1 ≤ (aK w sw).length; rw [bD okw.1.h okw.1.b]; decide) rfl)]
  simp only [tyr, cel, aQ, gE]
  have w1 : cH (aK w sw) 37 [a9.int .i64 0] = aK { w with cV := 0 } sw := nC okw.1.h 0
  rw [w1]
  rw [eS (Row.eZ (v := .agg (z32.map u8)) (aP _ _ _) kH rfl (by show 38 + 32 ≤ _; rw [bD (v := { w with cV := 0 }) okw.1.h okw.1.b]; decide) (wP z32))]
  have w2 : cH (aK { w with cV := 0 } sw) 38 (a9.agg (z32.map u8)).cells = aK (iU w 0 z32) sw := rR (w := { w with cV := 0 }) okw.1.h okw.1.b z32 rfl
  rw [w2]
  simp only [fgr, gE]
  have f5 : bG (upd (upd H4 n3 (some (Blk.row (bK.l (aK { w with cV := 0 } sw)) e4))) n3 (some (Blk.row (bK.l (aK (iU w 0 z32) sw)) e4))) (n3 + 1) := (f4.upd (by omega)).upd (by omega)
  obtain ⟨H5, hH5⟩ : ∃ H5, H5 = upd (upd H4 n3 (some (Blk.row (bK.l (aK { w with cV := 0 } sw)) e4))) n3 (some (Blk.row (bK.l (aK (iU w 0 z32) sw)) e4)) := ⟨_, rfl⟩
  have o5 : ∀ j, j ≠ n3 → H5 j = h3 j := fun j hj => by rw [hH5, aG _ _ hj, aG _ _ hj, o4 j hj]
  have r5 : Row H5 n3 (aK (iU w 0 z32) sw) := by rw [hH5]; exact Row.new _ _ _ _
  rw [← hH5] at f5
  rw [← hH5]
  clear hH5
  have ov5 : (iU w 0 z32).Ok := ⟨okw.1.h, rfl⟩
  rw [aI (fI r5 ov5)]
  simp only [hkr, gE]
  have old5 : Old h H5 n := fun j hj => by rw [o5 j (by omega), old3 j hj]
  have ix5 : Ix H5 (n3 + 1) D M x L := hs0.old (by omega) old5
  have a5 : At H5 id sw w := a.aS (o5 id (by have := iv.dn id d1; omega)) (fun j q => o5 j (by have := iv.dn j (d2 j q); omega))
  refine aJ f5 (f80 x id sw w (iU w 0 z32) L D M H5 (n3 + 1) ix5 hw a5 d1 d2 (uG.refl w) rfl ov5 hc f5) fun v6 h6 n6 hn6 f6 ⟨e6, D', M', ix6, c6⟩ => ?_
  subst e6
  simp only [fgr, gE]
  exact .inr ⟨w, hw, hkey, c1, D', M', ix6, (Chg.of f5 (by omega) old5).trans c6⟩
structure Vs (h : Hp) (D : Nat → Prop) (cells : List a9) (vs : List Ver) : Prop where
  len : cells.length = vs.length * 70
  at_ : ∀ (j : Nat) (hj : j < vs.length), ∃ sv, (cells.drop (j * 70)).take 70 = aK vs[j] sv ∧ Bytes h sv vs[j].aL ∧ vs[j].Ok ∧ ∀ i, bB sv = some i → D i
theorem Vs.nil (h : Hp) (D : Nat → Prop) : Vs h D [] [] := ⟨rfl, fun j hj => by simp at hj⟩
theorem Vs.mono {h h' : Hp} {D D' : Nat → Prop} {cells : List a9} {vs : List Ver} (p : Vs h D cells vs) (hd : ∀ j, D j → D' j) (hk : ∀ j, D j → h' j = h j) : Vs h' D' cells vs :=
  ⟨p.len, fun j hj => by
    obtain ⟨sv, e, b, o, d⟩ := p.at_ j hj
    exact ⟨sv, e, b.aS (fun i hi => hk i (d i hi)), o, fun i hi => hd i (d i hi)⟩⟩
theorem Vs.vN {h : Hp} {D : Nat → Prop} {cells : List a9} {vs : List Ver} (p : Vs h D cells vs) {v : Ver} {sv : a9} (hb : Bytes h sv v.aL) (ho : v.Ok) (hd : ∀ i, bB sv = some i → D i) : Vs h D (cells ++ aK v sv) (vs ++ [v]) := by
  have hl := p.len
  have hv := bD (sv := sv) ho.h ho.b
  refine ⟨by simp [hl, hv]; omega, fun j hj => ?_⟩
  by_cases c : j < vs.length
  · obtain ⟨s2, e, b, o, d⟩ := p.at_ j c
    refine ⟨s2, ?_, ?_, ?_, d⟩
    · rw [List.drop_append_of_le_length (by omega), List.take_append_of_le_length (by rw [List.length_drop]; omega), e, List.getElem_append_left c]
    · rw [List.getElem_append_left c]; exact b
    · rw [List.getElem_append_left c]; exact o
  · have e : j = vs.length := by simp at hj; omega
    subst e
    refine ⟨sv, ?_, ?_, ?_, hd⟩
    · rw [← hl, List.drop_left, List.take_of_length_le (by omega)]; simp
    · simpa using hb
    · simpa using ho
theorem u43 : und env 43 = M.pure (.slice 31) := rfl
theorem aj0 : sizeOf env 31 = M.pure 70 := rfl
theorem DY {X : List a9} (hX : X.length = 70) : buildSlice env 43 1 [(0, .agg X)] = (newRow env 31 X).bind fun id => M.pure (.sl id 0 1 (some 1) 70) := by
  have e1 : fill (fun k => some (k * 70, 70)) (fS fX.i.zero.cells 1) [(0, .agg X)] = some X := by
    have : fS fX.i.zero.cells 1 = [] ++ fX.i.zero.cells ++ [] := rfl
    rw [this, iK (off := 0) (sz := 70) (pre := []) (mid := fX.i.zero.cells) (post := []) (v := .agg X) (bH := []) rfl rfl rfl hX rfl]
    simp [fill, a9.cells]
  have e2 : buildSlice env 43 1 [(0, .agg X)] = (dG "buildSlice" (fill (fun k => some (k * 70, 70)) (fS fX.i.zero.cells 1) [(0, .agg X)])).bind fun cs => (newRow env 31 cs).bind fun id => M.pure (.sl id 0 1 (some 1) 70) := rfl
  rw [e2, e1]
  rfl
def IsF (F : a9) (is : Ver → Bool) (h0 : Hp) (n0 : Nat) : Prop := ∀ (h : Hp) (n id : Nat) (sv : a9) (v : Ver), n0 ≤ n → Old h0 h n0 → AtN h n id sv v → bG h n → Wp (kG env (aY env) F [.ptr id 0]) h n fun v' h' n' => v' = .bool (is v) ∧ Old h h' n
theorem UY (Q : fC) (ks : List Kf) (F : a9) (is : Ver → Bool) (v : a9) (cnt : Nat) (xs : List a9) (vs : List Ver) (D : Nat → Prop) (h0 : Hp) (n0 : Nat) (hF : IsF F is h0 n0) (hc : cnt ≤ 1000000) (hv : Rds h0 1 v cnt xs) (hvn : ∀ j, bB v = some j → j < n0) (hp : Ps h0 D xs vs) (hD : ∀ j, D j → j < n0) (hsl : ∀ v ∈ vs, v.aL.length ≤ 1000000)
    (hT : ∀ (h : Hp) (n : Nat) (acc : a9) (cells : List a9) (x4 x7 x11 x16 : a9), Lst h 31 70 acc (vs.filter is).length cells → Vs h (fun j => n0 ≤ j ∧ j < n ∧ bB acc ≠ some j) cells (vs.filter is) → (∀ j, bB acc = some j → n0 ≤ j) → n0 ≤ n → bG h n → Old h0 h n0 →
      eR env 74 none Q ks (.exit 0) (v :: F :: a9.aA :: a9.aA :: x4 :: acc :: a9.aA :: x7 :: v :: .int .i64 (cnt : Nat) :: .int .i64 (cnt : Nat) :: x11 :: a9.aA :: a9.aA :: a9.aA :: a9.aA :: x16 :: a9.aA :: a9.aA :: a9.aA :: a9.aA :: a9.aA :: a9.aA :: a9.aA :: a9.aA :: a9.aA :: []) h n) :
    ∀ (m i : Nat) (h : Hp) (n : Nat) (acc : a9) (cells : List a9) (x4 x7 x11 x16 : a9), i + m = cnt → Lst h 31 70 acc ((vs.take i).filter is).length cells → Vs h (fun j => n0 ≤ j ∧ j < n ∧ bB acc ≠ some j) cells ((vs.take i).filter is) → (∀ j, bB acc = some j → n0 ≤ j) → n0 ≤ n → bG h n → Old h0 h n0 →
      Run env 74 none Q (.loop EK) ks (v :: F :: a9.aA :: a9.aA :: x4 :: acc :: a9.aA :: x7 :: v :: .int .i64 (cnt : Nat) :: .int .i64 (i : Nat) :: x11 :: a9.aA :: a9.aA :: a9.aA :: a9.aA :: x16 :: a9.aA :: a9.aA :: a9.aA :: a9.aA :: a9.aA :: a9.aA :: a9.aA :: a9.aA :: a9.aA :: []) h n := by
  have hcl : cnt = vs.length := by have := hv.length; have := hp.len; omega
  intro m
  induction m with
  | zero =>
    intro i h n acc cells x4 x7 x11 x16 hm ha hV hi hn hf ho
    have : i = cnt := by omega
    subst this
    rw [cY]
    have hcc : ¬ (((i : Nat) : Int) < ((i : Nat) : Int)) := by omega
    simp only [EK, c8, Try.f74, Option.getD_some, fgr, bor, List.getD_cons_zero, hcc, gE]
    rw [hcl, List.take_length] at ha hV
    exact hT h n acc cells _ _ _ _ ha hV hi hn hf ho
  | succ m ih =>
    intro i h n acc cells x4 x7 x11 x16 hm ha hV hi hn hf ho
    rw [cY]
    have hil : i < cnt := by omega
    have hcc : (((i : Nat) : Int) < ((cnt : Nat) : Int)) := by omega
    have hv' := hv.aS (h' := h) (fun j hj => ho j (hvn j hj))
    have hp' := hp.mono (D' := D) (fun _ q => q) (fun j hj => ho j (hD j hj))
    obtain ⟨id, sv, hx, a, d1, d2⟩ := hp'.get (j := i) (by omega)
    have hidx := hv'.idx (E := env) u95 rC (kk := .i64) (z := ((i : Nat) : Int)) (j := i) rfl hil (h' := h) (n' := n)
    have hld := hv'.load (E := env) jB rfl (k := i * 1) (n := n) (by rw [Nat.mul_one]; exact hx)
    have atn : AtN h n id sv (vs[i]'(by omega)) := ⟨a, by have := hD _ d1; omega, fun q hq => by have := hD _ (d2 q hq); omega⟩
    have w1 : IntKind.i64.wrap (((i : Nat) : Int) + 1) = ((i + 1 : Nat) : Int) := by rw [w64 (by omega) (by omega)]; omega
    have htk : vs.take (i + 1) = vs.take i ++ [vs[i]'(by omega)] := by rw [List.take_add_one, List.getElem?_eq_getElem (by omega)]; rfl
    simp only [EK, c8, Try.f74, Option.getD_some, fgr, bor, List.getD_cons_zero, hcc, gE]
    rw [aI hidx]
    simp only [gE]
    rw [aI hld]
    simp only [fgr, gE]
    refine aJ hf (hF h n id sv _ hn ho atn hf) fun v1 h1 n1 hn1 f1 ⟨e1, o1⟩ => ?_
    subst e1
    have ho1 : Old h0 h1 n0 := fun q hq => (o1 q (by omega)).trans (ho q hq)
    have ha1 := ha.aS (h' := h1) (fun j q => o1 j (ha.eT hf q))
    have hV1 := hV.mono (h' := h1) (D' := fun j => n0 ≤ j ∧ j < n1 ∧ bB acc ≠ some j) (fun j q => ⟨q.1, by omega, q.2.2⟩) (fun j q => o1 j q.2.1)
    have at1 := atn.old hn1 o1
    cases hq : is (vs[i]'(by omega)) with
    | false =>
      simp only [fgr, bor, bS, w1, gE]
      exact ih (i + 1) h1 n1 acc cells _ _ _ _ (by omega) (by rw [htk, List.filter_append]; simpa [hq] using ha1) (by rw [htk, List.filter_append]; simpa [hq] using hV1) hi (by omega) f1 ho1
    | true =>
      simp only [fgr, gE]
      rw [aI (fI at1.row at1.ok)]
      simp only [hkr, gE]
      refine aJ f1 (f77 _ sv at1.ok h1 n1 at1.s at1.sn (hsl _ (List.getElem_mem _)) f1) fun v2 h2 n2 hn2 f2 ⟨s', e2, b2, i2, o2⟩ => ?_
      subst e2
      simp only [tyr, builtin, newRow, DY (bD at1.ok.h at1.ok.b), gE]
      obtain ⟨H3, hH3⟩ : ∃ H3, H3 = upd h2 n2 (some (Blk.row (bK.l (aK (vs[i]'(by omega)) s')) 31)) := ⟨_, rfl⟩
      have f3 : bG H3 (n2 + 1) := by rw [hH3]; exact f2.new
      have o3 : ∀ j, j ≠ n2 → H3 j = h2 j := fun j hj => by rw [hH3, aG _ _ hj]
      have r3 : H3 n2 = some (Blk.row (bK.l (aK (vs[i]'(by omega)) s')) 31) := by rw [hH3, aP]
      rw [← hH3]
      clear hH3
      have o13 : Old h1 H3 n1 := fun j hj => by rw [o3 j (by omega), o2 j hj]
      have ha3 := ha1.aS (h' := H3) (fun j q => o13 j (ha1.eT f1 q))
      have hlen : ((vs.take i).filter is).length ≤ 1000000 := by
        have h1 := List.length_filter_le is (vs.take i)
        have h2 : (vs.take i).length ≤ vs.length := by rw [List.length_take]; omega
        omega
      refine j3 (i := fX.i) (e := 31) ha3 (mV (cnt := 1) r3 (by rw [bD at1.ok.h at1.ok.b]; rfl)) u43 u43 eB (cS b2.kind.2.1) (by decide) (by show 2 * (_ + 1) * 128 ≤ _; omega) (by omega) f3 ?_
      intro acc' h4 n4 hn4 f4 l4 i4 o4
      simp only [fgr, bor, bS, w1, gE]
      have i4' : ∀ j, bB acc' = some j → n0 ≤ j := fun j q => by
        rcases i4 with w | ⟨w, _⟩
        · rw [w] at q; exact hi j q
        · rw [w] at q; injection q with q; omega
      have accl : ∀ j, bB acc = some j → j < n1 := fun j q => ha1.eT f1 q
      have keep4 : ∀ j, j < n2 + 1 → bB acc ≠ some j → h4 j = H3 j := fun j hj hn => o4 j hj hn
      have hne : ∀ j, j < n2 + 1 → bB acc ≠ some j → bB acc' ≠ some j := fun j hj hn q => by
        rcases i4 with w | ⟨w, _⟩
        · rw [w] at q; exact hn q
        · rw [w] at q; injection q with q; omega
      have hV4 := hV1.mono (h' := h4) (D' := fun j => n0 ≤ j ∧ j < n4 ∧ bB acc' ≠ some j) (fun j q => ⟨q.1, by omega, hne j (by omega) q.2.2⟩) (fun j q => by rw [keep4 j (by omega) q.2.2, o13 j q.2.1])
      have an2 : ∀ j, n1 ≤ j → bB acc ≠ some j := fun j hj q => by have := accl j q; omega
      have hV5 := hV4.vN (b2.aS (h' := h4) fun j q => by rw [keep4 j (by have := i2 j q; omega) (an2 j (i2 j q).1), o3 j (by have := i2 j q; omega)]) at1.ok (fun j q => ⟨by have := i2 j q; omega, by have := i2 j q; omega, hne j (by have := i2 j q; omega) (an2 j (i2 j q).1)⟩)
      have hfl : (vs.take (i + 1)).filter is = (vs.take i).filter is ++ [vs[i]'(by omega)] := by rw [htk, List.filter_append]; simp [hq]
      have ho4 : Old h0 h4 n0 := fun j hj => by rw [keep4 j (by omega) (fun q => by have := hi j q; omega), o13 j (by omega)]; exact ho1 j hj
      exact ih (i + 1) h4 n4 acc' _ _ _ _ _ (by omega) (by rw [hfl, List.length_append]; exact l4) (by rw [hfl]; exact hV5) i4' (by omega) f4 ho4
def VL (h : Hp) (n0 n : Nat) (v : a9) (vs : List Ver) : Prop := ∃ cells, Lst h 31 70 v vs.length cells ∧ Vs h (fun j => n0 ≤ j ∧ j < n ∧ bB v ≠ some j) cells vs ∧ ∀ j, bB v = some j → n0 ≤ j ∧ j < n
theorem f74 (F : a9) (is : Ver → Bool) (v : a9) (cnt : Nat) (xs : List a9) (vs : List Ver) (D : Nat → Prop) (h : Hp) (n : Nat) (hF : IsF F is h n) (hc : cnt ≤ 1000000) (hv : Rds h 1 v cnt xs) (hvn : ∀ j, bB v = some j → j < n) (hp : Ps h D xs vs) (hD : ∀ j, D j → j < n) (hsl : ∀ v ∈ vs, v.aL.length ≤ 1000000) (hf : bG h n) :
    Wp (bM env (aY env) 74 [v, F]) h n fun v' h' n' => VL h' n n' v' (vs.filter is) ∧ Old h h' n := by
  refine aZ ay4 an8 ?_
  simp only [VW, Try.f74, Option.getD_some, List.replicate, fgr, builtin, Nat.reduceAdd, Nat.reduceSub, hv.dD u95, gE]
  refine UY _ _ F is v cnt xs vs D h n hF hc hv hvn hp hD hsl ?_ cnt 0 h n .aV [] _ _ _ _ (by omega) (by rw [List.take_zero]; exact .nil) (by rw [List.take_zero]; exact Vs.nil _ _) (fun j q => by cases q) (Nat.le_refl _) hf (Old.refl _ _)
  intro h1 n1 acc cells x4 x7 x11 x16 hl hV hi hn hf1 ho
  simp only [fgr, gE]
  exact ⟨⟨cells, hl, hV, fun j q => ⟨hi j q, hl.eT hf1 q⟩⟩, ho⟩
theorem f83 (id t : Nat) (sv : a9) (v : Ver) (z : Int) (h : Hp) (n : Nat) (ha : AtN h n id sv v) (ht : Row h t [.int .i64 z]) (hf : bG h n) :
    Wp (bM env (aY env) 83 [.ptr id 0, .ptr t 0]) h n fun v' h' n' => v' = .bool (gB v z) ∧ Old h h' n := by
  refine aZ ax5 am8 ?_
  simp only [VN, Try.f83, Option.getD_some, List.replicate, fgr, Nat.reduceAdd, Nat.reduceSub, gE]
  refine cP ⟨rfl, ?_⟩
  simp only [Nat.reduceAdd, gE]
  rw [bJ (fI ha.row ha.ok)]
  simp only [Nat.reduceAdd, gE]
  rw [bJ (ht.one (off := 0) rfl ti3 rfl)]
  simp only [hkr, Nat.reduceAdd, gE]
  refine eE hf (f82 v sv ha.ok z h n hf) fun v5 h5 n5 r5 w5 hn5 f5 ⟨e1, o1⟩ => ?_
  subst e1
  simp only [fgr, Nat.reduceAdd, gE]
  refine ⟨(by (try simp (disch := first | assumption | omega) only [dW, gF]); repeat' (first | rfl | exact (Bool.or_eq_true _ _).mpr (.inr rfl) | refine (Bool.and_eq_true _ _).mpr ⟨?_, ?_⟩)), ?_⟩
  exact o1
theorem IK (h0 : Hp) (n0 : Nat) : IsF (.fn (.func 75) [] []) (fun _ => true) h0 n0 := by
  intro h n id sv v hn ho ha hf
  simp only [hkr, bC, List.nil_append, List.append_nil]
  exact dL (f75 h n _) fun v' h' n' ⟨e1, e2, e3⟩ => ⟨e1, by subst e2; exact Old.refl _ _⟩
theorem QT (t : Nat) (z : Int) (h0 : Hp) (n0 : Nat) (ht : Row h0 t [.int .i64 z]) (htn : t < n0) : IsF (.fn (.func 83) [] [.ptr t 0]) (fun v => gB v z) h0 n0 := by
  intro h n id sv v hn ho ha hf
  simp only [hkr, bC, List.cons_append, List.nil_append]
  exact f83 id t sv v z h n ha (ht.aS (ho t htn)) hf
theorem f32 (x : Nat) (L : List Ver) (D M : Nat → Prop) (h : Hp) (n : Nat) (hs : Ix h n D M x L) (hc : L.length ≤ 1000000) (hf : bG h n) :
    Wp (bM env (aY env) 32 [.ptr x 0]) h n fun v' h' n' => VL h' n n' v' L ∧ Old h h' n := by
  obtain ⟨⟨S, s0, rS, perm⟩, rL, ok⟩ := hs
  obtain ⟨vl, vs, xl, xs, iv, mx, ml, ms, mn⟩ := s0
  refine aZ aA4 aq2 ?_
  simp only [WH, Try.f32, Option.getD_some, List.replicate, fgr, hkr, Nat.reduceSub, gE]
  refine dA (f73 x _ true h n iv.row rfl) ?_
  simp only [tyr, fgr, aQ, gE]
  rw [aI (iv.row.one (off := 1) rfl pC rfl)]
  simp only [hkr, gE]
  refine aJ hf (f74 _ _ vl L.length xl L D h n (IK h n) hc iv.l.rds (fun j q => (mn j (ml j q)).1) iv.lp iv.dn (fun v hv => (ok v hv).2) hf) fun v1 h1 n1 hn1 f1 ⟨l1, o1⟩ => ?_
  simp only [fgr, gE]
  rw [show L.filter (fun _ => true) = L from List.filter_eq_self.2 fun _ _ => rfl] at l1
  exact ⟨l1, o1⟩
theorem f39 (x : Nat) (z : Int) (L : List Ver) (D M : Nat → Prop) (h : Hp) (n : Nat) (hs : Ix h n D M x L) (hc : L.length ≤ 1000000) (hf : bG h n) :
    Wp (bM env (aY env) 39 [.ptr x 0, .int .i64 z]) h n fun v' h' n' => VL h' n n' v' (L.filter fun v => gB v z) ∧ Old h h' n := by
  obtain ⟨⟨S, s0, rS, perm⟩, rL, ok⟩ := hs
  obtain ⟨vl, vs, xl, xs, iv, mx, ml, ms, mn⟩ := s0
  refine aZ az8 ap2 ?_
  simp only [WA, Try.f39, Option.getD_some, List.replicate, Nat.reduceAdd, Nat.reduceSub, gE]
  refine dU (v := .int .i64 z) ti3 rfl hf fun H1 r1 o1 f1 => ?_
  have old1 : Old h H1 n := fun j hj => o1 j (by omega)
  simp only [fgr, hkr, gE]
  have row1 := iv.row.aS (old1 x iv.xn)
  refine dA (f73 x _ true H1 (n + 1) row1 rfl) ?_
  simp only [tyr, fgr, aQ, gE]
  rw [aI (row1.one (off := 1) rfl pC rfl)]
  simp only [hkr, gE]
  refine aJ f1 (f74 _ _ vl L.length xl L D H1 (n + 1) (QT n z H1 (n + 1) r1 (by omega)) hc (iv.l.aS (fun j q => old1 j (mn j (ml j q)).1)).rds (fun j q => by have := (mn j (ml j q)).1; omega) (iv.lp.mono (fun j q => q) (fun j q => old1 j (iv.dn j q))) (fun j q => by have := iv.dn j q; omega) (fun v hv => (ok v hv).2) f1) fun v2 h2 n2 hn2 f2 ⟨l2, o2⟩ => ?_
  simp only [fgr, gE]
  obtain ⟨cells, a1, a2, a3⟩ := l2
  exact ⟨⟨cells, a1, a2.mono (fun j q => ⟨by have := q.1; omega, q.2⟩) (fun j q => rfl), fun j q => by have := a3 j q; omega⟩, fun j hj => by rw [o2 j (by omega), old1 j hj]⟩
def yes (b : Bool) (v : a9) : Prop := v = .gY b ∨ v = .bool b
theorem QK (Q : fC) (ks : List Kf) (Y : a9) (v : a9) (cnt p : Nat) (xs : List a9) (vs : List Ver) (D : Nat → Prop) (P : Nat → Hp → Nat → Prop) (R : Hp → Nat → Prop) (y1 y2 : a9) (hc : cnt ≤ 1000000) (hpc : p ≤ cnt)
    (hP : ∀ k h n, P k h n → Rds h 1 v cnt xs ∧ Ps h D xs vs ∧ bG h n)
    (hY : ∀ (k : Nat) (hk : k < vs.length) (id : Nat) (sv : a9) (h : Hp) (n : Nat), p ≤ k → P k h n → xs[k]? = some (.ptr id 0) → At h id sv vs[k] → D id → (∀ j, bB sv = some j → D j) → Wp (kG env (aY env) Y [.ptr id 0]) h n fun v' h' n' => (yes true v' ∧ P (k + 1) h' n') ∨ (yes false v' ∧ R h' n'))
    (hE : ∀ (h : Hp) (n : Nat) (tm : List a9), P cnt h n → eR env 109 none Q ks (.exit 0) tm h n)
    (hR : ∀ (h : Hp) (n : Nat) (tm : List a9), R h n → eR env 109 none Q ks .ret tm h n) :
    ∀ (m i : Nat) (h : Hp) (n : Nat) (x4 x7 x22 x28 : a9), p + i + m = cnt → P (p + i) h n → Run env 109 none Q (.loop BD) ks (Y :: y1 :: y2 :: a9.aA :: x4 :: a9.aA :: a9.aA :: x7 :: a9.aA :: a9.aA :: a9.aA :: a9.aA :: a9.aA :: a9.aA :: a9.aA :: a9.aA :: a9.aA :: a9.aA :: a9.aA :: lH p cnt v :: .int .i64 (cnt - p : Nat) :: .int .i64 (i : Nat) :: x22 :: a9.aA :: a9.aA :: a9.aA :: a9.aA :: a9.aA :: x28 :: a9.aA :: []) h n := by
  intro m
  induction m with
  | zero =>
    intro i h n x4 x7 x22 x28 hm hp
    rw [cY]
    have hcc : ¬ (((i : Nat) : Int) < ((cnt - p : Nat) : Int)) := by omega
    simp only [BD, c8, Try.f109, Option.getD_some, fgr, bor, List.getD_cons_zero, hcc, gE]
    exact hE h n _ (by rw [show cnt = p + i by omega]; exact hp)
  | succ m ih =>
    intro i h n x4 x7 x22 x28 hm hp
    rw [cY]
    obtain ⟨hv, hps, hf⟩ := hP _ _ _ hp
    have hcl : cnt = vs.length := by have := hv.length; have := hps.len; omega
    have hil : i < cnt - p := by omega
    have hcc : (((i : Nat) : Int) < ((cnt - p : Nat) : Int)) := by omega
    have hsub := hv.sub (lo := p) (hi := cnt) hpc (Nat.le_refl _)
    obtain ⟨id, sv, hx, a, d1, d2⟩ := hps.get (j := p + i) (by omega)
    have hidx := hsub.idx (E := env) u95 rC (kk := .i64) (z := ((i : Nat) : Int)) (j := i) rfl hil (h' := h) (n' := n)
    have hld := hsub.load (E := env) jB rfl (k := i * 1) (n := n) (x := .ptr id 0) (by
      rw [Nat.mul_one, Nat.mul_one, Nat.mul_one, List.getElem?_take, if_pos hil, List.getElem?_drop]; exact hx)
    have w1 : IntKind.i64.wrap (((i : Nat) : Int) + 1) = ((i + 1 : Nat) : Int) := by rw [w64 (by omega) (by omega)]; omega
    simp only [BD, c8, Try.f109, Option.getD_some, fgr, bor, List.getD_cons_zero, hcc, gE]
    rw [aI hidx]
    simp only [gE]
    rw [aI hld]
    simp only [fgr, gE]
    refine aJ hf (hY (p + i) (by omega) id sv h n (by omega) hp hx a d1 d2) fun v1 h1 n1 hn1 f1 hh => ?_
    rcases hh with ⟨e1 | e1, hp1⟩ | ⟨e1 | e1, hr1⟩
    · subst e1
      simp only [fgr, bor, bS, unOp, w1, gE]
      exact ih (i + 1) h1 n1 _ _ _ _ (by omega) hp1
    · subst e1
      simp only [fgr, bor, bS, unOp, w1, gE]
      exact ih (i + 1) h1 n1 _ _ _ _ (by omega) hp1
    · subst e1
      simp only [fgr, unOp, gE]
      exact hR h1 n1 _ hr1
    · subst e1
      simp only [fgr, unOp, gE]
      exact hR h1 n1 _ hr1
theorem f109 (o : Bool) (Y : a9) (b1 b2 x off : Nat) (cs : List a9) (v : a9) (t : Nat) (st : a9) (tv : Ver) (cnt : Nat) (xs : List a9) (vs : List Ver) (D : Nat → Prop) (P : Nat → Hp → Nat → Prop) (R : Hp → Nat → Prop) (h : Hp) (n : Nat)
    (hb1 : Row h b1 [.ptr x off]) (hb2 : Row h b2 [.ptr t 0]) (hr : Row h x cs) (hc0 : cs[off]? = some v) (hc1 : cs[off + 1]? = some (fo o)) (hc : cnt ≤ 1000000) (hv : Rds h 1 v cnt xs) (hro : vK v) (hvn : ∀ j, bB v = some j → j < n) (hp : Ps h D xs vs) (hD : ∀ j, D j → j < n) (ht : AtN h n t st tv) (hmono : JN o vs tv) (hf : bG h n)
    (hn1 : b1 < n) (hxn : x < n)
    (hP : ∀ k h n, P k h n → Rds h 1 v cnt xs ∧ Ps h D xs vs ∧ bG h n)
    (hS : ∀ p h' n', Pos o vs tv p → n ≤ n' → bG h' n' → Old h h' n → P p h' n')
    (hY : ∀ (p k : Nat) (hk : k < vs.length) (id : Nat) (sv : a9) (h : Hp) (n : Nat), Pos o vs tv p → p ≤ k → P k h n → xs[k]? = some (.ptr id 0) → At h id sv vs[k] → D id → (∀ j, bB sv = some j → D j) → Wp (kG env (aY env) Y [.ptr id 0]) h n fun v' h' n' => (yes true v' ∧ P (k + 1) h' n') ∨ (yes false v' ∧ R h' n')) :
    Wp (bM env (aY env) 109 [Y, .ptr b1 0, .ptr b2 0]) h n fun v' h' n' => v' = .tup [] ∧ (P cnt h' n' ∨ R h' n') := by
  have hcl : cnt = vs.length := by have := hv.length; have := hp.len; omega
  refine aZ ae3 ZX ?_
  simp only [N9, Try.f109, Option.getD_some, List.replicate, Nat.reduceAdd, Nat.reduceSub, gE]
  rw [aI (hb1.one (off := 0) rfl KG rfl)]
  simp only [gE]
  rw [aI (hb2.one (off := 0) rfl jB rfl)]
  simp only [hkr, gE]
  refine aJ hf (f103 o x off cs v t st tv cnt xs vs D h n hr hc0 hc1 (by omega) hv hvn hp hD ht hmono hf) fun v1 h1 n1 hn1' f1 ⟨p, hpos, e1, o1⟩ => ?_
  subst e1
  have hpc : p ≤ cnt := by have := hpos.le; omega
  have hv1 := hv.aS (h' := h1) (fun j q => o1 j (hvn j q))
  simp only [fgr, gE]
  rw [aI ((hb1.aS (o1 b1 hn1)).one (off := 0) rfl KG rfl)]
  simp only [tyr, aQ, gE]
  rw [aI ((hr.aS (o1 x hxn)).one hc0 pC rfl)]
  simp only [opt, gE]
  rw [aI (hv1.G7 u95 rC rfl hpc)]
  have hsub := hv1.sub (lo := p) (hi := cnt) hpc (Nat.le_refl _)
  simp only [fgr, builtin, hsub.dD u95, gE]
  refine QK _ _ Y v cnt p xs vs D P R _ _ hc hpc hP (fun k hk id sv h n => hY p k hk id sv h n hpos) ?_ ?_ (cnt - p) 0 h1 n1 _ _ _ _ (by omega) (hS p h1 n1 hpos (by omega) f1 o1)
  · intro h2 n2 tm hp2
    simp only [bP, true_and]
    exact .inl hp2
  · intro h2 n2 tm hr2
    simp only [bP, true_and]
    exact .inr hr2
theorem f88 (x off t : Nat) (h : Hp) (n : Nat) : Wp (bM env (aY env) 88 [.ptr x off, .ptr t 0]) h n fun v' h' n' => v' = .fn (.func 109) [] [.ptr n 0, .ptr (n + 1) 0] ∧ h' = upd (upd h n (some (.row (.l [.ptr x off]) 156))) (n + 1) (some (.row (.l [.ptr t 0]) 128)) ∧ n' = n + 1 + 1 := by
  refine aZ ax1 am4 ?_
  simp only [VI, Try.f88, Option.getD_some, List.replicate, tyr, fgr, cel, alloc, newRow, Nat.reduceAdd, Nat.reduceSub, gE]
theorem f81 (x : Nat) (aO : List UInt8) (pn : Int) (h : Hp) (n : Nat) : Wp (bM env (aY env) 81 [.ptr x 0, .agg (aX aO pn)]) h n fun v' h' n' => v' = .fn (.func 106) [] [.ptr n 0, .ptr (n + 1) 0] ∧ h' = upd (upd h n (some (.row (.l [.ptr x 0]) 56))) (n + 1) (some (.row (.l (aX aO pn)) 28)) ∧ n' = n + 1 + 1 := by
  refine aZ ax7 an0 ?_
  simp only [VP, Try.f81, Option.getD_some, List.replicate, tyr, fgr, cel, alloc, newRow, Nat.reduceAdd, Nat.reduceSub, gE]
theorem nX {α : Type} {f : α → M Bool} {g : α → Bool} : ∀ (l : List α), (∀ x ∈ l, f x = M.pure (g x)) → vX f l = M.pure (l.all g)
  | [], _ => rfl
  | x :: l, h => by
    simp only [vX, h x (List.mem_cons_self), aB, nX l fun y hy => h y (List.mem_cons_of_mem _ hy), List.all_cons]
theorem xA {a : List UInt8} {i : Nat} (hi : i < a.length) : part env 5 (a.map u8) i = M.pure (u8 a[i]) := by
  simp only [part, ti5, aB, dT, List.getElem?_map, List.getElem?_eq_getElem hi, Option.map_some, dG]
theorem eq5 (d : Nat) (x y : UInt8) : equal env (d + 1) 5 (u8 x) (u8 y) = M.pure (x == y) := by
  have : ((x.toNat : Int) == (y.toNat : Int)) = (x == y) := by
    by_cases e : x = y
    · subst e; simp
    · have h2 : ¬ ((x.toNat : Int) = (y.toNat : Int)) := fun q => e (UInt8.toNat_inj.1 (by omega))
      rw [beq_eq_false_iff_ne.2 h2, beq_eq_false_iff_ne.2 e]
  simp only [equal, u8, und, ti5, aB, decide_true]
  rw [this]
theorem J7 (d : Nat) (a b : List UInt8) (ha : a.length = 32) (hb : b.length = 32) : equal env (d + 1 + 1) 25 (.agg (a.map u8)) (.agg (b.map u8)) = M.pure (decide (a = b)) := by
  have hq : zK env env.eqs 25 = true := rfl
  have h1 : equal env (d + 1 + 1) 25 (.agg (a.map u8)) (.agg (b.map u8)) = vX (fun i => (part env 5 (a.map u8) (i * 1)).bind fun x => (part env 5 (b.map u8) (i * 1)).bind fun y => equal env (d + 1) 5 x y) (List.range 32) := by
    rw [equal]
    · simp only [und, kH, aB, hq, dE, sizeOf, ti5]
    all_goals (intro k n h; cases h)
  rw [h1, nX (g := fun i => (a.getD i 0 == b.getD i 0)) _ fun i hi => ?_]
  · congr 1
    rw [Bool.eq_iff_iff, List.all_eq_true, decide_eq_true_iff]
    constructor
    · intro h
      apply List.ext_getElem (by omega)
      intro i h1 h2
      have := h i (List.mem_range.2 (by omega))
      rw [List.getD_eq_getElem?_getD, List.getD_eq_getElem?_getD, List.getElem?_eq_getElem h1, List.getElem?_eq_getElem h2] at this
      simpa using this
    · rintro rfl i _
      simp
  · have hi := List.mem_range.1 hi
    rw [Nat.mul_one, xA (by omega), aB, xA (by omega), aB, eq5]
    rw [List.getD_eq_getElem?_getD, List.getD_eq_getElem?_getD, List.getElem?_eq_getElem (by omega), List.getElem?_eq_getElem (by omega)]
    rfl
theorem RI (d : Nat) (h1 h2 : List UInt8) (n1 n2 : Int) (l1 : h1.length = 32) (l2 : h2.length = 32) : equal env (d + 1 + 1 + 1) 28 (.agg (aX h1 n1)) (.agg (aX h2 n2)) = M.pure (decide (h1 = h2) && (n1 == n2)) := by
  have hq : zK env env.eqs 28 = true := rfl
  have p0 : ∀ (hh : List UInt8) (nn : Int), hh.length = 32 → part env 25 (aX hh nn) 0 = M.pure (.agg (hh.map u8)) := fun hh nn hl => by
    simp only [part, kH, aB, dT, List.drop_zero]
    rw [show (aX hh nn).take 32 = hh.map u8 by unfold aX; rw [List.take_append_of_le_length (by simp [hl]), List.take_of_length_le (by simp [hl])]]
  have p1 : ∀ (hh : List UInt8) (nn : Int), hh.length = 32 → part env 26 (aX hh nn) 32 = M.pure (.int .u32 nn) := fun hh nn hl => by
    simp only [part, uF, aB, dT, lA hl, dG]
  have p2 : equal env (d + 1 + 1) 26 (.int .u32 n1) (.int .u32 n2) = M.pure (n1 == n2) := by
    simp only [equal, und, uF, aB, decide_true]
  rw [equal]
  · simp only [und, j7, aB, hq, dE]
    simp only [vX, show decide ("Tx" = "_") = false from rfl, show decide ("N" = "_") = false from rfl, p0 h1 n1 l1, p0 h2 n2 l2, p1 h1 n1 l1, p1 h2 n2 l2, aB, J7 d h1 h2 l1 l2, p2, Bool.and_true]
  all_goals (intro k n h; cases h)
theorem YY (h1 h2 : List UInt8) (n1 n2 : Int) (l1 : h1.length = 32) (l2 : h2.length = 32) : binOp env .neq 28 (.agg (aX h1 n1)) (.agg (aX h2 n2)) = M.pure (.bool (!(decide (h1 = h2) && (n1 == n2)))) := by
  have e := RI 97 h1 h2 n1 n2 l1 l2
  show aR env .neq 28 (.agg (aX h1 n1)) (.agg (aX h2 n2)) = _
  unfold aR
  simp only
  unfold aU
  rw [e, aB]
noncomputable def C1 (tm : List a9) : lE := { state := .ready, pending := none, fn := 106, tmps := tm, params := [14], assign := GB, body := GA }
def same (aO : List UInt8) (pn : Int) (v : Ver) : Bool := decide (v.aO = aO) && (v.pn == pn)
def aF3 (aO : List UInt8) (pn : Int) (L : List Ver) (P : Nat → Nat → Hp → Nat → Prop) (R : Nat → Hp → Nat → Prop) (n0 : Nat) (h : Hp) (n : Nat) : Prop :=
  ∃ nS, n0 ≤ nS ∧ ((∃ k, pos false L (key aO pn 0) ≤ k ∧ P nS k h n ∧ ∀ hk : k < L.length, same aO pn L[k] = false) ∨ R nS h n)
set_option maxHeartbeats 4000000 in
theorem f106 (Y : a9) (c1 c2 x : Nat) (aO : List UInt8) (pn : Int) (hl : aO.length = 32) (L S : List Ver) (D : Nat → Prop) (P : Nat → Nat → Hp → Nat → Prop) (R : Nat → Hp → Nat → Prop) (vl vs : a9) (xl xs : List a9) (h : Hp) (n : Nat)
    (iv : IxV h n D x vl vs xl xs L S) (mn : ∀ j, bB vl = some j → j < n) (rL : eU false L) (hc : L.length ≤ 1000000)
    (hY1 : Y.cells = [Y] ∧ bI Y = true ∧ dV Y = false) (hc1 : Row h c1 [.ptr x 0]) (hc2 : Row h c2 (aX aO pn)) (hn1 : c1 < n) (hn2 : c2 < n) (hf : bG h n)
    (hP : ∀ nS k h n, P nS k h n → Rds h 1 vl L.length xl ∧ Ps h D xl L ∧ bG h n)
    (hS : ∀ h' nS, n ≤ nS → bG h' nS → Old h h' n → P nS (pos false L (key aO pn 0)) h' nS)
    (hst : ∀ nS k h1 n1 i b, n ≤ i → i < nS → P nS k h1 n1 → P nS k (upd h1 i b) n1)
    (hsr : ∀ nS h1 n1 i b, n ≤ i → i < nS → R nS h1 n1 → R nS (upd h1 i b) n1)
    (hY : ∀ (nS k : Nat) (hk : k < L.length) (id : Nat) (sv : a9) (h1 : Hp) (n1 : Nat), n ≤ nS → pos false L (key aO pn 0) ≤ k → P nS k h1 n1 → At h1 id sv L[k] → D id → (∀ j, bB sv = some j → D j) → same aO pn L[k] = true →
      Wp (kG env (aY env) Y [.ptr id 0]) h1 n1 fun v' h' n' => ((yes true v' ∧ P nS (k + 1) h' n') ∨ (yes false v' ∧ R nS h' n')) ∧ (∀ j, n ≤ j → j < nS → h' j = h1 j) ∧ h' c2 = h1 c2) :
    Wp (bM env (aY env) 106 [Y, .ptr c1 0, .ptr c2 0]) h n fun v' h' n' => v' = .tup [] ∧ aF3 aO pn L P R n h' n' := by
  refine aZ ae6 aa0 ?_
  simp only [ND, Try.f106, Option.getD_some, List.replicate, Nat.reduceAdd, Nat.reduceSub, gE]
  refine dU (v := Y) KI hY1.2.2 hf fun H1 r1 o1 f1 => ?_
  rw [hY1.1] at r1
  have old1 : Old h H1 n := fun j hj => o1 j (by omega)
  simp only [fgr, gE]
  rw [aI ((hc1.aS (old1 c1 hn1)).one (off := 0) rfl oC rfl)]
  simp only [hkr, gE]
  refine dA (f73 x _ true H1 (n + 1) (iv.row.aS (old1 x iv.xn)) rfl) ?_
  simp only [bP, fgr, opd, bX, put, nth, aE, Bool.not_true]
  refine cP ⟨rfl, ?_⟩
  simp only [gE]
  rw [bJ ((hc1.aS (old1 c1 hn1)).one (off := 0) rfl oC rfl)]
  simp only [tyr, aQ, Nat.reduceAdd, gE]
  have hld : Rd (load env 28 (.ptr c2 0)) H1 (n + 1) [c2] (.agg (aX aO pn)) := Row.gT (hc2.aS (old1 c2 hn2)) j7 rfl (c9 hl)
  rw [bJ hld]
  have b31 : build env 31 [(0, .agg (aX aO pn))] = M.pure (.agg (aK (key aO pn 0) .aV)) := by
    have h1 : (a9.agg (aX aO pn)).cells.length = 33 := c9 hl
    have e1 : ∀ pl : Nat → Option (Nat × Nat), pl 0 = some (0, 33) → fill pl fX.i.zero.cells [(0, .agg (aX aO pn))] = some (aK (key aO pn 0) .aV) := fun pl p0 => by
      rw [z31, iK p0 rfl rfl h1 rfl, List.nil_append]
      simp only [fill]
      congr 1
    have e2 : build env 31 [(0, .agg (aX aO pn))] = (dG "build" (fill ([(0, 33), (33, 1), (34, 1), (35, 1), (36, 1), (37, 1), (38, 32)][·]?) fX.i.zero.cells [(0, .agg (aX aO pn))])).bind fun cs => M.pure (.agg cs) := rfl
    rw [e2, e1 _ rfl]
    rfl
  simp only [cel, alloc, Nat.reduceAdd, b31, gE]
  refine kA (xs := aK (key aO pn 0) .aV) eB f1 fun H2 r2 o2 f2 => ?_
  have old2 : Old h H2 n := fun j hj => by rw [o2 j (by omega), old1 j hj]
  simp only [hkr, Nat.reduceAdd, gE]
  refine eE f2 (f88 x 1 (n + 1) H2 (n + 1 + 1)) fun v3 h3 n3 r3 w3 hn3 f3 ⟨e3, eh3, en3⟩ => ?_
  subst e3; subst en3
  simp only [jG, bP, fgr, bX, put, aE, Nat.reduceAdd]
  refine ⟨(by (try simp (disch := first | assumption | omega) only [dW, gF]); repeat' (first | rfl | exact (Bool.or_eq_true _ _).mpr (.inr rfl) | refine (Bool.and_eq_true _ _).mpr ⟨?_, ?_⟩)), ?_⟩
  have g0 : Row h3 n [Y] := by rw [eh3]; exact ((r1.aS (o2 n (by omega))).upd (by omega)).upd (by omega)
  have g1 : h3 (n + 1) = some (.row (.l (aK (key aO pn 0) .aV)) 31) := by rw [eh3, aG _ _ (by omega), aG _ _ (by omega)]; exact r2
  have g2 : Row h3 (n + 1 + 1) [.ptr x 1] := by rw [eh3]; exact (Row.new _ _ _ _).upd (by omega)
  have g3 : Row h3 (n + 1 + 1 + 1) [.ptr (n + 1) 0] := by rw [eh3]; exact Row.new _ _ _ _
  have old3 : Old h h3 n := fun j hj => by rw [eh3, aG _ _ (by omega), aG _ _ (by omega), old2 j hj]
  clear eh3
  refine lS (g := 109) (first := []) (cap := [.ptr (n + 1 + 1) 0, .ptr (n + 1 + 1 + 1) 0]) rfl rfl ?_
  let TM : List a9 := (Y :: .ptr c1 0 :: .ptr c2 0 :: .ptr n 0 :: undef :: a9.aA :: .bool false :: a9.aA :: a9.aA :: a9.aA :: a9.aA :: a9.aA :: a9.aA :: .fn (.func 109) [] [.ptr (n + 1 + 1) 0, .ptr (n + 1 + 1 + 1) 0] :: undef :: a9.aA :: a9.aA :: a9.aA :: a9.aA :: a9.aA :: a9.aA :: a9.aA :: a9.aA :: a9.aA :: a9.aA :: a9.aA :: undef :: [])
  obtain ⟨H4, hH4⟩ : ∃ H4, H4 = upd h3 (n + 1 + 1 + 1 + 1) (some (Blk.loop (C1 TM))) := ⟨_, rfl⟩
  have f4 : bG H4 (n + 1 + 1 + 1 + 1 + 1) := by rw [hH4]; exact f3.new
  have o4 : ∀ j, j ≠ n + 1 + 1 + 1 + 1 → H4 j = h3 j := fun j hj => by rw [hH4, aG _ _ hj]
  have r4 : H4 (n + 1 + 1 + 1 + 1) = some (Blk.loop (C1 TM)) := by rw [hH4, aP]
  have old4 : Old h H4 n := fun j hj => by rw [o4 j (by omega), old3 j hj]
  show Wp (gX env (aY env) 109 [a9.fn (Fn.yield (n + 1 + 1 + 1 + 1)) [] [], a9.ptr (n + 1 + 1) 0, a9.ptr (n + 1 + 1 + 1) 0]) (upd h3 (n + 1 + 1 + 1 + 1) (some (Blk.loop (C1 TM)))) (n + 1 + 1 + 1 + 1 + 1) _
  rw [SG, ← hH4]
  clear hH4
  have hl0 := iv.l.aS (h' := H4) (fun j q => old4 j (mn j q))
  have hp0 := iv.lp.mono (D' := D) (fun j q => q) (fun j q => old4 j (iv.dn j q))
  have kt : AtN H4 (n + 1 + 1 + 1 + 1 + 1) (n + 1) .aV (key aO pn 0) := ⟨⟨⟨_, (o4 (n + 1) (by omega)).trans g1⟩, .aV, MT hl⟩, by omega, fun j q => by cases q⟩
  have hro : vK vl := by
    have q := iv.l
    generalize L.length = len at q
    cases q with
    | nil => trivial
    | zero => exact Nat.le_refl _
    | sl => trivial
  refine dL (f109 false (.fn (.yield (n + 1 + 1 + 1 + 1)) [] []) (n + 1 + 1) (n + 1 + 1 + 1) x 1 _ vl (n + 1) .aV (key aO pn 0) L.length xl L D
    (fun k h1 n1 => ∃ nS, n + 1 + 1 + 1 + 1 < nS ∧ P nS k h1 n1 ∧ h1 (n + 1 + 1 + 1 + 1) = some (.loop (C1 TM)) ∧ Row h1 n [Y] ∧ Row h1 c2 (aX aO pn))
    (fun h1 n1 => ∃ l nS, h1 (n + 1 + 1 + 1 + 1) = some (.loop l) ∧ l.state = .done ∧ l.pending = some .ret ∧ n + 1 + 1 + 1 + 1 < nS ∧ ((∃ k, pos false L (key aO pn 0) ≤ k ∧ P nS k h1 n1 ∧ ∀ hk : k < L.length, same aO pn L[k] = false) ∨ R nS h1 n1))
    H4 (n + 1 + 1 + 1 + 1 + 1) (g2.aS (o4 _ (by omega))) (g3.aS (o4 _ (by omega))) (iv.row.aS (old4 x iv.xn)) rfl rfl hc hl0.rds hro (fun j q => by have := mn j q; omega) hp0 (fun j q => by have := iv.dn j q; omega) kt (rL.mono _) f4 (by omega) (by have := iv.xn; omega) ?_ ?_ ?_) ?_
  · rintro k h1 n1 ⟨nS, _, hp, _⟩
    exact hP nS k h1 n1 hp
  · intro p h' n' hpos hn' hf' ho'
    have oo : Old h h' n := fun j hj => by rw [ho' j (by omega), old4 j hj]
    refine ⟨n', by omega, by rw [hpos.eq]; exact hS h' n' (by omega) hf' oo, (ho' _ (by omega)).trans r4, (g0.aS (o4 n (by omega))).aS (ho' n (by omega)), hc2.aS (oo c2 hn2)⟩
  · rintro p k hk id sv h1 n1 hpos hpk ⟨nS, hnS, hp, hlo, hrY, hrc⟩ hx a d1 d2
    obtain ⟨_, hps, hf1'⟩ := hP nS k h1 n1 hp
    refine nF hlo rfl rfl ?_
    simp only [GB, List.getD_cons_zero, mD, List.zip_cons_cons, List.zip_nil_left, C1, TM, cZ, Try.f106, Option.getD_some, fgr, gE]
    refine ⟨_, hlo, rfl, ?_⟩
    have hidn : id < n := iv.dn id d1
    have hpk' : pos false L (key aO pn 0) ≤ k := by rw [← hpos.eq]; exact hpk
    obtain ⟨h2, hh2⟩ : ∃ h2, h2 = upd h1 (n + 1 + 1 + 1 + 1) (some (Blk.loop { C1 TM with state := .busy })) := ⟨_, rfl⟩
    have ho2 : ∀ j, j ≠ n + 1 + 1 + 1 + 1 → h2 j = h1 j := fun j hj => by rw [hh2, aG _ _ hj]
    have hlo2 : h2 (n + 1 + 1 + 1 + 1) = some (.loop { C1 TM with state := .busy }) := by rw [hh2, aP]
    have hp2 : P nS k h2 n1 := by rw [hh2]; exact hst nS k h1 n1 _ _ (by omega) hnS hp
    have a2 : At h2 id sv L[k] := a.aS (ho2 id (by omega)) (fun j q => ho2 j (by have := iv.dn j (d2 j q); omega))
    have hrY2 := hrY.aS (ho2 n (by omega))
    have hrc2 := hrc.aS (ho2 c2 (by omega))
    show Run env 106 _ _ _ _ _ (upd h1 (n + 1 + 1 + 1 + 1) (some (Blk.loop { C1 TM with state := .busy }))) n1
    rw [← hh2]
    clear hh2
    obtain ⟨_, _, hf2⟩ := hP nS k h2 n1 hp2
    simp only [GA, List.getD_cons_zero, cZ, Try.f106, Option.getD_some, bP, fgr, List.nil_append, List.append_nil]
    refine cP ⟨rfl, ?_⟩
    simp only [tyr, aQ, Nat.reduceAdd, gE]
    rw [bJ (jN a2.row a2.ok)]
    simp only [Nat.reduceAdd, gE]
    have hld2 : Rd (load env 28 (.ptr c2 0)) h2 n1 [c2] (.agg (aX aO pn)) := Row.gT hrc2 j7 rfl (c9 hl)
    rw [bJ hld2]
    have hne := YY L[k].aO aO L[k].pn pn a2.ok.h hl
    cases hsm : same aO pn L[k] with
    | false =>
      have e1 : (decide (L[k].aO = aO) && (L[k].pn == pn)) = false := hsm
      rw [e1] at hne
      simp only [fgr, aT, Nat.reduceAdd, hne, gE]
      exact ⟨(by (try simp (disch := first | assumption | omega) only [dW, gF]); repeat' (first | rfl | exact (Bool.or_eq_true _ _).mpr (.inr rfl) | refine (Bool.and_eq_true _ _).mpr ⟨?_, ?_⟩)), _, hlo2, .inr ⟨.inl rfl, _, nS, aP _ _ _, rfl, rfl, hnS, .inl ⟨k, hpk', hst nS _ _ _ _ _ (by omega) hnS hp2, fun _ => hsm⟩⟩⟩
    | true =>
      have e1 : (decide (L[k].aO = aO) && (L[k].pn == pn)) = true := hsm
      rw [e1] at hne
      simp only [Nat.reduceAdd, hne, gE]
      rw [bJ (hrY2.one (off := 0) rfl KI rfl)]
      simp only [Nat.reduceAdd, gE]
      refine eE hf2 (hY nS k hk id sv h2 n1 (by omega) hpk' hp2 a2 d1 d2 hsm) fun v6 h6 n6 r6 w6 hn6 f6 ⟨hres, hkeep, hkc⟩ => ?_
      have hlo6 : h6 (n + 1 + 1 + 1 + 1) = some (.loop { C1 TM with state := .busy }) := (hkeep _ (by omega) hnS).trans hlo2
      rcases hres with ⟨e6 | e6, hp6⟩ | ⟨e6 | e6, hr6⟩
      · subst e6
        simp only [fgr, unOp, aT, Nat.reduceAdd, gE]
        exact ⟨(by (try simp (disch := first | assumption | omega) only [dW, gF]); repeat' (first | rfl | exact (Bool.or_eq_true _ _).mpr (.inr rfl) | refine (Bool.and_eq_true _ _).mpr ⟨?_, ?_⟩)), _, hlo6, .inl ⟨.inl rfl, nS, hnS, hst nS _ _ _ _ _ (by omega) hnS hp6, aP _ _ _, (hrY2.aS (hkeep n (Nat.le_refl _) (by omega))).upd (by omega), (hrc2.aS hkc).upd (by omega)⟩⟩
      · subst e6
        simp only [fgr, unOp, aT, Nat.reduceAdd, gE]
        exact ⟨(by (try simp (disch := first | assumption | omega) only [dW, gF]); repeat' (first | rfl | exact (Bool.or_eq_true _ _).mpr (.inr rfl) | refine (Bool.and_eq_true _ _).mpr ⟨?_, ?_⟩)), _, hlo6, .inl ⟨.inl rfl, nS, hnS, hst nS _ _ _ _ _ (by omega) hnS hp6, aP _ _ _, (hrY2.aS (hkeep n (Nat.le_refl _) (by omega))).upd (by omega), (hrc2.aS hkc).upd (by omega)⟩⟩
      · subst e6
        simp only [fgr, unOp, aT, Nat.reduceAdd, gE]
        exact ⟨(by (try simp (disch := first | assumption | omega) only [dW, gF]); repeat' (first | rfl | exact (Bool.or_eq_true _ _).mpr (.inr rfl) | refine (Bool.and_eq_true _ _).mpr ⟨?_, ?_⟩)), _, hlo6, .inr ⟨.inl rfl, _, nS, aP _ _ _, rfl, rfl, hnS, .inr (hsr nS _ _ _ _ (by omega) hnS hr6)⟩⟩
      · subst e6
        simp only [fgr, unOp, aT, Nat.reduceAdd, gE]
        exact ⟨(by (try simp (disch := first | assumption | omega) only [dW, gF]); repeat' (first | rfl | exact (Bool.or_eq_true _ _).mpr (.inr rfl) | refine (Bool.and_eq_true _ _).mpr ⟨?_, ?_⟩)), _, hlo6, .inr ⟨.inl rfl, _, nS, aP _ _ _, rfl, rfl, hnS, .inr (hsr nS _ _ _ _ (by omega) hnS hr6)⟩⟩
  · rintro v5 h5 n5 ⟨e5, hh⟩
    rcases hh with ⟨nS, hnS, hp, hlo, hrY, hrc⟩ | ⟨l, nS, hlo, hst1, hpe, hnS, hh⟩
    · refine ⟨_, hlo, (fun q => by cases q), .normal, rfl, ?_⟩
      simp only [bP, true_and]
      refine ⟨nS, by omega, .inl ⟨L.length, Nat.le_trans (List.countP_le_length) (Nat.le_refl _), hst nS _ _ _ _ _ (by omega) (by omega) hp, fun hk => absurd hk (Nat.lt_irrefl _)⟩⟩
    · refine ⟨_, hlo, (fun q => by rw [hst1] at q; cases q), .ret, by rw [hpe], ?_⟩
      simp only [bP, true_and]
      refine ⟨nS, by omega, ?_⟩
      rcases hh with ⟨k, hk1, hk2, hk3⟩ | hr
      · exact .inl ⟨k, hk1, hst nS _ _ _ _ _ (by omega) (by omega) hk2, hk3⟩
      · exact .inr (hsr nS _ _ _ _ (by omega) (by omega) hr)
noncomputable def L37 (tm : List a9) : lE := { state := .ready, pending := none, fn := 37, tmps := tm, params := [13], assign := LD, body := L8 }
def fnd (L : List Ver) (p k : Nat) (z : Int) : Option Ver := (((L.take k).drop p).filter fun v => gB v z).getLast?
theorem ZF (L : List Ver) (p : Nat) (z : Int) : fnd L p p z = none := by
  unfold fnd
  rw [List.drop_eq_nil_of_le (by rw [List.length_take]; omega)]; rfl
theorem SN {L : List Ver} {p k : Nat} (hp : p ≤ k) (hk : k < L.length) (z : Int) : fnd L p (k + 1) z = if gB L[k] z then some L[k] else fnd L p k z := by
  unfold fnd
  rw [List.take_add_one, List.getElem?_eq_getElem hk, List.drop_append_of_le_length (by rw [List.length_take]; omega), List.filter_append]
  by_cases c : gB L[k] z = true
  · rw [if_pos c]; simp [c]
  · rw [if_neg c]; simp [c]
theorem RD {L : List Ver} {p k : Nat} {z : Int} {w : Ver} (h : fnd L p k z = some w) : w ∈ L := by
  have := List.mem_of_getLast? h
  exact List.mem_of_mem_take (List.mem_of_mem_drop (List.mem_filter.1 this).1)
theorem aE5 : build env 31 [] = M.pure (.agg fX.i.zero.cells) := rfl
def XL (H : Hp) (D : Nat → Prop) (c : a9) (o : Option Ver) : Prop := (c = .dP ∧ o = none) ∨ ∃ id sv w, c = .ptr id 0 ∧ o = some w ∧ At H id sv w ∧ D id ∧ ∀ j, bB sv = some j → D j
structure P37 (H6 : Hp) (n : Nat) (D : Nat → Prop) (L : List Ver) (aO : List UInt8) (pn z : Int) (lo : lE) (nS k : Nat) (h1 : Hp) (n1 : Nat) : Prop where
  fr : bG h1 n1
  ns : nS ≤ n1
  kp : ∀ j, j < n + 1 + 1 + 1 + 1 + 1 + 1 + 1 → j ≠ n + 1 + 1 + 1 → j ≠ n + 1 + 1 + 1 + 1 + 1 + 1 → h1 j = H6 j
  lp : h1 (n + 1 + 1 + 1 + 1 + 1 + 1) = some (.loop lo)
  cl : ∃ c, h1 (n + 1 + 1 + 1) = some (.row (.l [c]) 128) ∧ XL H6 D c (fnd L (pos false L (key aO pn 0)) k z)
  sm : ∀ i (hi : i < L.length), pos false L (key aO pn 0) ≤ i → i < k → same aO pn L[i] = true
end Go.Am.Ytlgebaofkolkoaa
