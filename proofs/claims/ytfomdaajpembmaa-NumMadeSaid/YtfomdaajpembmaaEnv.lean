import Derived.Test.YtfomdaajpembmaaAoI
import Derived.KernelRfl
import Derived.Test.YtfomdaajpembmaaProg
set_option maxRecDepth 100000
set_option linter.defProp false
namespace Go.Am.Ytfomdaajpembmaa
open Go Go.Am Go.Proofs
noncomputable def ty0 : TE Try.prog := ⟨0, ⟨Try.t0.desc, 1, 0, .tup []⟩, ⟨⟨Try.t0, _, rfl, rfl, rfl, rfl, rfl⟩, rfl, rfl, Try.underlying0⟩⟩
noncomputable def ty1 : TE Try.prog := ⟨1, ⟨Try.t1.desc, 1, 8, .nilf⟩, ⟨⟨Try.t1, _, rfl, rfl, rfl, rfl, rfl⟩, rfl, rfl, Try.underlying1⟩⟩
noncomputable def ty2 : TE Try.prog := ⟨2, ⟨Try.t2.desc, 1, 8, .int .i64 (0)⟩, ⟨⟨Try.t2, _, rfl, rfl, rfl, rfl, rfl⟩, rfl, rfl, Try.underlying2⟩⟩
noncomputable def ty3 : TE Try.prog := ⟨3, ⟨Try.t3.desc, 1, 8, .int .i64 (0)⟩, ⟨⟨Try.t3, _, rfl, rfl, rfl, rfl, rfl⟩, rfl, rfl, Try.underlying3⟩⟩
noncomputable def ty4 : TE Try.prog := ⟨4, ⟨Try.t4.desc, 1, 1, .bool false⟩, ⟨⟨Try.t4, _, rfl, rfl, rfl, rfl, rfl⟩, rfl, rfl, Try.underlying4⟩⟩
noncomputable def ty5 : TE Try.prog := ⟨5, ⟨Try.t5.desc, 1, 1, .int .u8 (0)⟩, ⟨⟨Try.t5, _, rfl, rfl, rfl, rfl, rfl⟩, rfl, rfl, Try.underlying5⟩⟩
noncomputable def ty6 : TE Try.prog := ⟨6, ⟨Try.t5.desc, 1, 1, .int .u8 (0)⟩, ⟨⟨Try.t6, _, rfl, rfl, rfl, rfl, rfl⟩, rfl, rfl, Try.underlying6⟩⟩
noncomputable def ty7 : TE Try.prog := ⟨7, ⟨Try.t7.desc, 4, 24, .agg [.int .i64 (0), .int .i64 (0), .bool false, .int .u8 (0)]⟩, ⟨⟨Try.t7, _, rfl, rfl, rfl, rfl, rfl⟩, rfl, rfl, Try.underlying7⟩⟩
noncomputable def ty8 : TE Try.prog := ⟨8, ⟨Try.t7.desc, 4, 24, .agg [.int .i64 (0), .int .i64 (0), .bool false, .int .u8 (0)]⟩, ⟨⟨Try.t8, _, rfl, rfl, rfl, rfl, rfl⟩, rfl, rfl, Try.underlying8⟩⟩
noncomputable def ty9 : TE Try.prog := ⟨9, ⟨Try.t9.desc, 1, 16, .str []⟩, ⟨⟨Try.t9, _, rfl, rfl, rfl, rfl, rfl⟩, rfl, rfl, Try.underlying9⟩⟩
noncomputable def ty10 : TE Try.prog := ⟨10, ⟨Try.t9.desc, 1, 16, .str []⟩, ⟨⟨Try.t10, _, rfl, rfl, rfl, rfl, rfl⟩, rfl, rfl, Try.underlying10⟩⟩
noncomputable def ty11 : TE Try.prog := ⟨11, ⟨Try.t9.desc, 1, 16, .str []⟩, ⟨⟨Try.t11, _, rfl, rfl, rfl, rfl, rfl⟩, rfl, rfl, Try.underlying11⟩⟩
noncomputable def ty12 : TE Try.prog := ⟨12, ⟨Try.t12.desc, 1, 8, .int .u64 (0)⟩, ⟨⟨Try.t12, _, rfl, rfl, rfl, rfl, rfl⟩, rfl, rfl, Try.underlying12⟩⟩
noncomputable def ty13 : TE Try.prog := ⟨13, ⟨Try.t13.desc, 2, 24, .agg [.str [], .int .u64 (0)]⟩, ⟨⟨Try.t13, _, rfl, rfl, rfl, rfl, rfl⟩, rfl, rfl, Try.underlying13⟩⟩
noncomputable def ty14 : TE Try.prog := ⟨14, ⟨Try.t13.desc, 2, 24, .agg [.str [], .int .u64 (0)]⟩, ⟨⟨Try.t14, _, rfl, rfl, rfl, rfl, rfl⟩, rfl, rfl, Try.underlying14⟩⟩
noncomputable def ty15 : TE Try.prog := ⟨15, ⟨Try.t15.desc, 1, 8, .nilp⟩, ⟨⟨Try.t15, _, rfl, rfl, rfl, rfl, rfl⟩, rfl, rfl, Try.underlying15⟩⟩
noncomputable def ty16 : TE Try.prog := ⟨16, ⟨Try.t16.desc, 1, 8, .nilp⟩, ⟨⟨Try.t16, _, rfl, rfl, rfl, rfl, rfl⟩, rfl, rfl, Try.underlying16⟩⟩
noncomputable def ty17 : TE Try.prog := ⟨17, ⟨Try.t17.desc, 1, 8, .nilp⟩, ⟨⟨Try.t17, _, rfl, rfl, rfl, rfl, rfl⟩, rfl, rfl, Try.underlying17⟩⟩
noncomputable def ty18 : TE Try.prog := ⟨18, ⟨Try.t18.desc, 1, 8, .agg [.nilp]⟩, ⟨⟨Try.t18, _, rfl, rfl, rfl, rfl, rfl⟩, rfl, rfl, Try.underlying18⟩⟩
noncomputable def ty19 : TE Try.prog := ⟨19, ⟨Try.t18.desc, 1, 8, .agg [.nilp]⟩, ⟨⟨Try.t19, _, rfl, rfl, rfl, rfl, rfl⟩, rfl, rfl, Try.underlying19⟩⟩
noncomputable def ty20 : TE Try.prog := ⟨20, ⟨Try.t20.desc, 1, 16, .nili⟩, ⟨⟨Try.t20, _, rfl, rfl, rfl, rfl, rfl⟩, rfl, rfl, Try.underlying20⟩⟩
noncomputable def ty21 : TE Try.prog := ⟨21, ⟨Try.t21.desc, 1, 4, .int .i32 (0)⟩, ⟨⟨Try.t21, _, rfl, rfl, rfl, rfl, rfl⟩, rfl, rfl, Try.underlying21⟩⟩
noncomputable def ty22 : TE Try.prog := ⟨22, ⟨Try.t22.desc, 1, 24, .nils⟩, ⟨⟨Try.t22, _, rfl, rfl, rfl, rfl, rfl⟩, rfl, rfl, Try.underlying22⟩⟩
noncomputable def ty23 : TE Try.prog := ⟨23, ⟨Try.t23.desc, 1, 8, .nilf⟩, ⟨⟨Try.t23, _, rfl, rfl, rfl, rfl, rfl⟩, rfl, rfl, Try.underlying23⟩⟩
noncomputable def ty24 : TE Try.prog := ⟨24, ⟨Try.t3.desc, 1, 8, .int .i64 (0)⟩, ⟨⟨Try.t24, _, rfl, rfl, rfl, rfl, rfl⟩, rfl, rfl, Try.underlying24⟩⟩
noncomputable def ty25 : TE Try.prog := ⟨25, ⟨Try.t25.desc, 1, 0, .tup [.nils, .int .i64 (0)]⟩, ⟨⟨Try.t25, _, rfl, rfl, rfl, rfl, rfl⟩, rfl, rfl, Try.underlying25⟩⟩
noncomputable def ty26 : TE Try.prog := ⟨26, ⟨Try.t26.desc, 1, 8, .nilf⟩, ⟨⟨Try.t26, _, rfl, rfl, rfl, rfl, rfl⟩, rfl, rfl, Try.underlying26⟩⟩
noncomputable def ty27 : TE Try.prog := ⟨27, ⟨Try.t27.desc, 1, 0, .tup [.int .i64 (0), .int .i64 (0)]⟩, ⟨⟨Try.t27, _, rfl, rfl, rfl, rfl, rfl⟩, rfl, rfl, Try.underlying27⟩⟩
noncomputable def ty28 : TE Try.prog := ⟨28, ⟨Try.t28.desc, 1, 8, .nilf⟩, ⟨⟨Try.t28, _, rfl, rfl, rfl, rfl, rfl⟩, rfl, rfl, Try.underlying28⟩⟩
noncomputable def ty29 : TE Try.prog := ⟨29, ⟨Try.t29.desc, 1, 8, .nilf⟩, ⟨⟨Try.t29, _, rfl, rfl, rfl, rfl, rfl⟩, rfl, rfl, Try.underlying29⟩⟩
noncomputable def ty30 : TE Try.prog := ⟨30, ⟨Try.t30.desc, 1, 8, .nilf⟩, ⟨⟨Try.t30, _, rfl, rfl, rfl, rfl, rfl⟩, rfl, rfl, Try.underlying30⟩⟩
noncomputable def ty31 : TE Try.prog := ⟨31, ⟨Try.t31.desc, 1, 0, .tup [.nils, .int .i64 (0)]⟩, ⟨⟨Try.t31, _, rfl, rfl, rfl, rfl, rfl⟩, rfl, rfl, Try.underlying31⟩⟩
noncomputable def ty32 : TE Try.prog := ⟨32, ⟨Try.t32.desc, 1, 8, .nilf⟩, ⟨⟨Try.t32, _, rfl, rfl, rfl, rfl, rfl⟩, rfl, rfl, Try.underlying32⟩⟩
noncomputable def ty33 : TE Try.prog := ⟨33, ⟨Try.t33.desc, 1, 0, .tup [.int .i64 (0), .int .i64 (0)]⟩, ⟨⟨Try.t33, _, rfl, rfl, rfl, rfl, rfl⟩, rfl, rfl, Try.underlying33⟩⟩
noncomputable def ty34 : TE Try.prog := ⟨34, ⟨Try.t34.desc, 1, 8, .nilf⟩, ⟨⟨Try.t34, _, rfl, rfl, rfl, rfl, rfl⟩, rfl, rfl, Try.underlying34⟩⟩
noncomputable def ty35 : TE Try.prog := ⟨35, ⟨Try.t35.desc, 1, 8, .nilf⟩, ⟨⟨Try.t35, _, rfl, rfl, rfl, rfl, rfl⟩, rfl, rfl, Try.underlying35⟩⟩
noncomputable def ty36 : TE Try.prog := ⟨36, ⟨Try.t36.desc, 1, 8, .nilf⟩, ⟨⟨Try.t36, _, rfl, rfl, rfl, rfl, rfl⟩, rfl, rfl, Try.underlying36⟩⟩
noncomputable def ty37 : TE Try.prog := ⟨37, ⟨Try.t37.desc, 1, 8, .nilf⟩, ⟨⟨Try.t37, _, rfl, rfl, rfl, rfl, rfl⟩, rfl, rfl, Try.underlying37⟩⟩
noncomputable def ty38 : TE Try.prog := ⟨38, ⟨Try.t38.desc, 1, 8, .nilf⟩, ⟨⟨Try.t38, _, rfl, rfl, rfl, rfl, rfl⟩, rfl, rfl, Try.underlying38⟩⟩
noncomputable def ty39 : TE Try.prog := ⟨39, ⟨Try.t39.desc, 1, 8, .nilf⟩, ⟨⟨Try.t39, _, rfl, rfl, rfl, rfl, rfl⟩, rfl, rfl, Try.underlying39⟩⟩
noncomputable def ty40 : TE Try.prog := ⟨40, ⟨Try.t40.desc, 1, 8, .nilf⟩, ⟨⟨Try.t40, _, rfl, rfl, rfl, rfl, rfl⟩, rfl, rfl, Try.underlying40⟩⟩
noncomputable def ty41 : TE Try.prog := ⟨41, ⟨Try.t41.desc, 1, 8, .nilf⟩, ⟨⟨Try.t41, _, rfl, rfl, rfl, rfl, rfl⟩, rfl, rfl, Try.underlying41⟩⟩
noncomputable def ty42 : TE Try.prog := ⟨42, ⟨Try.t42.desc, 1, 8, .nilf⟩, ⟨⟨Try.t42, _, rfl, rfl, rfl, rfl, rfl⟩, rfl, rfl, Try.underlying42⟩⟩
noncomputable def ty43 : TE Try.prog := ⟨43, ⟨Try.t43.desc, 1, 8, .nilf⟩, ⟨⟨Try.t43, _, rfl, rfl, rfl, rfl, rfl⟩, rfl, rfl, Try.underlying43⟩⟩
noncomputable def ty44 : TE Try.prog := ⟨44, ⟨Try.t44.desc, 8, 64, .agg [.int .i64 (0), .int .i64 (0), .int .i64 (0), .int .i64 (0), .int .i64 (0), .int .i64 (0), .int .i64 (0), .int .i64 (0)]⟩, ⟨⟨Try.t44, _, rfl, rfl, rfl, rfl, rfl⟩, rfl, rfl, Try.underlying44⟩⟩
noncomputable def ty45 : TE Try.prog := ⟨45, ⟨Try.t45.desc, 1, 8, .nilf⟩, ⟨⟨Try.t45, _, rfl, rfl, rfl, rfl, rfl⟩, rfl, rfl, Try.underlying45⟩⟩
noncomputable def ty46 : TE Try.prog := ⟨46, ⟨Try.t46.desc, 1, 8, .nilf⟩, ⟨⟨Try.t46, _, rfl, rfl, rfl, rfl, rfl⟩, rfl, rfl, Try.underlying46⟩⟩
noncomputable def ty47 : TE Try.prog := ⟨47, ⟨Try.t47.desc, 1, 8, .nilf⟩, ⟨⟨Try.t47, _, rfl, rfl, rfl, rfl, rfl⟩, rfl, rfl, Try.underlying47⟩⟩
noncomputable def ty48 : TE Try.prog := ⟨48, ⟨Try.t48.desc, 1, 8, .nilf⟩, ⟨⟨Try.t48, _, rfl, rfl, rfl, rfl, rfl⟩, rfl, rfl, Try.underlying48⟩⟩
noncomputable def ty49 : TE Try.prog := ⟨49, ⟨Try.t49.desc, 3, 24, .agg [.int .u8 (0), .int .i64 (0), .int .i64 (0)]⟩, ⟨⟨Try.t49, _, rfl, rfl, rfl, rfl, rfl⟩, rfl, rfl, Try.underlying49⟩⟩
noncomputable def ty50 : TE Try.prog := ⟨50, ⟨Try.t50.desc, 1, 24, .nils⟩, ⟨⟨Try.t50, _, rfl, rfl, rfl, rfl, rfl⟩, rfl, rfl, Try.underlying50⟩⟩
noncomputable def ty51 : TE Try.prog := ⟨51, ⟨Try.t51.desc, 4, 32, .agg [.int .u8 (0), .int .i64 (0), .int .i64 (0), .int .i64 (0)]⟩, ⟨⟨Try.t51, _, rfl, rfl, rfl, rfl, rfl⟩, rfl, rfl, Try.underlying51⟩⟩
noncomputable def ty52 : TE Try.prog := ⟨52, ⟨Try.t52.desc, 1, 24, .nils⟩, ⟨⟨Try.t52, _, rfl, rfl, rfl, rfl, rfl⟩, rfl, rfl, Try.underlying52⟩⟩
noncomputable def ty53 : TE Try.prog := ⟨53, ⟨Try.t53.desc, 1, 8, .nilf⟩, ⟨⟨Try.t53, _, rfl, rfl, rfl, rfl, rfl⟩, rfl, rfl, Try.underlying53⟩⟩
noncomputable def ty54 : TE Try.prog := ⟨54, ⟨Try.t54.desc, 1, 8, .nilf⟩, ⟨⟨Try.t54, _, rfl, rfl, rfl, rfl, rfl⟩, rfl, rfl, Try.underlying54⟩⟩
noncomputable def ty55 : TE Try.prog := ⟨55, ⟨Try.t55.desc, 1, 8, .nilf⟩, ⟨⟨Try.t55, _, rfl, rfl, rfl, rfl, rfl⟩, rfl, rfl, Try.underlying55⟩⟩
noncomputable def ty56 : TE Try.prog := ⟨56, ⟨Try.t56.desc, 1, 8, .nilf⟩, ⟨⟨Try.t56, _, rfl, rfl, rfl, rfl, rfl⟩, rfl, rfl, Try.underlying56⟩⟩
noncomputable def ty57 : TE Try.prog := ⟨57, ⟨Try.t57.desc, 1, 8, .nilf⟩, ⟨⟨Try.t57, _, rfl, rfl, rfl, rfl, rfl⟩, rfl, rfl, Try.underlying57⟩⟩
noncomputable def ty58 : TE Try.prog := ⟨58, ⟨Try.t58.desc, 1, 8, .nilf⟩, ⟨⟨Try.t58, _, rfl, rfl, rfl, rfl, rfl⟩, rfl, rfl, Try.underlying58⟩⟩
noncomputable def ty59 : TE Try.prog := ⟨59, ⟨Try.t2.desc, 1, 8, .int .i64 (0)⟩, ⟨⟨Try.t59, _, rfl, rfl, rfl, rfl, rfl⟩, rfl, rfl, Try.underlying59⟩⟩
noncomputable def ty60 : TE Try.prog := ⟨60, ⟨Try.t60.desc, 1, 8, .nilf⟩, ⟨⟨Try.t60, _, rfl, rfl, rfl, rfl, rfl⟩, rfl, rfl, Try.underlying60⟩⟩
noncomputable def ty61 : TE Try.prog := ⟨61, ⟨Try.t61.desc, 1, 8, .nilf⟩, ⟨⟨Try.t61, _, rfl, rfl, rfl, rfl, rfl⟩, rfl, rfl, Try.underlying61⟩⟩
noncomputable def ty62 : TE Try.prog := ⟨62, ⟨Try.t62.desc, 1, 8, .nilf⟩, ⟨⟨Try.t62, _, rfl, rfl, rfl, rfl, rfl⟩, rfl, rfl, Try.underlying62⟩⟩
noncomputable def ty63 : TE Try.prog := ⟨63, ⟨Try.t62.desc, 1, 8, .nilf⟩, ⟨⟨Try.t63, _, rfl, rfl, rfl, rfl, rfl⟩, rfl, rfl, Try.underlying63⟩⟩
noncomputable def ty64 : TE Try.prog := ⟨64, ⟨Try.t64.desc, 1, 8, .nilf⟩, ⟨⟨Try.t64, _, rfl, rfl, rfl, rfl, rfl⟩, rfl, rfl, Try.underlying64⟩⟩
noncomputable def ty65 : TE Try.prog := ⟨65, ⟨Try.t65.desc, 1, 8, .int .u64 (0)⟩, ⟨⟨Try.t65, _, rfl, rfl, rfl, rfl, rfl⟩, rfl, rfl, Try.underlying65⟩⟩
noncomputable def ty66 : TE Try.prog := ⟨66, ⟨Try.t66.desc, 1, 8, .nilf⟩, ⟨⟨Try.t66, _, rfl, rfl, rfl, rfl, rfl⟩, rfl, rfl, Try.underlying66⟩⟩
noncomputable def ty67 : TE Try.prog := ⟨67, ⟨Try.t67.desc, 1, 8, .nilf⟩, ⟨⟨Try.t67, _, rfl, rfl, rfl, rfl, rfl⟩, rfl, rfl, Try.underlying67⟩⟩
noncomputable def ty68 : TE Try.prog := ⟨68, ⟨Try.t68.desc, 1, 8, .nilf⟩, ⟨⟨Try.t68, _, rfl, rfl, rfl, rfl, rfl⟩, rfl, rfl, Try.underlying68⟩⟩
noncomputable def ty69 : TE Try.prog := ⟨69, ⟨Try.t69.desc, 1, 8, .int .u64 (0)⟩, ⟨⟨Try.t69, _, rfl, rfl, rfl, rfl, rfl⟩, rfl, rfl, Try.underlying69⟩⟩
noncomputable def ty70 : TE Try.prog := ⟨70, ⟨Try.t70.desc, 1, 8, .nilf⟩, ⟨⟨Try.t70, _, rfl, rfl, rfl, rfl, rfl⟩, rfl, rfl, Try.underlying70⟩⟩
noncomputable def ty71 : TE Try.prog := ⟨71, ⟨Try.t71.desc, 4, 40, .agg [.nilp, .nilp, .nilp, .str []]⟩, ⟨⟨Try.t71, _, rfl, rfl, rfl, rfl, rfl⟩, rfl, rfl, Try.underlying71⟩⟩
noncomputable def ty72 : TE Try.prog := ⟨72, ⟨Try.t71.desc, 4, 40, .agg [.nilp, .nilp, .nilp, .str []]⟩, ⟨⟨Try.t72, _, rfl, rfl, rfl, rfl, rfl⟩, rfl, rfl, Try.underlying72⟩⟩
noncomputable def ty73 : TE Try.prog := ⟨73, ⟨Try.t73.desc, 0, 0, .agg []⟩, ⟨⟨Try.t73, _, rfl, rfl, rfl, rfl, rfl⟩, rfl, rfl, Try.underlying73⟩⟩
noncomputable def ty74 : TE Try.prog := ⟨74, ⟨Try.t74.desc, 0, 0, .agg []⟩, ⟨⟨Try.t74, _, rfl, rfl, rfl, rfl, rfl⟩, rfl, rfl, Try.underlying74⟩⟩
noncomputable def ty75 : TE Try.prog := ⟨75, ⟨Try.t74.desc, 0, 0, .agg []⟩, ⟨⟨Try.t75, _, rfl, rfl, rfl, rfl, rfl⟩, rfl, rfl, Try.underlying75⟩⟩
noncomputable def ty76 : TE Try.prog := ⟨76, ⟨Try.t76.desc, 1, 8, .nilf⟩, ⟨⟨Try.t76, _, rfl, rfl, rfl, rfl, rfl⟩, rfl, rfl, Try.underlying76⟩⟩
noncomputable def ty77 : TE Try.prog := ⟨77, ⟨Try.t77.desc, 1, 4, .int .u32 (0)⟩, ⟨⟨Try.t77, _, rfl, rfl, rfl, rfl, rfl⟩, rfl, rfl, Try.underlying77⟩⟩
noncomputable def ty78 : TE Try.prog := ⟨78, ⟨Try.t5.desc, 1, 1, .int .u8 (0)⟩, ⟨⟨Try.t78, _, rfl, rfl, rfl, rfl, rfl⟩, rfl, rfl, Try.underlying78⟩⟩
noncomputable def ty79 : TE Try.prog := ⟨79, ⟨Try.t5.desc, 1, 1, .int .u8 (0)⟩, ⟨⟨Try.t79, _, rfl, rfl, rfl, rfl, rfl⟩, rfl, rfl, Try.underlying79⟩⟩
noncomputable def ty80 : TE Try.prog := ⟨80, ⟨Try.t80.desc, 1, 8, .nilf⟩, ⟨⟨Try.t80, _, rfl, rfl, rfl, rfl, rfl⟩, rfl, rfl, Try.underlying80⟩⟩
noncomputable def ty81 : TE Try.prog := ⟨81, ⟨Try.t81.desc, 1, 8, .nilp⟩, ⟨⟨Try.t81, _, rfl, rfl, rfl, rfl, rfl⟩, rfl, rfl, Try.underlying81⟩⟩
noncomputable def ty82 : TE Try.prog := ⟨82, ⟨Try.t21.desc, 1, 4, .int .i32 (0)⟩, ⟨⟨Try.t82, _, rfl, rfl, rfl, rfl, rfl⟩, rfl, rfl, Try.underlying82⟩⟩
noncomputable def ty83 : TE Try.prog := ⟨83, ⟨Try.t21.desc, 1, 4, .int .i32 (0)⟩, ⟨⟨Try.t83, _, rfl, rfl, rfl, rfl, rfl⟩, rfl, rfl, Try.underlying83⟩⟩
noncomputable def ty84 : TE Try.prog := ⟨84, ⟨Try.t84.desc, 11, 48, .agg [.int .u64 (0), .int .u64 (0), .int .u32 (0), .int .u8 (0), .int .u8 (0), .int .u8 (0), .int .u8 (0), .nilf, .nilp, .int .i32 (0), .int .i32 (0)]⟩, ⟨⟨Try.t84, _, rfl, rfl, rfl, rfl, rfl⟩, rfl, rfl, Try.underlying84⟩⟩
noncomputable def ty85 : TE Try.prog := ⟨85, ⟨Try.t84.desc, 11, 48, .agg [.int .u64 (0), .int .u64 (0), .int .u32 (0), .int .u8 (0), .int .u8 (0), .int .u8 (0), .int .u8 (0), .nilf, .nilp, .int .i32 (0), .int .i32 (0)]⟩, ⟨⟨Try.t85, _, rfl, rfl, rfl, rfl, rfl⟩, rfl, rfl, Try.underlying85⟩⟩
noncomputable def ty86 : TE Try.prog := ⟨86, ⟨Try.t86.desc, 1, 8, .nilp⟩, ⟨⟨Try.t86, _, rfl, rfl, rfl, rfl, rfl⟩, rfl, rfl, Try.underlying86⟩⟩
noncomputable def fu2 : FE Try.prog := ⟨2, ⟨Try.f2.body.getD .skip, 1, [], some [false]⟩, ⟨⟨Try.f2, Try.func2, rfl, rfl, rfl⟩, Try.call2⟩⟩
noncomputable def fu3 : FE Try.prog := ⟨3, ⟨Try.f3.body.getD .skip, 114, [.tmp 4], some [true, true, false, false, true, true, true, true, true, true, true, true, true, true, true, false, false, false, false, false, false, false, true, false, false, false, false, false, false, false, true, false, false, false, false, false, false, false, false, false, false, false, false, false, false, false, false, false, false, false, false, false, false, false, false, false, false, false, false, false, false, false, false, false, false, false, false, false, false, false, false, false, false, true, false, false, false, false, false, false, true, false, false, false, false, false, false, false, false, false, false, false, false, false, false, false, false, false, false, false, false, false, false, false, false, false, false, false, false, false, false, false, false, false]⟩, ⟨⟨Try.f3, Try.func3, rfl, rfl, rfl⟩, Try.call3⟩⟩
noncomputable def fu4 : FE Try.prog := ⟨4, ⟨Try.f4.body.getD .skip, 94, [.tmp 6], some [true, true, true, false, false, false, true, true, true, true, true, true, true, true, true, true, false, false, true, false, false, false, false, false, false, false, false, false, false, false, false, false, false, false, false, false, false, false, false, false, false, false, false, false, false, false, false, false, false, false, false, false, false, false, false, false, false, false, false, false, false, false, false, false, false, false, false, false, false, false, false, false, false, false, false, false, false, false, false, false, false, false, false, false, false, false, false, false, false, false, false, false, false, false]⟩, ⟨⟨Try.f4, Try.func4, rfl, rfl, rfl⟩, Try.call4⟩⟩
noncomputable def fu5 : FE Try.prog := ⟨5, ⟨Try.f5.body.getD .skip, 79, [.tmp 8], some [true, true, true, true, false, false, false, false, true, true, true, true, true, true, true, true, true, false, false, false, false, false, false, false, false, false, false, false, false, false, false, false, false, false, false, false, false, false, false, false, false, false, false, false, false, false, false, false, false, false, false, false, false, false, false, false, false, false, false, false, false, false, false, false, false, false, false, false, false, false, false, false, false, false, false, false, false, false, false]⟩, ⟨⟨Try.f5, Try.func5, rfl, rfl, rfl⟩, Try.call5⟩⟩
noncomputable def fu6 : FE Try.prog := ⟨6, ⟨Try.f6.body.getD .skip, 129, [.tmp 6], some [true, true, true, false, false, false, true, true, true, true, true, true, true, true, true, true, true, false, false, false, false, false, false, false, true, true, true, true, false, false, false, false, false, false, false, false, false, false, false, true, false, false, false, false, false, false, false, false, false, false, false, false, false, false, false, false, false, false, false, false, false, false, false, false, false, false, false, false, false, false, false, false, false, false, false, false, false, false, false, false, false, false, false, false, false, false, false, false, false, false, false, false, false, false, false, false, false, false, false, false, false, false, false, false, false, false, false, false, false, false, false, false, false, false, false, false, false, false, false, false, false, false, false, false, false, false, false, false, false]⟩, ⟨⟨Try.f6, Try.func6, rfl, rfl, rfl⟩, Try.call6⟩⟩
noncomputable def fu7 : FE Try.prog := ⟨7, ⟨Try.f7.body.getD .skip, 134, [.tmp 4], some [true, true, false, false, true, true, true, true, true, true, true, true, true, true, true, true, true, true, true, true, false, false, false, false, false, false, false, false, false, false, false, false, false, false, false, false, false, false, false, false, false, false, false, false, false, false, false, false, false, false, false, false, false, false, false, false, false, false, false, false, false, false, false, false, false, false, false, false, false, false, false, false, false, false, false, false, false, false, false, false, false, false, false, false, false, false, false, false, false, false, false, false, false, false, false, false, false, false, false, false, false, false, false, false, false, false, false, false, false, false, false, false, false, false, false, false, false, false, false, false, false, false, false, false, false, false, false, false, false, false, false, false, true, false]⟩, ⟨⟨Try.f7, Try.func7, rfl, rfl, rfl⟩, Try.call7⟩⟩
noncomputable def fu8 : FE Try.prog := ⟨8, ⟨Try.f8.body.getD .skip, 111, [.tmp 6], some [true, true, true, false, false, false, true, true, true, true, true, true, true, true, false, false, false, false, false, false, false, false, false, false, false, false, false, true, false, false, false, false, false, false, false, false, false, false, false, false, false, false, true, false, false, false, false, false, false, false, false, false, false, false, false, false, false, false, false, false, false, false, false, false, false, false, false, false, false, false, false, false, false, false, true, false, false, false, false, false, false, false, false, false, false, false, false, false, false, false, false, false, false, false, false, false, false, false, false, false, false, false, false, false, false, false, false, false, false, false, false]⟩, ⟨⟨Try.f8, Try.func8, rfl, rfl, rfl⟩, Try.call8⟩⟩
noncomputable def fu9 : FE Try.prog := ⟨9, ⟨Try.f9.body.getD .skip, 271, [.tmp 0], some [true, true, true, true, false, true, false, true, true, true, true, true, false, true, true, true, false, true, true, true, false, true, false, true, false, true, false, true, false, true, false, false, false, false, false, false, false, false, false, false, false, false, false, false, false, false, false, false, false, false, false, false, false, false, false, false, false, false, false, false, false, false, false, false, false, false, false, false, false, false, false, false, false, false, false, false, false, false, false, false, false, false, false, false, false, false, false, false, false, false, false, false, false, false, false, false, false, false, false, false, false, false, false, false, false, false, false, false, false, false, false, false, false, false, false, false, false, false, false, false, false, false, false, true, true, true, true, false, false, false, false, false, false, false, false, false, false, false, false, false, false, false, false, false, false, false, false, false, false, false, false, false, false, false, false, false, false, false, false, false, false, false, false, false, false, false, false, false, false, false, true, true, true, true, false, false, false, false, false, false, false, false, false, false, false, false, false, false, false, false, false, false, false, false, false, false, false, false, false, false, false, false, false, false, false, false, false, false, false, false, false, false, false, false, false, false, false, false, false, false, false, false, false, false, false, false, false, false, false, false, false, false, false, false, false, false, false, false, false, false, false, false, false, false, false, false, false, false, false, false, false, false, false, false, false, false, false, false, false, false, false, false, false, false, false, false, false, false, false, false, false]⟩, ⟨⟨Try.f9, Try.func9, rfl, rfl, rfl⟩, Try.call9⟩⟩
noncomputable def fu10 : FE Try.prog := ⟨10, ⟨Try.f10.body.getD .skip, 26, [.tmp 0], some [true, false, false, false, false, false, false, false, false, false, false, false, false, false, false, false, false, false, false, false, false, false, false, false, false, false]⟩, ⟨⟨Try.f10, Try.func10, rfl, rfl, rfl⟩, Try.call10⟩⟩
noncomputable def fu11 : FE Try.prog := ⟨11, ⟨Try.f11.body.getD .skip, 12, [.tmp 2, .tmp 3], some [true, false, true, true, false, false, false, false, false, true, false, false]⟩, ⟨⟨Try.f11, Try.func11, rfl, rfl, rfl⟩, Try.call11⟩⟩
noncomputable def fu12 : FE Try.prog := ⟨12, ⟨Try.f12.body.getD .skip, 47, [.tmp 2, .tmp 3], some [true, false, true, true, true, true, true, true, false, false, true, true, true, true, true, false, false, false, false, false, false, false, false, false, false, false, false, true, false, false, false, false, false, false, false, false, false, false, false, false, false, false, false, false, false, true, false]⟩, ⟨⟨Try.f12, Try.func12, rfl, rfl, rfl⟩, Try.call12⟩⟩
noncomputable def fu13 : FE Try.prog := ⟨13, ⟨Try.f13.body.getD .skip, 26, [.tmp 2], some [true, false, true, true, true, true, true, true, true, false, false, false, false, false, false, false, false, false, false, false, false, false, false, false, true, false]⟩, ⟨⟨Try.f13, Try.func13, rfl, rfl, rfl⟩, Try.call13⟩⟩
noncomputable def fu14 : FE Try.prog := ⟨14, ⟨Try.f14.body.getD .skip, 12, [.tmp 2, .tmp 3], some [true, false, true, true, false, false, false, false, false, true, false, false]⟩, ⟨⟨Try.f14, Try.func14, rfl, rfl, rfl⟩, Try.call14⟩⟩
noncomputable def fu15 : FE Try.prog := ⟨15, ⟨Try.f15.body.getD .skip, 51, [.tmp 2, .tmp 3], some [true, false, true, true, true, true, true, true, true, false, false, true, false, false, false, true, false, false, false, false, false, false, false, false, false, false, false, false, false, false, false, true, false, false, false, false, false, false, false, false, false, true, false, false, false, false, false, false, false, true, false]⟩, ⟨⟨Try.f15, Try.func15, rfl, rfl, rfl⟩, Try.call15⟩⟩
noncomputable def fu16 : FE Try.prog := ⟨16, ⟨Try.f16.body.getD .skip, 27, [.tmp 2], some [true, false, true, true, false, false, false, true, false, false, false, false, false, false, false, false, false, false, false, false, false, true, false, false, false, false, true]⟩, ⟨⟨Try.f16, Try.func16, rfl, rfl, rfl⟩, Try.call16⟩⟩
noncomputable def fu17 : FE Try.prog := ⟨17, ⟨Try.f17.body.getD .skip, 6, [.tmp 2], some [true, false, true, false, false, false]⟩, ⟨⟨Try.f17, Try.func17, rfl, rfl, rfl⟩, Try.call17⟩⟩
noncomputable def fu18 : FE Try.prog := ⟨18, ⟨Try.f18.body.getD .skip, 6, [.tmp 2], some [true, false, true, false, false, false]⟩, ⟨⟨Try.f18, Try.func18, rfl, rfl, rfl⟩, Try.call18⟩⟩
noncomputable def fu19 : FE Try.prog := ⟨19, ⟨Try.f19.body.getD .skip, 19, [.tmp 4, .tmp 5], some [true, true, false, false, true, true, true, false, false, true, false, false, true, false, false, false, false, false, false]⟩, ⟨⟨Try.f19, Try.func19, rfl, rfl, rfl⟩, Try.call19⟩⟩
noncomputable def fu20 : FE Try.prog := ⟨20, ⟨Try.f20.body.getD .skip, 42, [.tmp 4, .tmp 5], some [true, true, false, false, true, true, true, false, false, true, false, false, false, true, true, true, false, false, false, true, false, false, false, true, false, false, false, true, false, false, true, false, false, false, true, false, false, false, false, false, false, false]⟩, ⟨⟨Try.f20, Try.func20, rfl, rfl, rfl⟩, Try.call20⟩⟩
noncomputable def fu21 : FE Try.prog := ⟨21, ⟨Try.f21.body.getD .skip, 27, [.tmp 6, .tmp 7], some [true, true, true, false, false, false, true, true, true, false, false, true, false, false, true, false, false, false, false, false, false, false, false, false, false, false, false]⟩, ⟨⟨Try.f21, Try.func21, rfl, rfl, rfl⟩, Try.call21⟩⟩
noncomputable def fu22 : FE Try.prog := ⟨22, ⟨Try.f22.body.getD .skip, 101, [.tmp 6, .tmp 7], some [true, true, true, false, false, false, true, true, true, true, false, false, true, false, false, false, false, false, false, false, false, false, true, true, true, false, false, false, false, true, false, false, false, false, true, false, false, false, false, false, false, false, false, true, false, false, false, false, false, false, false, false, true, false, false, false, false, false, false, true, false, false, false, false, false, true, false, false, false, false, false, true, false, false, false, false, false, true, false, false, false, false, false, true, false, false, false, false, false, true, false, false, false, true, false, false, false, false, true, false, false]⟩, ⟨⟨Try.f22, Try.func22, rfl, rfl, rfl⟩, Try.call22⟩⟩
noncomputable def fu23 : FE Try.prog := ⟨23, ⟨Try.f23.body.getD .skip, 15, [.tmp 6], some [true, true, true, false, false, false, true, false, false, false, false, false, false, false, false]⟩, ⟨⟨Try.f23, Try.func23, rfl, rfl, rfl⟩, Try.call23⟩⟩
noncomputable def fu24 : FE Try.prog := ⟨24, ⟨Try.f24.body.getD .skip, 15, [.tmp 6], some [true, true, true, false, false, false, true, false, false, false, false, false, false, false, false]⟩, ⟨⟨Try.f24, Try.func24, rfl, rfl, rfl⟩, Try.call24⟩⟩
noncomputable def fu25 : FE Try.prog := ⟨25, ⟨Try.f25.body.getD .skip, 14, [.tmp 2], some [true, false, true, true, false, false, false, true, false, false, false, true, false, false]⟩, ⟨⟨Try.f25, Try.func25, rfl, rfl, rfl⟩, Try.call25⟩⟩
noncomputable def fu26 : FE Try.prog := ⟨26, ⟨Try.f26.body.getD .skip, 27, [.tmp 2], some [true, false, true, true, true, false, false, false, false, false, false, true, false, false, false, false, false, false, false, false, false, false, false, false, false, true, false]⟩, ⟨⟨Try.f26, Try.func26, rfl, rfl, rfl⟩, Try.call26⟩⟩
noncomputable def fu27 : FE Try.prog := ⟨27, ⟨Try.f27.body.getD .skip, 26, [.tmp 4], some [true, true, false, false, true, true, true, false, false, false, false, false, false, false, false, false, false, false, false, false, false, false, false, false, false, false]⟩, ⟨⟨Try.f27, Try.func27, rfl, rfl, rfl⟩, Try.call27⟩⟩
noncomputable def fu28 : FE Try.prog := ⟨28, ⟨Try.f28.body.getD .skip, 37, [.tmp 4], some [true, true, false, false, true, true, true, true, true, false, false, false, false, false, false, false, false, false, false, false, false, false, false, false, false, false, false, false, false, false, false, false, false, false, false, false, false]⟩, ⟨⟨Try.f28, Try.func28, rfl, rfl, rfl⟩, Try.call28⟩⟩
noncomputable def fu29 : FE Try.prog := ⟨29, ⟨Try.f29.body.getD .skip, 35, [.tmp 2], some [true, false, true, true, true, true, true, false, true, false, false, true, true, true, false, true, false, false, false, false, false, false, true, false, false, false, false, false, false, false, false, false, false, false, false]⟩, ⟨⟨Try.f29, Try.func29, rfl, rfl, rfl⟩, Try.call29⟩⟩
noncomputable def fu30 : FE Try.prog := ⟨30, ⟨Try.f30.body.getD .skip, 10, [.tmp 4], some [true, true, false, false, true, false, false, false, false, false]⟩, ⟨⟨Try.f30, Try.func30, rfl, rfl, rfl⟩, Try.call30⟩⟩
noncomputable def fu31 : FE Try.prog := ⟨31, ⟨Try.f31.body.getD .skip, 47, [.tmp 2], some [true, false, true, true, true, true, false, false, true, false, false, false, true, false, false, false, false, false, false, false, false, false, false, true, false, false, false, false, false, false, false, true, false, false, false, false, false, true, false, false, false, false, false, false, false, false, false]⟩, ⟨⟨Try.f31, Try.func31, rfl, rfl, rfl⟩, Try.call31⟩⟩
noncomputable def fu32 : FE Try.prog := ⟨32, ⟨Try.f32.body.getD .skip, 4, [.tmp 2], some [true, false, true, true]⟩, ⟨⟨Try.f32, Try.func32, rfl, rfl, rfl⟩, Try.call32⟩⟩
noncomputable def fu33 : FE Try.prog := ⟨33, ⟨Try.f33.body.getD .skip, 4, [.tmp 2], some [true, false, true, true]⟩, ⟨⟨Try.f33, Try.func33, rfl, rfl, rfl⟩, Try.call33⟩⟩
noncomputable def fu34 : FE Try.prog := ⟨34, ⟨Try.f34.body.getD .skip, 16, [.tmp 2], some [true, false, true, true, true, false, true, false, true, false, true, false, true, false, true, false]⟩, ⟨⟨Try.f34, Try.func34, rfl, rfl, rfl⟩, Try.call34⟩⟩
noncomputable def fu35 : FE Try.prog := ⟨35, ⟨Try.f35.body.getD .skip, 9, [.tmp 2], some [true, false, true, false, false, false, false, false, false]⟩, ⟨⟨Try.f35, Try.func35, rfl, rfl, rfl⟩, Try.call35⟩⟩
noncomputable def fu36 : FE Try.prog := ⟨36, ⟨Try.f36.body.getD .skip, 9, [.tmp 2], some [true, false, true, false, false, false, false, false, false]⟩, ⟨⟨Try.f36, Try.func36, rfl, rfl, rfl⟩, Try.call36⟩⟩
noncomputable def fu37 : FE Try.prog := ⟨37, ⟨Try.f37.body.getD .skip, 29, [.tmp 2], some [true, false, true, true, true, false, true, false, true, false, true, false, true, false, false, true, false, true, false, true, false, true, false, true, false, true, false, true, false]⟩, ⟨⟨Try.f37, Try.func37, rfl, rfl, rfl⟩, Try.call37⟩⟩
noncomputable def fu38 : FE Try.prog := ⟨38, ⟨Try.f38.body.getD .skip, 4, [.tmp 2], some [true, true, true, false]⟩, ⟨⟨Try.f38, Try.func38, rfl, rfl, rfl⟩, Try.call38⟩⟩
noncomputable def fu39 : FE Try.prog := ⟨39, ⟨Try.f39.body.getD .skip, 10, [.tmp 2], some [true, false, true, false, true, false, false, false, false, false]⟩, ⟨⟨Try.f39, Try.func39, rfl, rfl, rfl⟩, Try.call39⟩⟩
noncomputable def fu40 : FE Try.prog := ⟨40, ⟨Try.f40.body.getD .skip, 5, [.tmp 2], some [true, false, true, false, false]⟩, ⟨⟨Try.f40, Try.func40, rfl, rfl, rfl⟩, Try.call40⟩⟩
noncomputable def fu41 : FE Try.prog := ⟨41, ⟨Try.f41.body.getD .skip, 5, [.tmp 2], some [true, false, true, false, false]⟩, ⟨⟨Try.f41, Try.func41, rfl, rfl, rfl⟩, Try.call41⟩⟩
noncomputable def fu42 : FE Try.prog := ⟨42, ⟨Try.f42.body.getD .skip, 5, [.tmp 2], some [true, false, true, false, false]⟩, ⟨⟨Try.f42, Try.func42, rfl, rfl, rfl⟩, Try.call42⟩⟩
noncomputable def fu43 : FE Try.prog := ⟨43, ⟨Try.f43.body.getD .skip, 6, [.tmp 2], some [true, false, true, false, false, false]⟩, ⟨⟨Try.f43, Try.func43, rfl, rfl, rfl⟩, Try.call43⟩⟩
noncomputable def fu44 : FE Try.prog := ⟨44, ⟨Try.f44.body.getD .skip, 6, [.tmp 2], some [true, false, true, false, false, false]⟩, ⟨⟨Try.f44, Try.func44, rfl, rfl, rfl⟩, Try.call44⟩⟩
noncomputable def fu45 : FE Try.prog := ⟨45, ⟨Try.f45.body.getD .skip, 6, [.tmp 2], some [true, false, true, false, false, false]⟩, ⟨⟨Try.f45, Try.func45, rfl, rfl, rfl⟩, Try.call45⟩⟩
noncomputable def fu46 : FE Try.prog := ⟨46, ⟨Try.f46.body.getD .skip, 8, [.tmp 4], some [true, true, false, false, true, false, false, false]⟩, ⟨⟨Try.f46, Try.func46, rfl, rfl, rfl⟩, Try.call46⟩⟩
noncomputable def fu47 : FE Try.prog := ⟨47, ⟨Try.f47.body.getD .skip, 8, [.tmp 4], some [true, true, false, false, true, false, false, false]⟩, ⟨⟨Try.f47, Try.func47, rfl, rfl, rfl⟩, Try.call47⟩⟩
noncomputable def fu48 : FE Try.prog := ⟨48, ⟨Try.f48.body.getD .skip, 10, [.tmp 4], some [true, true, false, false, true, false, false, false, false, false]⟩, ⟨⟨Try.f48, Try.func48, rfl, rfl, rfl⟩, Try.call48⟩⟩
noncomputable def fu49 : FE Try.prog := ⟨49, ⟨Try.f49.body.getD .skip, 10, [.tmp 4], some [true, true, false, false, true, false, false, false, false, false]⟩, ⟨⟨Try.f49, Try.func49, rfl, rfl, rfl⟩, Try.call49⟩⟩
noncomputable def fu50 : FE Try.prog := ⟨50, ⟨Try.f50.body.getD .skip, 9, [.tmp 4], some [true, true, false, false, true, false, false, false, false]⟩, ⟨⟨Try.f50, Try.func50, rfl, rfl, rfl⟩, Try.call50⟩⟩
noncomputable def fu51 : FE Try.prog := ⟨51, ⟨Try.f51.body.getD .skip, 9, [.tmp 4], some [true, true, false, false, true, false, false, false, false]⟩, ⟨⟨Try.f51, Try.func51, rfl, rfl, rfl⟩, Try.call51⟩⟩
noncomputable def fu52 : FE Try.prog := ⟨52, ⟨Try.f52.body.getD .skip, 9, [.tmp 4], some [true, true, false, false, true, false, false, false, false]⟩, ⟨⟨Try.f52, Try.func52, rfl, rfl, rfl⟩, Try.call52⟩⟩
noncomputable def fu53 : FE Try.prog := ⟨53, ⟨Try.f53.body.getD .skip, 9, [.tmp 4], some [true, true, false, false, true, false, false, false, false]⟩, ⟨⟨Try.f53, Try.func53, rfl, rfl, rfl⟩, Try.call53⟩⟩
noncomputable def fu54 : FE Try.prog := ⟨54, ⟨Try.f54.body.getD .skip, 9, [.tmp 4], some [true, true, false, false, true, false, false, false, false]⟩, ⟨⟨Try.f54, Try.func54, rfl, rfl, rfl⟩, Try.call54⟩⟩
noncomputable def fu55 : FE Try.prog := ⟨55, ⟨Try.f55.body.getD .skip, 9, [.tmp 4], some [true, true, false, false, true, false, false, false, false]⟩, ⟨⟨Try.f55, Try.func55, rfl, rfl, rfl⟩, Try.call55⟩⟩
noncomputable def fu56 : FE Try.prog := ⟨56, ⟨Try.f56.body.getD .skip, 8, [.tmp 4], some [true, true, false, false, true, false, false, false]⟩, ⟨⟨Try.f56, Try.func56, rfl, rfl, rfl⟩, Try.call56⟩⟩
noncomputable def fu57 : FE Try.prog := ⟨57, ⟨Try.f57.body.getD .skip, 8, [.tmp 4], some [true, true, false, false, true, false, false, false]⟩, ⟨⟨Try.f57, Try.func57, rfl, rfl, rfl⟩, Try.call57⟩⟩
noncomputable def fu58 : FE Try.prog := ⟨58, ⟨Try.f58.body.getD .skip, 16, [], some [true, true, false, true, false, true, false, false, false, false, false, false, false, false, false, true]⟩, ⟨⟨Try.f58, Try.func58, rfl, rfl, rfl⟩, Try.call58⟩⟩
noncomputable def eqs : List (QE Try.prog) := []
noncomputable def env : Env := { P := Try.prog, mixed := by kernel_rfl, types := (.node 43 (.node 21 (.node 10 (.node 5 (.node 2 (.node 1 (.leaf ty0) (.leaf ty1)) (.node 3 (.leaf ty2) (.node 4 (.leaf ty3) (.leaf ty4)))) (.node 7 (.node 6 (.leaf ty5) (.leaf ty6)) (.node 8 (.leaf ty7) (.node 9 (.leaf ty8) (.leaf ty9))))) (.node 15 (.node 12 (.node 11 (.leaf ty10) (.leaf ty11)) (.node 13 (.leaf ty12) (.node 14 (.leaf ty13) (.leaf ty14)))) (.node 18 (.node 16 (.leaf ty15) (.node 17 (.leaf ty16) (.leaf ty17))) (.node 19 (.leaf ty18) (.node 20 (.leaf ty19) (.leaf ty20)))))) (.node 32 (.node 26 (.node 23 (.node 22 (.leaf ty21) (.leaf ty22)) (.node 24 (.leaf ty23) (.node 25 (.leaf ty24) (.leaf ty25)))) (.node 29 (.node 27 (.leaf ty26) (.node 28 (.leaf ty27) (.leaf ty28))) (.node 30 (.leaf ty29) (.node 31 (.leaf ty30) (.leaf ty31))))) (.node 37 (.node 34 (.node 33 (.leaf ty32) (.leaf ty33)) (.node 35 (.leaf ty34) (.node 36 (.leaf ty35) (.leaf ty36)))) (.node 40 (.node 38 (.leaf ty37) (.node 39 (.leaf ty38) (.leaf ty39))) (.node 41 (.leaf ty40) (.node 42 (.leaf ty41) (.leaf ty42))))))) (.node 65 (.node 54 (.node 48 (.node 45 (.node 44 (.leaf ty43) (.leaf ty44)) (.node 46 (.leaf ty45) (.node 47 (.leaf ty46) (.leaf ty47)))) (.node 51 (.node 49 (.leaf ty48) (.node 50 (.leaf ty49) (.leaf ty50))) (.node 52 (.leaf ty51) (.node 53 (.leaf ty52) (.leaf ty53))))) (.node 59 (.node 56 (.node 55 (.leaf ty54) (.leaf ty55)) (.node 57 (.leaf ty56) (.node 58 (.leaf ty57) (.leaf ty58)))) (.node 62 (.node 60 (.leaf ty59) (.node 61 (.leaf ty60) (.leaf ty61))) (.node 63 (.leaf ty62) (.node 64 (.leaf ty63) (.leaf ty64)))))) (.node 76 (.node 70 (.node 67 (.node 66 (.leaf ty65) (.leaf ty66)) (.node 68 (.leaf ty67) (.node 69 (.leaf ty68) (.leaf ty69)))) (.node 73 (.node 71 (.leaf ty70) (.node 72 (.leaf ty71) (.leaf ty72))) (.node 74 (.leaf ty73) (.node 75 (.leaf ty74) (.leaf ty75))))) (.node 81 (.node 78 (.node 77 (.leaf ty76) (.leaf ty77)) (.node 79 (.leaf ty78) (.node 80 (.leaf ty79) (.leaf ty80)))) (.node 84 (.node 82 (.leaf ty81) (.node 83 (.leaf ty82) (.leaf ty83))) (.node 85 (.leaf ty84) (.node 86 (.leaf ty85) (.leaf ty86)))))))), funcs := (.node 30 (.node 16 (.node 9 (.node 5 (.node 3 (.leaf fu2) (.node 4 (.leaf fu3) (.leaf fu4))) (.node 7 (.node 6 (.leaf fu5) (.leaf fu6)) (.node 8 (.leaf fu7) (.leaf fu8)))) (.node 12 (.node 10 (.leaf fu9) (.node 11 (.leaf fu10) (.leaf fu11))) (.node 14 (.node 13 (.leaf fu12) (.leaf fu13)) (.node 15 (.leaf fu14) (.leaf fu15))))) (.node 23 (.node 19 (.node 17 (.leaf fu16) (.node 18 (.leaf fu17) (.leaf fu18))) (.node 21 (.node 20 (.leaf fu19) (.leaf fu20)) (.node 22 (.leaf fu21) (.leaf fu22)))) (.node 26 (.node 24 (.leaf fu23) (.node 25 (.leaf fu24) (.leaf fu25))) (.node 28 (.node 27 (.leaf fu26) (.leaf fu27)) (.node 29 (.leaf fu28) (.leaf fu29)))))) (.node 44 (.node 37 (.node 33 (.node 31 (.leaf fu30) (.node 32 (.leaf fu31) (.leaf fu32))) (.node 35 (.node 34 (.leaf fu33) (.leaf fu34)) (.node 36 (.leaf fu35) (.leaf fu36)))) (.node 40 (.node 38 (.leaf fu37) (.node 39 (.leaf fu38) (.leaf fu39))) (.node 42 (.node 41 (.leaf fu40) (.leaf fu41)) (.node 43 (.leaf fu42) (.leaf fu43))))) (.node 51 (.node 47 (.node 45 (.leaf fu44) (.node 46 (.leaf fu45) (.leaf fu46))) (.node 49 (.node 48 (.leaf fu47) (.leaf fu48)) (.node 50 (.leaf fu49) (.leaf fu50)))) (.node 55 (.node 53 (.node 52 (.leaf fu51) (.leaf fu52)) (.node 54 (.leaf fu53) (.leaf fu54))) (.node 57 (.node 56 (.leaf fu55) (.leaf fu56)) (.node 58 (.leaf fu57) (.leaf fu58))))))), hooks := [], eqs := eqs }
theorem ti0 : ti env 0 = M.pure ⟨Go.TypeDesc.tuple #[], 1, 0, .tup []⟩ := rfl
theorem ti1 : ti env 1 = M.pure ⟨Go.TypeDesc.func #[] #[] false, 1, 8, .nilf⟩ := rfl
theorem ti2 : ti env 2 = M.pure ⟨Go.TypeDesc.int (Go.IntKind.i64), 1, 8, .int .i64 (0)⟩ := rfl
theorem ti3 : ti env 3 = M.pure ⟨Go.TypeDesc.int (Go.IntKind.i64), 1, 8, .int .i64 (0)⟩ := rfl
theorem ti4 : ti env 4 = M.pure ⟨Go.TypeDesc.bool, 1, 1, .bool false⟩ := rfl
theorem ti5 : ti env 5 = M.pure ⟨Go.TypeDesc.int (Go.IntKind.u8), 1, 1, .int .u8 (0)⟩ := rfl
theorem ti6 : ti env 6 = M.pure ⟨Go.TypeDesc.int (Go.IntKind.u8), 1, 1, .int .u8 (0)⟩ := rfl
theorem ti7 : ti env 7 = M.pure ⟨Go.TypeDesc.struct #[{ name := "x", type := 2, offset := 0, embedded := false, tag := "", pkgPath := "runtime", byteOffset := 0 }, { name := "y", type := 3, offset := 1, embedded := false, tag := "", pkgPath := "runtime", byteOffset := 8 }, { name := "signed", type := 4, offset := 2, embedded := false, tag := "", pkgPath := "runtime", byteOffset := 16 }, { name := "code", type := 6, offset := 3, embedded := false, tag := "", pkgPath := "runtime", byteOffset := 17 }], 4, 24, .agg [.int .i64 (0), .int .i64 (0), .bool false, .int .u8 (0)]⟩ := rfl
theorem ti8 : ti env 8 = M.pure ⟨Go.TypeDesc.struct #[{ name := "x", type := 2, offset := 0, embedded := false, tag := "", pkgPath := "runtime", byteOffset := 0 }, { name := "y", type := 3, offset := 1, embedded := false, tag := "", pkgPath := "runtime", byteOffset := 8 }, { name := "signed", type := 4, offset := 2, embedded := false, tag := "", pkgPath := "runtime", byteOffset := 16 }, { name := "code", type := 6, offset := 3, embedded := false, tag := "", pkgPath := "runtime", byteOffset := 17 }], 4, 24, .agg [.int .i64 (0), .int .i64 (0), .bool false, .int .u8 (0)]⟩ := rfl
theorem ti9 : ti env 9 = M.pure ⟨Go.TypeDesc.string, 1, 16, .str []⟩ := rfl
theorem ti10 : ti env 10 = M.pure ⟨Go.TypeDesc.string, 1, 16, .str []⟩ := rfl
theorem ti11 : ti env 11 = M.pure ⟨Go.TypeDesc.string, 1, 16, .str []⟩ := rfl
theorem ti12 : ti env 12 = M.pure ⟨Go.TypeDesc.int (Go.IntKind.u64), 1, 8, .int .u64 (0)⟩ := rfl
theorem ti13 : ti env 13 = M.pure ⟨Go.TypeDesc.struct #[{ name := "msg", type := 9, offset := 0, embedded := false, tag := "", pkgPath := "runtime", byteOffset := 0 }, { name := "addr", type := 12, offset := 1, embedded := false, tag := "", pkgPath := "runtime", byteOffset := 16 }], 2, 24, .agg [.str [], .int .u64 (0)]⟩ := rfl
theorem ti14 : ti env 14 = M.pure ⟨Go.TypeDesc.struct #[{ name := "msg", type := 9, offset := 0, embedded := false, tag := "", pkgPath := "runtime", byteOffset := 0 }, { name := "addr", type := 12, offset := 1, embedded := false, tag := "", pkgPath := "runtime", byteOffset := 16 }], 2, 24, .agg [.str [], .int .u64 (0)]⟩ := rfl
theorem ti15 : ti env 15 = M.pure ⟨Go.TypeDesc.pointer 72, 1, 8, .nilp⟩ := rfl
theorem ti16 : ti env 16 = M.pure ⟨Go.TypeDesc.pointer 75, 1, 8, .nilp⟩ := rfl
theorem ti17 : ti env 17 = M.pure ⟨Go.TypeDesc.pointer 85, 1, 8, .nilp⟩ := rfl
theorem ti18 : ti env 18 = M.pure ⟨Go.TypeDesc.struct #[{ name := "typ", type := 17, offset := 0, embedded := false, tag := "", pkgPath := "internal/runtime/maps", byteOffset := 0 }], 1, 8, .agg [.nilp]⟩ := rfl
theorem ti19 : ti env 19 = M.pure ⟨Go.TypeDesc.struct #[{ name := "typ", type := 17, offset := 0, embedded := false, tag := "", pkgPath := "internal/runtime/maps", byteOffset := 0 }], 1, 8, .agg [.nilp]⟩ := rfl
theorem ti20 : ti env 20 = M.pure ⟨Go.TypeDesc.interface #[], 1, 16, .nili⟩ := rfl
theorem ti21 : ti env 21 = M.pure ⟨Go.TypeDesc.int (Go.IntKind.i32), 1, 4, .int .i32 (0)⟩ := rfl
theorem ti22 : ti env 22 = M.pure ⟨Go.TypeDesc.slice 5, 1, 24, .nils⟩ := rfl
theorem ti23 : ti env 23 = M.pure ⟨Go.TypeDesc.func #[] #[4] false, 1, 8, .nilf⟩ := rfl
theorem ti24 : ti env 24 = M.pure ⟨Go.TypeDesc.int (Go.IntKind.i64), 1, 8, .int .i64 (0)⟩ := rfl
theorem ti25 : ti env 25 = M.pure ⟨Go.TypeDesc.tuple #[22, 24], 1, 0, .tup [.nils, .int .i64 (0)]⟩ := rfl
theorem ti26 : ti env 26 = M.pure ⟨Go.TypeDesc.func #[2] #[22, 24] false, 1, 8, .nilf⟩ := rfl
theorem ti27 : ti env 27 = M.pure ⟨Go.TypeDesc.tuple #[2, 24], 1, 0, .tup [.int .i64 (0), .int .i64 (0)]⟩ := rfl
theorem ti28 : ti env 28 = M.pure ⟨Go.TypeDesc.func #[22] #[2, 24] false, 1, 8, .nilf⟩ := rfl
theorem ti29 : ti env 29 = M.pure ⟨Go.TypeDesc.func #[22] #[4] false, 1, 8, .nilf⟩ := rfl
theorem ti30 : ti env 30 = M.pure ⟨Go.TypeDesc.func #[2, 22] #[4] false, 1, 8, .nilf⟩ := rfl
theorem ti31 : ti env 31 = M.pure ⟨Go.TypeDesc.tuple #[22, 3], 1, 0, .tup [.nils, .int .i64 (0)]⟩ := rfl
theorem ti32 : ti env 32 = M.pure ⟨Go.TypeDesc.func #[2] #[22, 3] false, 1, 8, .nilf⟩ := rfl
theorem ti33 : ti env 33 = M.pure ⟨Go.TypeDesc.tuple #[2, 3], 1, 0, .tup [.int .i64 (0), .int .i64 (0)]⟩ := rfl
theorem ti34 : ti env 34 = M.pure ⟨Go.TypeDesc.func #[22] #[2, 3] false, 1, 8, .nilf⟩ := rfl
theorem ti35 : ti env 35 = M.pure ⟨Go.TypeDesc.func #[4] #[22] false, 1, 8, .nilf⟩ := rfl
theorem ti36 : ti env 36 = M.pure ⟨Go.TypeDesc.func #[2, 22, 4] #[4] false, 1, 8, .nilf⟩ := rfl
theorem ti37 : ti env 37 = M.pure ⟨Go.TypeDesc.func #[5, 2] #[2, 24] false, 1, 8, .nilf⟩ := rfl
theorem ti38 : ti env 38 = M.pure ⟨Go.TypeDesc.func #[5, 2] #[2, 3] false, 1, 8, .nilf⟩ := rfl
theorem ti39 : ti env 39 = M.pure ⟨Go.TypeDesc.func #[5, 2, 2] #[2, 24] false, 1, 8, .nilf⟩ := rfl
theorem ti40 : ti env 40 = M.pure ⟨Go.TypeDesc.func #[5, 2, 2] #[2, 3] false, 1, 8, .nilf⟩ := rfl
theorem ti41 : ti env 41 = M.pure ⟨Go.TypeDesc.func #[2, 2, 2] #[4] false, 1, 8, .nilf⟩ := rfl
theorem ti42 : ti env 42 = M.pure ⟨Go.TypeDesc.func #[5] #[3] false, 1, 8, .nilf⟩ := rfl
theorem ti43 : ti env 43 = M.pure ⟨Go.TypeDesc.func #[5, 2, 2, 2] #[4] false, 1, 8, .nilf⟩ := rfl
theorem ti44 : ti env 44 = M.pure ⟨Go.TypeDesc.array 8 2, 8, 64, .agg [.int .i64 (0), .int .i64 (0), .int .i64 (0), .int .i64 (0), .int .i64 (0), .int .i64 (0), .int .i64 (0), .int .i64 (0)]⟩ := rfl
theorem ti45 : ti env 45 = M.pure ⟨Go.TypeDesc.func #[2, 2] #[4] false, 1, 8, .nilf⟩ := rfl
theorem ti46 : ti env 46 = M.pure ⟨Go.TypeDesc.func #[5, 2, 2] #[4] false, 1, 8, .nilf⟩ := rfl
theorem ti47 : ti env 47 = M.pure ⟨Go.TypeDesc.func #[9, 4] #[4] false, 1, 8, .nilf⟩ := rfl
theorem ti48 : ti env 48 = M.pure ⟨Go.TypeDesc.func #[2, 9] #[4] false, 1, 8, .nilf⟩ := rfl
theorem ti49 : ti env 49 = M.pure ⟨Go.TypeDesc.struct #[{ name := "code", type := 5, offset := 0, embedded := false, tag := "", pkgPath := "purser/purserlaw11", byteOffset := 0 }, { name := "a", type := 2, offset := 1, embedded := false, tag := "", pkgPath := "purser/purserlaw11", byteOffset := 8 }, { name := "want", type := 2, offset := 2, embedded := false, tag := "", pkgPath := "purser/purserlaw11", byteOffset := 16 }], 3, 24, .agg [.int .u8 (0), .int .i64 (0), .int .i64 (0)]⟩ := rfl
theorem ti50 : ti env 50 = M.pure ⟨Go.TypeDesc.slice 49, 1, 24, .nils⟩ := rfl
theorem ti51 : ti env 51 = M.pure ⟨Go.TypeDesc.struct #[{ name := "code", type := 5, offset := 0, embedded := false, tag := "", pkgPath := "purser/purserlaw11", byteOffset := 0 }, { name := "a", type := 2, offset := 1, embedded := false, tag := "", pkgPath := "purser/purserlaw11", byteOffset := 8 }, { name := "b", type := 2, offset := 2, embedded := false, tag := "", pkgPath := "purser/purserlaw11", byteOffset := 16 }, { name := "want", type := 2, offset := 3, embedded := false, tag := "", pkgPath := "purser/purserlaw11", byteOffset := 24 }], 4, 32, .agg [.int .u8 (0), .int .i64 (0), .int .i64 (0), .int .i64 (0)]⟩ := rfl
theorem ti52 : ti env 52 = M.pure ⟨Go.TypeDesc.slice 51, 1, 24, .nils⟩ := rfl
theorem ti53 : ti env 53 = M.pure ⟨Go.TypeDesc.func #[2] #[22] false, 1, 8, .nilf⟩ := rfl
theorem ti54 : ti env 54 = M.pure ⟨Go.TypeDesc.func #[22, 22] #[4] false, 1, 8, .nilf⟩ := rfl
theorem ti55 : ti env 55 = M.pure ⟨Go.TypeDesc.func #[4] #[2] false, 1, 8, .nilf⟩ := rfl
theorem ti56 : ti env 56 = M.pure ⟨Go.TypeDesc.func #[59] #[2] false, 1, 8, .nilf⟩ := rfl
theorem ti57 : ti env 57 = M.pure ⟨Go.TypeDesc.func #[5] #[56] false, 1, 8, .nilf⟩ := rfl
theorem ti58 : ti env 58 = M.pure ⟨Go.TypeDesc.func #[2] #[4] false, 1, 8, .nilf⟩ := rfl
theorem ti59 : ti env 59 = M.pure ⟨Go.TypeDesc.int (Go.IntKind.i64), 1, 8, .int .i64 (0)⟩ := rfl
theorem ti60 : ti env 60 = M.pure ⟨Go.TypeDesc.func #[59, 59] #[2] false, 1, 8, .nilf⟩ := rfl
theorem ti61 : ti env 61 = M.pure ⟨Go.TypeDesc.func #[5] #[60] false, 1, 8, .nilf⟩ := rfl
theorem ti62 : ti env 62 = M.pure ⟨Go.TypeDesc.func #[68] #[] false, 1, 8, .nilf⟩ := rfl
theorem ti63 : ti env 63 = M.pure ⟨Go.TypeDesc.func #[68] #[] false, 1, 8, .nilf⟩ := rfl
theorem ti64 : ti env 64 = M.pure ⟨Go.TypeDesc.func #[65] #[63] false, 1, 8, .nilf⟩ := rfl
theorem ti65 : ti env 65 = M.pure ⟨Go.TypeDesc.int (Go.IntKind.u64), 1, 8, .int .u64 (0)⟩ := rfl
theorem ti66 : ti env 66 = M.pure ⟨Go.TypeDesc.func #[2] #[65] false, 1, 8, .nilf⟩ := rfl
theorem ti67 : ti env 67 = M.pure ⟨Go.TypeDesc.func #[] #[2] false, 1, 8, .nilf⟩ := rfl
theorem ti68 : ti env 68 = M.pure ⟨Go.TypeDesc.func #[5, 4] #[4] false, 1, 8, .nilf⟩ := rfl
theorem ti69 : ti env 69 = M.pure ⟨Go.TypeDesc.int (Go.IntKind.u64), 1, 8, .int .u64 (0)⟩ := rfl
theorem ti70 : ti env 70 = M.pure ⟨Go.TypeDesc.func #[] #[9] false, 1, 8, .nilf⟩ := rfl
theorem ti71 : ti env 71 = M.pure ⟨Go.TypeDesc.struct #[{ name := "_interface", type := 17, offset := 0, embedded := false, tag := "", pkgPath := "runtime", byteOffset := 0 }, { name := "concrete", type := 17, offset := 1, embedded := false, tag := "", pkgPath := "runtime", byteOffset := 8 }, { name := "asserted", type := 17, offset := 2, embedded := false, tag := "", pkgPath := "runtime", byteOffset := 16 }, { name := "missingMethod", type := 9, offset := 3, embedded := false, tag := "", pkgPath := "runtime", byteOffset := 24 }], 4, 40, .agg [.nilp, .nilp, .nilp, .str []]⟩ := rfl
theorem ti72 : ti env 72 = M.pure ⟨Go.TypeDesc.struct #[{ name := "_interface", type := 17, offset := 0, embedded := false, tag := "", pkgPath := "runtime", byteOffset := 0 }, { name := "concrete", type := 17, offset := 1, embedded := false, tag := "", pkgPath := "runtime", byteOffset := 8 }, { name := "asserted", type := 17, offset := 2, embedded := false, tag := "", pkgPath := "runtime", byteOffset := 16 }, { name := "missingMethod", type := 9, offset := 3, embedded := false, tag := "", pkgPath := "runtime", byteOffset := 24 }], 4, 40, .agg [.nilp, .nilp, .nilp, .str []]⟩ := rfl
theorem ti73 : ti env 73 = M.pure ⟨Go.TypeDesc.array 0 16, 0, 0, .agg []⟩ := rfl
theorem ti74 : ti env 74 = M.pure ⟨Go.TypeDesc.struct #[{ name := "_", type := 73, offset := 0, embedded := false, tag := "", pkgPath := "runtime", byteOffset := 0 }], 0, 0, .agg []⟩ := rfl
theorem ti75 : ti env 75 = M.pure ⟨Go.TypeDesc.struct #[{ name := "_", type := 73, offset := 0, embedded := false, tag := "", pkgPath := "runtime", byteOffset := 0 }], 0, 0, .agg []⟩ := rfl
theorem ti76 : ti env 76 = M.pure ⟨Go.TypeDesc.func #[] #[3] false, 1, 8, .nilf⟩ := rfl
theorem ti77 : ti env 77 = M.pure ⟨Go.TypeDesc.int (Go.IntKind.u32), 1, 4, .int .u32 (0)⟩ := rfl
theorem ti78 : ti env 78 = M.pure ⟨Go.TypeDesc.int (Go.IntKind.u8), 1, 1, .int .u8 (0)⟩ := rfl
theorem ti79 : ti env 79 = M.pure ⟨Go.TypeDesc.int (Go.IntKind.u8), 1, 1, .int .u8 (0)⟩ := rfl
theorem ti80 : ti env 80 = M.pure ⟨Go.TypeDesc.func #[86, 86] #[4] false, 1, 8, .nilf⟩ := rfl
theorem ti81 : ti env 81 = M.pure ⟨Go.TypeDesc.pointer 5, 1, 8, .nilp⟩ := rfl
theorem ti82 : ti env 82 = M.pure ⟨Go.TypeDesc.int (Go.IntKind.i32), 1, 4, .int .i32 (0)⟩ := rfl
theorem ti83 : ti env 83 = M.pure ⟨Go.TypeDesc.int (Go.IntKind.i32), 1, 4, .int .i32 (0)⟩ := rfl
theorem ti84 : ti env 84 = M.pure ⟨Go.TypeDesc.struct #[{ name := "Size_", type := 12, offset := 0, embedded := false, tag := "", pkgPath := "", byteOffset := 0 }, { name := "PtrBytes", type := 12, offset := 1, embedded := false, tag := "", pkgPath := "", byteOffset := 8 }, { name := "Hash", type := 77, offset := 2, embedded := false, tag := "", pkgPath := "", byteOffset := 16 }, { name := "TFlag", type := 78, offset := 3, embedded := false, tag := "", pkgPath := "", byteOffset := 20 }, { name := "Align_", type := 5, offset := 4, embedded := false, tag := "", pkgPath := "", byteOffset := 21 }, { name := "FieldAlign_", type := 5, offset := 5, embedded := false, tag := "", pkgPath := "", byteOffset := 22 }, { name := "Kind_", type := 79, offset := 6, embedded := false, tag := "", pkgPath := "", byteOffset := 23 }, { name := "Equal", type := 80, offset := 7, embedded := false, tag := "", pkgPath := "", byteOffset := 24 }, { name := "GCData", type := 81, offset := 8, embedded := false, tag := "", pkgPath := "", byteOffset := 32 }, { name := "Str", type := 82, offset := 9, embedded := false, tag := "", pkgPath := "", byteOffset := 40 }, { name := "PtrToThis", type := 83, offset := 10, embedded := false, tag := "", pkgPath := "", byteOffset := 44 }], 11, 48, .agg [.int .u64 (0), .int .u64 (0), .int .u32 (0), .int .u8 (0), .int .u8 (0), .int .u8 (0), .int .u8 (0), .nilf, .nilp, .int .i32 (0), .int .i32 (0)]⟩ := rfl
theorem ti85 : ti env 85 = M.pure ⟨Go.TypeDesc.struct #[{ name := "Size_", type := 12, offset := 0, embedded := false, tag := "", pkgPath := "", byteOffset := 0 }, { name := "PtrBytes", type := 12, offset := 1, embedded := false, tag := "", pkgPath := "", byteOffset := 8 }, { name := "Hash", type := 77, offset := 2, embedded := false, tag := "", pkgPath := "", byteOffset := 16 }, { name := "TFlag", type := 78, offset := 3, embedded := false, tag := "", pkgPath := "", byteOffset := 20 }, { name := "Align_", type := 5, offset := 4, embedded := false, tag := "", pkgPath := "", byteOffset := 21 }, { name := "FieldAlign_", type := 5, offset := 5, embedded := false, tag := "", pkgPath := "", byteOffset := 22 }, { name := "Kind_", type := 79, offset := 6, embedded := false, tag := "", pkgPath := "", byteOffset := 23 }, { name := "Equal", type := 80, offset := 7, embedded := false, tag := "", pkgPath := "", byteOffset := 24 }, { name := "GCData", type := 81, offset := 8, embedded := false, tag := "", pkgPath := "", byteOffset := 32 }, { name := "Str", type := 82, offset := 9, embedded := false, tag := "", pkgPath := "", byteOffset := 40 }, { name := "PtrToThis", type := 83, offset := 10, embedded := false, tag := "", pkgPath := "", byteOffset := 44 }], 11, 48, .agg [.int .u64 (0), .int .u64 (0), .int .u32 (0), .int .u8 (0), .int .u8 (0), .int .u8 (0), .int .u8 (0), .nilf, .nilp, .int .i32 (0), .int .i32 (0)]⟩ := rfl
theorem ti86 : ti env 86 = M.pure ⟨Go.TypeDesc.unsafePointer, 1, 8, .nilp⟩ := rfl
theorem fi2 : (env.funcs.find 2).i = fu2.i := rfl
theorem ff2 : (env.funcs.find 2).f.beq 2 = true := rfl
theorem hk2 : ∀ args : List AVal, callF env (evalW env) 2 args = callI env (evalW env) 2 args := fun _ => rfl
theorem fg2 : ∀ tm : List AVal, forget env 2 tm = forgetL [false] tm := fun _ => rfl
theorem fi3 : (env.funcs.find 3).i = fu3.i := rfl
theorem ff3 : (env.funcs.find 3).f.beq 3 = true := rfl
theorem hk3 : ∀ args : List AVal, callF env (evalW env) 3 args = callI env (evalW env) 3 args := fun _ => rfl
theorem fg3 : ∀ tm : List AVal, forget env 3 tm = forgetL [true, true, false, false, true, true, true, true, true, true, true, true, true, true, true, false, false, false, false, false, false, false, true, false, false, false, false, false, false, false, true, false, false, false, false, false, false, false, false, false, false, false, false, false, false, false, false, false, false, false, false, false, false, false, false, false, false, false, false, false, false, false, false, false, false, false, false, false, false, false, false, false, false, true, false, false, false, false, false, false, true, false, false, false, false, false, false, false, false, false, false, false, false, false, false, false, false, false, false, false, false, false, false, false, false, false, false, false, false, false, false, false, false, false] tm := fun _ => rfl
theorem fi4 : (env.funcs.find 4).i = fu4.i := rfl
theorem ff4 : (env.funcs.find 4).f.beq 4 = true := rfl
theorem hk4 : ∀ args : List AVal, callF env (evalW env) 4 args = callI env (evalW env) 4 args := fun _ => rfl
theorem fg4 : ∀ tm : List AVal, forget env 4 tm = forgetL [true, true, true, false, false, false, true, true, true, true, true, true, true, true, true, true, false, false, true, false, false, false, false, false, false, false, false, false, false, false, false, false, false, false, false, false, false, false, false, false, false, false, false, false, false, false, false, false, false, false, false, false, false, false, false, false, false, false, false, false, false, false, false, false, false, false, false, false, false, false, false, false, false, false, false, false, false, false, false, false, false, false, false, false, false, false, false, false, false, false, false, false, false, false] tm := fun _ => rfl
theorem fi5 : (env.funcs.find 5).i = fu5.i := rfl
theorem ff5 : (env.funcs.find 5).f.beq 5 = true := rfl
theorem hk5 : ∀ args : List AVal, callF env (evalW env) 5 args = callI env (evalW env) 5 args := fun _ => rfl
theorem fg5 : ∀ tm : List AVal, forget env 5 tm = forgetL [true, true, true, true, false, false, false, false, true, true, true, true, true, true, true, true, true, false, false, false, false, false, false, false, false, false, false, false, false, false, false, false, false, false, false, false, false, false, false, false, false, false, false, false, false, false, false, false, false, false, false, false, false, false, false, false, false, false, false, false, false, false, false, false, false, false, false, false, false, false, false, false, false, false, false, false, false, false, false] tm := fun _ => rfl
theorem fi6 : (env.funcs.find 6).i = fu6.i := rfl
theorem ff6 : (env.funcs.find 6).f.beq 6 = true := rfl
theorem hk6 : ∀ args : List AVal, callF env (evalW env) 6 args = callI env (evalW env) 6 args := fun _ => rfl
theorem fg6 : ∀ tm : List AVal, forget env 6 tm = forgetL [true, true, true, false, false, false, true, true, true, true, true, true, true, true, true, true, true, false, false, false, false, false, false, false, true, true, true, true, false, false, false, false, false, false, false, false, false, false, false, true, false, false, false, false, false, false, false, false, false, false, false, false, false, false, false, false, false, false, false, false, false, false, false, false, false, false, false, false, false, false, false, false, false, false, false, false, false, false, false, false, false, false, false, false, false, false, false, false, false, false, false, false, false, false, false, false, false, false, false, false, false, false, false, false, false, false, false, false, false, false, false, false, false, false, false, false, false, false, false, false, false, false, false, false, false, false, false, false, false] tm := fun _ => rfl
theorem fi7 : (env.funcs.find 7).i = fu7.i := rfl
theorem ff7 : (env.funcs.find 7).f.beq 7 = true := rfl
theorem hk7 : ∀ args : List AVal, callF env (evalW env) 7 args = callI env (evalW env) 7 args := fun _ => rfl
theorem fg7 : ∀ tm : List AVal, forget env 7 tm = forgetL [true, true, false, false, true, true, true, true, true, true, true, true, true, true, true, true, true, true, true, true, false, false, false, false, false, false, false, false, false, false, false, false, false, false, false, false, false, false, false, false, false, false, false, false, false, false, false, false, false, false, false, false, false, false, false, false, false, false, false, false, false, false, false, false, false, false, false, false, false, false, false, false, false, false, false, false, false, false, false, false, false, false, false, false, false, false, false, false, false, false, false, false, false, false, false, false, false, false, false, false, false, false, false, false, false, false, false, false, false, false, false, false, false, false, false, false, false, false, false, false, false, false, false, false, false, false, false, false, false, false, false, false, true, false] tm := fun _ => rfl
theorem fi8 : (env.funcs.find 8).i = fu8.i := rfl
theorem ff8 : (env.funcs.find 8).f.beq 8 = true := rfl
theorem hk8 : ∀ args : List AVal, callF env (evalW env) 8 args = callI env (evalW env) 8 args := fun _ => rfl
theorem fg8 : ∀ tm : List AVal, forget env 8 tm = forgetL [true, true, true, false, false, false, true, true, true, true, true, true, true, true, false, false, false, false, false, false, false, false, false, false, false, false, false, true, false, false, false, false, false, false, false, false, false, false, false, false, false, false, true, false, false, false, false, false, false, false, false, false, false, false, false, false, false, false, false, false, false, false, false, false, false, false, false, false, false, false, false, false, false, false, true, false, false, false, false, false, false, false, false, false, false, false, false, false, false, false, false, false, false, false, false, false, false, false, false, false, false, false, false, false, false, false, false, false, false, false, false] tm := fun _ => rfl
theorem fi9 : (env.funcs.find 9).i = fu9.i := rfl
theorem ff9 : (env.funcs.find 9).f.beq 9 = true := rfl
theorem hk9 : ∀ args : List AVal, callF env (evalW env) 9 args = callI env (evalW env) 9 args := fun _ => rfl
theorem fg9 : ∀ tm : List AVal, forget env 9 tm = forgetL [true, true, true, true, false, true, false, true, true, true, true, true, false, true, true, true, false, true, true, true, false, true, false, true, false, true, false, true, false, true, false, false, false, false, false, false, false, false, false, false, false, false, false, false, false, false, false, false, false, false, false, false, false, false, false, false, false, false, false, false, false, false, false, false, false, false, false, false, false, false, false, false, false, false, false, false, false, false, false, false, false, false, false, false, false, false, false, false, false, false, false, false, false, false, false, false, false, false, false, false, false, false, false, false, false, false, false, false, false, false, false, false, false, false, false, false, false, false, false, false, false, false, false, true, true, true, true, false, false, false, false, false, false, false, false, false, false, false, false, false, false, false, false, false, false, false, false, false, false, false, false, false, false, false, false, false, false, false, false, false, false, false, false, false, false, false, false, false, false, false, true, true, true, true, false, false, false, false, false, false, false, false, false, false, false, false, false, false, false, false, false, false, false, false, false, false, false, false, false, false, false, false, false, false, false, false, false, false, false, false, false, false, false, false, false, false, false, false, false, false, false, false, false, false, false, false, false, false, false, false, false, false, false, false, false, false, false, false, false, false, false, false, false, false, false, false, false, false, false, false, false, false, false, false, false, false, false, false, false, false, false, false, false, false, false, false, false, false, false, false, false] tm := fun _ => rfl
theorem fi10 : (env.funcs.find 10).i = fu10.i := rfl
theorem ff10 : (env.funcs.find 10).f.beq 10 = true := rfl
theorem hk10 : ∀ args : List AVal, callF env (evalW env) 10 args = callI env (evalW env) 10 args := fun _ => rfl
theorem fg10 : ∀ tm : List AVal, forget env 10 tm = forgetL [true, false, false, false, false, false, false, false, false, false, false, false, false, false, false, false, false, false, false, false, false, false, false, false, false, false] tm := fun _ => rfl
theorem fi11 : (env.funcs.find 11).i = fu11.i := rfl
theorem ff11 : (env.funcs.find 11).f.beq 11 = true := rfl
theorem hk11 : ∀ args : List AVal, callF env (evalW env) 11 args = callI env (evalW env) 11 args := fun _ => rfl
theorem fg11 : ∀ tm : List AVal, forget env 11 tm = forgetL [true, false, true, true, false, false, false, false, false, true, false, false] tm := fun _ => rfl
theorem fi12 : (env.funcs.find 12).i = fu12.i := rfl
theorem ff12 : (env.funcs.find 12).f.beq 12 = true := rfl
theorem hk12 : ∀ args : List AVal, callF env (evalW env) 12 args = callI env (evalW env) 12 args := fun _ => rfl
theorem fg12 : ∀ tm : List AVal, forget env 12 tm = forgetL [true, false, true, true, true, true, true, true, false, false, true, true, true, true, true, false, false, false, false, false, false, false, false, false, false, false, false, true, false, false, false, false, false, false, false, false, false, false, false, false, false, false, false, false, false, true, false] tm := fun _ => rfl
theorem fi13 : (env.funcs.find 13).i = fu13.i := rfl
theorem ff13 : (env.funcs.find 13).f.beq 13 = true := rfl
theorem hk13 : ∀ args : List AVal, callF env (evalW env) 13 args = callI env (evalW env) 13 args := fun _ => rfl
theorem fg13 : ∀ tm : List AVal, forget env 13 tm = forgetL [true, false, true, true, true, true, true, true, true, false, false, false, false, false, false, false, false, false, false, false, false, false, false, false, true, false] tm := fun _ => rfl
theorem fi14 : (env.funcs.find 14).i = fu14.i := rfl
theorem ff14 : (env.funcs.find 14).f.beq 14 = true := rfl
theorem hk14 : ∀ args : List AVal, callF env (evalW env) 14 args = callI env (evalW env) 14 args := fun _ => rfl
theorem fg14 : ∀ tm : List AVal, forget env 14 tm = forgetL [true, false, true, true, false, false, false, false, false, true, false, false] tm := fun _ => rfl
theorem fi15 : (env.funcs.find 15).i = fu15.i := rfl
theorem ff15 : (env.funcs.find 15).f.beq 15 = true := rfl
theorem hk15 : ∀ args : List AVal, callF env (evalW env) 15 args = callI env (evalW env) 15 args := fun _ => rfl
theorem fg15 : ∀ tm : List AVal, forget env 15 tm = forgetL [true, false, true, true, true, true, true, true, true, false, false, true, false, false, false, true, false, false, false, false, false, false, false, false, false, false, false, false, false, false, false, true, false, false, false, false, false, false, false, false, false, true, false, false, false, false, false, false, false, true, false] tm := fun _ => rfl
theorem fi16 : (env.funcs.find 16).i = fu16.i := rfl
theorem ff16 : (env.funcs.find 16).f.beq 16 = true := rfl
theorem hk16 : ∀ args : List AVal, callF env (evalW env) 16 args = callI env (evalW env) 16 args := fun _ => rfl
theorem fg16 : ∀ tm : List AVal, forget env 16 tm = forgetL [true, false, true, true, false, false, false, true, false, false, false, false, false, false, false, false, false, false, false, false, false, true, false, false, false, false, true] tm := fun _ => rfl
theorem fi17 : (env.funcs.find 17).i = fu17.i := rfl
theorem ff17 : (env.funcs.find 17).f.beq 17 = true := rfl
theorem hk17 : ∀ args : List AVal, callF env (evalW env) 17 args = callI env (evalW env) 17 args := fun _ => rfl
theorem fg17 : ∀ tm : List AVal, forget env 17 tm = forgetL [true, false, true, false, false, false] tm := fun _ => rfl
theorem fi18 : (env.funcs.find 18).i = fu18.i := rfl
theorem ff18 : (env.funcs.find 18).f.beq 18 = true := rfl
theorem hk18 : ∀ args : List AVal, callF env (evalW env) 18 args = callI env (evalW env) 18 args := fun _ => rfl
theorem fg18 : ∀ tm : List AVal, forget env 18 tm = forgetL [true, false, true, false, false, false] tm := fun _ => rfl
theorem fi19 : (env.funcs.find 19).i = fu19.i := rfl
theorem ff19 : (env.funcs.find 19).f.beq 19 = true := rfl
theorem hk19 : ∀ args : List AVal, callF env (evalW env) 19 args = callI env (evalW env) 19 args := fun _ => rfl
theorem fg19 : ∀ tm : List AVal, forget env 19 tm = forgetL [true, true, false, false, true, true, true, false, false, true, false, false, true, false, false, false, false, false, false] tm := fun _ => rfl
theorem fi20 : (env.funcs.find 20).i = fu20.i := rfl
theorem ff20 : (env.funcs.find 20).f.beq 20 = true := rfl
theorem hk20 : ∀ args : List AVal, callF env (evalW env) 20 args = callI env (evalW env) 20 args := fun _ => rfl
theorem fg20 : ∀ tm : List AVal, forget env 20 tm = forgetL [true, true, false, false, true, true, true, false, false, true, false, false, false, true, true, true, false, false, false, true, false, false, false, true, false, false, false, true, false, false, true, false, false, false, true, false, false, false, false, false, false, false] tm := fun _ => rfl
theorem fi21 : (env.funcs.find 21).i = fu21.i := rfl
theorem ff21 : (env.funcs.find 21).f.beq 21 = true := rfl
theorem hk21 : ∀ args : List AVal, callF env (evalW env) 21 args = callI env (evalW env) 21 args := fun _ => rfl
theorem fg21 : ∀ tm : List AVal, forget env 21 tm = forgetL [true, true, true, false, false, false, true, true, true, false, false, true, false, false, true, false, false, false, false, false, false, false, false, false, false, false, false] tm := fun _ => rfl
theorem fi22 : (env.funcs.find 22).i = fu22.i := rfl
theorem ff22 : (env.funcs.find 22).f.beq 22 = true := rfl
theorem hk22 : ∀ args : List AVal, callF env (evalW env) 22 args = callI env (evalW env) 22 args := fun _ => rfl
theorem fg22 : ∀ tm : List AVal, forget env 22 tm = forgetL [true, true, true, false, false, false, true, true, true, true, false, false, true, false, false, false, false, false, false, false, false, false, true, true, true, false, false, false, false, true, false, false, false, false, true, false, false, false, false, false, false, false, false, true, false, false, false, false, false, false, false, false, true, false, false, false, false, false, false, true, false, false, false, false, false, true, false, false, false, false, false, true, false, false, false, false, false, true, false, false, false, false, false, true, false, false, false, false, false, true, false, false, false, true, false, false, false, false, true, false, false] tm := fun _ => rfl
theorem fi23 : (env.funcs.find 23).i = fu23.i := rfl
theorem ff23 : (env.funcs.find 23).f.beq 23 = true := rfl
theorem hk23 : ∀ args : List AVal, callF env (evalW env) 23 args = callI env (evalW env) 23 args := fun _ => rfl
theorem fg23 : ∀ tm : List AVal, forget env 23 tm = forgetL [true, true, true, false, false, false, true, false, false, false, false, false, false, false, false] tm := fun _ => rfl
theorem fi24 : (env.funcs.find 24).i = fu24.i := rfl
theorem ff24 : (env.funcs.find 24).f.beq 24 = true := rfl
theorem hk24 : ∀ args : List AVal, callF env (evalW env) 24 args = callI env (evalW env) 24 args := fun _ => rfl
theorem fg24 : ∀ tm : List AVal, forget env 24 tm = forgetL [true, true, true, false, false, false, true, false, false, false, false, false, false, false, false] tm := fun _ => rfl
theorem fi25 : (env.funcs.find 25).i = fu25.i := rfl
theorem ff25 : (env.funcs.find 25).f.beq 25 = true := rfl
theorem hk25 : ∀ args : List AVal, callF env (evalW env) 25 args = callI env (evalW env) 25 args := fun _ => rfl
theorem fg25 : ∀ tm : List AVal, forget env 25 tm = forgetL [true, false, true, true, false, false, false, true, false, false, false, true, false, false] tm := fun _ => rfl
theorem fi26 : (env.funcs.find 26).i = fu26.i := rfl
theorem ff26 : (env.funcs.find 26).f.beq 26 = true := rfl
theorem hk26 : ∀ args : List AVal, callF env (evalW env) 26 args = callI env (evalW env) 26 args := fun _ => rfl
theorem fg26 : ∀ tm : List AVal, forget env 26 tm = forgetL [true, false, true, true, true, false, false, false, false, false, false, true, false, false, false, false, false, false, false, false, false, false, false, false, false, true, false] tm := fun _ => rfl
theorem fi27 : (env.funcs.find 27).i = fu27.i := rfl
theorem ff27 : (env.funcs.find 27).f.beq 27 = true := rfl
theorem hk27 : ∀ args : List AVal, callF env (evalW env) 27 args = callI env (evalW env) 27 args := fun _ => rfl
theorem fg27 : ∀ tm : List AVal, forget env 27 tm = forgetL [true, true, false, false, true, true, true, false, false, false, false, false, false, false, false, false, false, false, false, false, false, false, false, false, false, false] tm := fun _ => rfl
theorem fi28 : (env.funcs.find 28).i = fu28.i := rfl
theorem ff28 : (env.funcs.find 28).f.beq 28 = true := rfl
theorem hk28 : ∀ args : List AVal, callF env (evalW env) 28 args = callI env (evalW env) 28 args := fun _ => rfl
theorem fg28 : ∀ tm : List AVal, forget env 28 tm = forgetL [true, true, false, false, true, true, true, true, true, false, false, false, false, false, false, false, false, false, false, false, false, false, false, false, false, false, false, false, false, false, false, false, false, false, false, false, false] tm := fun _ => rfl
theorem fi29 : (env.funcs.find 29).i = fu29.i := rfl
theorem ff29 : (env.funcs.find 29).f.beq 29 = true := rfl
theorem hk29 : ∀ args : List AVal, callF env (evalW env) 29 args = callI env (evalW env) 29 args := fun _ => rfl
theorem fg29 : ∀ tm : List AVal, forget env 29 tm = forgetL [true, false, true, true, true, true, true, false, true, false, false, true, true, true, false, true, false, false, false, false, false, false, true, false, false, false, false, false, false, false, false, false, false, false, false] tm := fun _ => rfl
theorem fi30 : (env.funcs.find 30).i = fu30.i := rfl
theorem ff30 : (env.funcs.find 30).f.beq 30 = true := rfl
theorem hk30 : ∀ args : List AVal, callF env (evalW env) 30 args = callI env (evalW env) 30 args := fun _ => rfl
theorem fg30 : ∀ tm : List AVal, forget env 30 tm = forgetL [true, true, false, false, true, false, false, false, false, false] tm := fun _ => rfl
theorem fi31 : (env.funcs.find 31).i = fu31.i := rfl
theorem ff31 : (env.funcs.find 31).f.beq 31 = true := rfl
theorem hk31 : ∀ args : List AVal, callF env (evalW env) 31 args = callI env (evalW env) 31 args := fun _ => rfl
theorem fg31 : ∀ tm : List AVal, forget env 31 tm = forgetL [true, false, true, true, true, true, false, false, true, false, false, false, true, false, false, false, false, false, false, false, false, false, false, true, false, false, false, false, false, false, false, true, false, false, false, false, false, true, false, false, false, false, false, false, false, false, false] tm := fun _ => rfl
theorem fi32 : (env.funcs.find 32).i = fu32.i := rfl
theorem ff32 : (env.funcs.find 32).f.beq 32 = true := rfl
theorem hk32 : ∀ args : List AVal, callF env (evalW env) 32 args = callI env (evalW env) 32 args := fun _ => rfl
theorem fg32 : ∀ tm : List AVal, forget env 32 tm = forgetL [true, false, true, true] tm := fun _ => rfl
theorem fi33 : (env.funcs.find 33).i = fu33.i := rfl
theorem ff33 : (env.funcs.find 33).f.beq 33 = true := rfl
theorem hk33 : ∀ args : List AVal, callF env (evalW env) 33 args = callI env (evalW env) 33 args := fun _ => rfl
theorem fg33 : ∀ tm : List AVal, forget env 33 tm = forgetL [true, false, true, true] tm := fun _ => rfl
theorem fi34 : (env.funcs.find 34).i = fu34.i := rfl
theorem ff34 : (env.funcs.find 34).f.beq 34 = true := rfl
theorem hk34 : ∀ args : List AVal, callF env (evalW env) 34 args = callI env (evalW env) 34 args := fun _ => rfl
theorem fg34 : ∀ tm : List AVal, forget env 34 tm = forgetL [true, false, true, true, true, false, true, false, true, false, true, false, true, false, true, false] tm := fun _ => rfl
theorem fi35 : (env.funcs.find 35).i = fu35.i := rfl
theorem ff35 : (env.funcs.find 35).f.beq 35 = true := rfl
theorem hk35 : ∀ args : List AVal, callF env (evalW env) 35 args = callI env (evalW env) 35 args := fun _ => rfl
theorem fg35 : ∀ tm : List AVal, forget env 35 tm = forgetL [true, false, true, false, false, false, false, false, false] tm := fun _ => rfl
theorem fi36 : (env.funcs.find 36).i = fu36.i := rfl
theorem ff36 : (env.funcs.find 36).f.beq 36 = true := rfl
theorem hk36 : ∀ args : List AVal, callF env (evalW env) 36 args = callI env (evalW env) 36 args := fun _ => rfl
theorem fg36 : ∀ tm : List AVal, forget env 36 tm = forgetL [true, false, true, false, false, false, false, false, false] tm := fun _ => rfl
theorem fi37 : (env.funcs.find 37).i = fu37.i := rfl
theorem ff37 : (env.funcs.find 37).f.beq 37 = true := rfl
theorem hk37 : ∀ args : List AVal, callF env (evalW env) 37 args = callI env (evalW env) 37 args := fun _ => rfl
theorem fg37 : ∀ tm : List AVal, forget env 37 tm = forgetL [true, false, true, true, true, false, true, false, true, false, true, false, true, false, false, true, false, true, false, true, false, true, false, true, false, true, false, true, false] tm := fun _ => rfl
theorem fi38 : (env.funcs.find 38).i = fu38.i := rfl
theorem ff38 : (env.funcs.find 38).f.beq 38 = true := rfl
theorem hk38 : ∀ args : List AVal, callF env (evalW env) 38 args = callI env (evalW env) 38 args := fun _ => rfl
theorem fg38 : ∀ tm : List AVal, forget env 38 tm = forgetL [true, true, true, false] tm := fun _ => rfl
theorem fi39 : (env.funcs.find 39).i = fu39.i := rfl
theorem ff39 : (env.funcs.find 39).f.beq 39 = true := rfl
theorem hk39 : ∀ args : List AVal, callF env (evalW env) 39 args = callI env (evalW env) 39 args := fun _ => rfl
theorem fg39 : ∀ tm : List AVal, forget env 39 tm = forgetL [true, false, true, false, true, false, false, false, false, false] tm := fun _ => rfl
theorem fi40 : (env.funcs.find 40).i = fu40.i := rfl
theorem ff40 : (env.funcs.find 40).f.beq 40 = true := rfl
theorem hk40 : ∀ args : List AVal, callF env (evalW env) 40 args = callI env (evalW env) 40 args := fun _ => rfl
theorem fg40 : ∀ tm : List AVal, forget env 40 tm = forgetL [true, false, true, false, false] tm := fun _ => rfl
theorem fi41 : (env.funcs.find 41).i = fu41.i := rfl
theorem ff41 : (env.funcs.find 41).f.beq 41 = true := rfl
theorem hk41 : ∀ args : List AVal, callF env (evalW env) 41 args = callI env (evalW env) 41 args := fun _ => rfl
theorem fg41 : ∀ tm : List AVal, forget env 41 tm = forgetL [true, false, true, false, false] tm := fun _ => rfl
theorem fi42 : (env.funcs.find 42).i = fu42.i := rfl
theorem ff42 : (env.funcs.find 42).f.beq 42 = true := rfl
theorem hk42 : ∀ args : List AVal, callF env (evalW env) 42 args = callI env (evalW env) 42 args := fun _ => rfl
theorem fg42 : ∀ tm : List AVal, forget env 42 tm = forgetL [true, false, true, false, false] tm := fun _ => rfl
theorem fi43 : (env.funcs.find 43).i = fu43.i := rfl
theorem ff43 : (env.funcs.find 43).f.beq 43 = true := rfl
theorem hk43 : ∀ args : List AVal, callF env (evalW env) 43 args = callI env (evalW env) 43 args := fun _ => rfl
theorem fg43 : ∀ tm : List AVal, forget env 43 tm = forgetL [true, false, true, false, false, false] tm := fun _ => rfl
theorem fi44 : (env.funcs.find 44).i = fu44.i := rfl
theorem ff44 : (env.funcs.find 44).f.beq 44 = true := rfl
theorem hk44 : ∀ args : List AVal, callF env (evalW env) 44 args = callI env (evalW env) 44 args := fun _ => rfl
theorem fg44 : ∀ tm : List AVal, forget env 44 tm = forgetL [true, false, true, false, false, false] tm := fun _ => rfl
theorem fi45 : (env.funcs.find 45).i = fu45.i := rfl
theorem ff45 : (env.funcs.find 45).f.beq 45 = true := rfl
theorem hk45 : ∀ args : List AVal, callF env (evalW env) 45 args = callI env (evalW env) 45 args := fun _ => rfl
theorem fg45 : ∀ tm : List AVal, forget env 45 tm = forgetL [true, false, true, false, false, false] tm := fun _ => rfl
theorem fi46 : (env.funcs.find 46).i = fu46.i := rfl
theorem ff46 : (env.funcs.find 46).f.beq 46 = true := rfl
theorem hk46 : ∀ args : List AVal, callF env (evalW env) 46 args = callI env (evalW env) 46 args := fun _ => rfl
theorem fg46 : ∀ tm : List AVal, forget env 46 tm = forgetL [true, true, false, false, true, false, false, false] tm := fun _ => rfl
theorem fi47 : (env.funcs.find 47).i = fu47.i := rfl
theorem ff47 : (env.funcs.find 47).f.beq 47 = true := rfl
theorem hk47 : ∀ args : List AVal, callF env (evalW env) 47 args = callI env (evalW env) 47 args := fun _ => rfl
theorem fg47 : ∀ tm : List AVal, forget env 47 tm = forgetL [true, true, false, false, true, false, false, false] tm := fun _ => rfl
theorem fi48 : (env.funcs.find 48).i = fu48.i := rfl
theorem ff48 : (env.funcs.find 48).f.beq 48 = true := rfl
theorem hk48 : ∀ args : List AVal, callF env (evalW env) 48 args = callI env (evalW env) 48 args := fun _ => rfl
theorem fg48 : ∀ tm : List AVal, forget env 48 tm = forgetL [true, true, false, false, true, false, false, false, false, false] tm := fun _ => rfl
theorem fi49 : (env.funcs.find 49).i = fu49.i := rfl
theorem ff49 : (env.funcs.find 49).f.beq 49 = true := rfl
theorem hk49 : ∀ args : List AVal, callF env (evalW env) 49 args = callI env (evalW env) 49 args := fun _ => rfl
theorem fg49 : ∀ tm : List AVal, forget env 49 tm = forgetL [true, true, false, false, true, false, false, false, false, false] tm := fun _ => rfl
theorem fi50 : (env.funcs.find 50).i = fu50.i := rfl
theorem ff50 : (env.funcs.find 50).f.beq 50 = true := rfl
theorem hk50 : ∀ args : List AVal, callF env (evalW env) 50 args = callI env (evalW env) 50 args := fun _ => rfl
theorem fg50 : ∀ tm : List AVal, forget env 50 tm = forgetL [true, true, false, false, true, false, false, false, false] tm := fun _ => rfl
theorem fi51 : (env.funcs.find 51).i = fu51.i := rfl
theorem ff51 : (env.funcs.find 51).f.beq 51 = true := rfl
theorem hk51 : ∀ args : List AVal, callF env (evalW env) 51 args = callI env (evalW env) 51 args := fun _ => rfl
theorem fg51 : ∀ tm : List AVal, forget env 51 tm = forgetL [true, true, false, false, true, false, false, false, false] tm := fun _ => rfl
theorem fi52 : (env.funcs.find 52).i = fu52.i := rfl
theorem ff52 : (env.funcs.find 52).f.beq 52 = true := rfl
theorem hk52 : ∀ args : List AVal, callF env (evalW env) 52 args = callI env (evalW env) 52 args := fun _ => rfl
theorem fg52 : ∀ tm : List AVal, forget env 52 tm = forgetL [true, true, false, false, true, false, false, false, false] tm := fun _ => rfl
theorem fi53 : (env.funcs.find 53).i = fu53.i := rfl
theorem ff53 : (env.funcs.find 53).f.beq 53 = true := rfl
theorem hk53 : ∀ args : List AVal, callF env (evalW env) 53 args = callI env (evalW env) 53 args := fun _ => rfl
theorem fg53 : ∀ tm : List AVal, forget env 53 tm = forgetL [true, true, false, false, true, false, false, false, false] tm := fun _ => rfl
theorem fi54 : (env.funcs.find 54).i = fu54.i := rfl
theorem ff54 : (env.funcs.find 54).f.beq 54 = true := rfl
theorem hk54 : ∀ args : List AVal, callF env (evalW env) 54 args = callI env (evalW env) 54 args := fun _ => rfl
theorem fg54 : ∀ tm : List AVal, forget env 54 tm = forgetL [true, true, false, false, true, false, false, false, false] tm := fun _ => rfl
theorem fi55 : (env.funcs.find 55).i = fu55.i := rfl
theorem ff55 : (env.funcs.find 55).f.beq 55 = true := rfl
theorem hk55 : ∀ args : List AVal, callF env (evalW env) 55 args = callI env (evalW env) 55 args := fun _ => rfl
theorem fg55 : ∀ tm : List AVal, forget env 55 tm = forgetL [true, true, false, false, true, false, false, false, false] tm := fun _ => rfl
theorem fi56 : (env.funcs.find 56).i = fu56.i := rfl
theorem ff56 : (env.funcs.find 56).f.beq 56 = true := rfl
theorem hk56 : ∀ args : List AVal, callF env (evalW env) 56 args = callI env (evalW env) 56 args := fun _ => rfl
theorem fg56 : ∀ tm : List AVal, forget env 56 tm = forgetL [true, true, false, false, true, false, false, false] tm := fun _ => rfl
theorem fi57 : (env.funcs.find 57).i = fu57.i := rfl
theorem ff57 : (env.funcs.find 57).f.beq 57 = true := rfl
theorem hk57 : ∀ args : List AVal, callF env (evalW env) 57 args = callI env (evalW env) 57 args := fun _ => rfl
theorem fg57 : ∀ tm : List AVal, forget env 57 tm = forgetL [true, true, false, false, true, false, false, false] tm := fun _ => rfl
theorem fi58 : (env.funcs.find 58).i = fu58.i := rfl
theorem ff58 : (env.funcs.find 58).f.beq 58 = true := rfl
theorem hk58 : ∀ args : List AVal, callF env (evalW env) 58 args = callI env (evalW env) 58 args := fun _ => rfl
theorem fg58 : ∀ tm : List AVal, forget env 58 tm = forgetL [true, true, false, true, false, true, false, false, false, false, false, false, false, false, false, true] tm := fun _ => rfl
theorem bl9s : ∀ ts l, bLen env (9 :: ts) (.str l) = M.pure (.int .i64 (l.length : Nat)) := fun _ _ => rfl
theorem bl10s : ∀ ts l, bLen env (10 :: ts) (.str l) = M.pure (.int .i64 (l.length : Nat)) := fun _ _ => rfl
theorem bl11s : ∀ ts l, bLen env (11 :: ts) (.str l) = M.pure (.int .i64 (l.length : Nat)) := fun _ _ => rfl
theorem bl22a : ∀ ts id off len cap sz, bLen env (22 :: ts) (.sl id off len cap sz) = M.pure (.int .i64 (len : Nat)) := fun _ _ _ _ _ _ => rfl
theorem bl22b : ∀ ts g sz off len, bLen env (22 :: ts) (.isl g sz off len) = M.pure (.int .i64 (len : Nat)) := fun _ _ _ _ _ => rfl
theorem bl22c : ∀ ts, bLen env (22 :: ts) .nils = M.pure (.int .i64 0) := fun _ => rfl
theorem bl22d : ∀ ts, bLen env (22 :: ts) .emp = M.pure (.int .i64 0) := fun _ => rfl
theorem bl44r : ∀ ts v, bLen env (44 :: ts) v = M.pure (.int .i64 8) := fun _ _ => rfl
theorem bl50a : ∀ ts id off len cap sz, bLen env (50 :: ts) (.sl id off len cap sz) = M.pure (.int .i64 (len : Nat)) := fun _ _ _ _ _ _ => rfl
theorem bl50b : ∀ ts g sz off len, bLen env (50 :: ts) (.isl g sz off len) = M.pure (.int .i64 (len : Nat)) := fun _ _ _ _ _ => rfl
theorem bl50c : ∀ ts, bLen env (50 :: ts) .nils = M.pure (.int .i64 0) := fun _ => rfl
theorem bl50d : ∀ ts, bLen env (50 :: ts) .emp = M.pure (.int .i64 0) := fun _ => rfl
theorem bl52a : ∀ ts id off len cap sz, bLen env (52 :: ts) (.sl id off len cap sz) = M.pure (.int .i64 (len : Nat)) := fun _ _ _ _ _ _ => rfl
theorem bl52b : ∀ ts g sz off len, bLen env (52 :: ts) (.isl g sz off len) = M.pure (.int .i64 (len : Nat)) := fun _ _ _ _ _ => rfl
theorem bl52c : ∀ ts, bLen env (52 :: ts) .nils = M.pure (.int .i64 0) := fun _ => rfl
theorem bl52d : ∀ ts, bLen env (52 :: ts) .emp = M.pure (.int .i64 0) := fun _ => rfl
theorem bl73r : ∀ ts v, bLen env (73 :: ts) v = M.pure (.int .i64 0) := fun _ _ => rfl
noncomputable def lp6_0 : Code := (loopsOf (Try.f6.body.getD .skip)).getD 0 .skip
noncomputable def lp9_0 : Code := (loopsOf (Try.f9.body.getD .skip)).getD 0 .skip
noncomputable def lp9_1 : Code := (loopsOf (Try.f9.body.getD .skip)).getD 1 .skip
noncomputable def lp12_0 : Code := (loopsOf (Try.f12.body.getD .skip)).getD 0 .skip
noncomputable def lp13_0 : Code := (loopsOf (Try.f13.body.getD .skip)).getD 0 .skip
noncomputable def lp15_0 : Code := (loopsOf (Try.f15.body.getD .skip)).getD 0 .skip
noncomputable def lp16_0 : Code := (loopsOf (Try.f16.body.getD .skip)).getD 0 .skip
noncomputable def ra29_0 : Code := ((rangesOf (Try.f29.body.getD .skip)).getD 0 (.skip, .skip)).1
noncomputable def rb29_0 : Code := ((rangesOf (Try.f29.body.getD .skip)).getD 0 (.skip, .skip)).2
noncomputable def lp31_0 : Code := (loopsOf (Try.f31.body.getD .skip)).getD 0 .skip
noncomputable def lp58_0 : Code := (loopsOf (Try.f58.body.getD .skip)).getD 0 .skip
def tyr := (And.intro ti0 (And.intro ti1 (And.intro ti2 (And.intro ti3 (And.intro ti4 (And.intro ti5 (And.intro ti6 (And.intro ti7 (And.intro ti8 (And.intro ti9 (And.intro ti10 (And.intro ti11 (And.intro ti12 (And.intro ti13 (And.intro ti14 (And.intro ti15 (And.intro ti16 (And.intro ti17 (And.intro ti18 (And.intro ti19 (And.intro ti20 (And.intro ti21 (And.intro ti22 (And.intro ti23 (And.intro ti24 (And.intro ti25 (And.intro ti26 (And.intro ti27 (And.intro ti28 (And.intro ti29 (And.intro ti30 (And.intro ti31 (And.intro ti32 (And.intro ti33 (And.intro ti34 (And.intro ti35 (And.intro ti36 (And.intro ti37 (And.intro ti38 (And.intro ti39 (And.intro ti40 (And.intro ti41 (And.intro ti42 (And.intro ti43 (And.intro ti44 (And.intro ti45 (And.intro ti46 (And.intro ti47 (And.intro ti48 (And.intro ti49 (And.intro ti50 (And.intro ti51 (And.intro ti52 (And.intro ti53 (And.intro ti54 (And.intro ti55 (And.intro ti56 (And.intro ti57 (And.intro ti58 (And.intro ti59 (And.intro ti60 (And.intro ti61 (And.intro ti62 (And.intro ti63 (And.intro ti64 (And.intro ti65 (And.intro ti66 (And.intro ti67 (And.intro ti68 (And.intro ti69 (And.intro ti70 (And.intro ti71 (And.intro ti72 (And.intro ti73 (And.intro ti74 (And.intro ti75 (And.intro ti76 (And.intro ti77 (And.intro ti78 (And.intro ti79 (And.intro ti80 (And.intro ti81 (And.intro ti82 (And.intro ti83 (And.intro ti84 (And.intro ti85 ti86))))))))))))))))))))))))))))))))))))))))))))))))))))))))))))))))))))))))))))))))))))))
def blr := (And.intro bl9s (And.intro bl10s (And.intro bl11s (And.intro bl22a (And.intro bl22b (And.intro bl22c (And.intro bl22d (And.intro bl44r (And.intro bl50a (And.intro bl50b (And.intro bl50c (And.intro bl50d (And.intro bl52a (And.intro bl52b (And.intro bl52c (And.intro bl52d bl73r))))))))))))))))
def fgr := (And.intro fg2 (And.intro fg3 (And.intro fg4 (And.intro fg5 (And.intro fg6 (And.intro fg7 (And.intro fg8 (And.intro fg9 (And.intro fg10 (And.intro fg11 (And.intro fg12 (And.intro fg13 (And.intro fg14 (And.intro fg15 (And.intro fg16 (And.intro fg17 (And.intro fg18 (And.intro fg19 (And.intro fg20 (And.intro fg21 (And.intro fg22 (And.intro fg23 (And.intro fg24 (And.intro fg25 (And.intro fg26 (And.intro fg27 (And.intro fg28 (And.intro fg29 (And.intro fg30 (And.intro fg31 (And.intro fg32 (And.intro fg33 (And.intro fg34 (And.intro fg35 (And.intro fg36 (And.intro fg37 (And.intro fg38 (And.intro fg39 (And.intro fg40 (And.intro fg41 (And.intro fg42 (And.intro fg43 (And.intro fg44 (And.intro fg45 (And.intro fg46 (And.intro fg47 (And.intro fg48 (And.intro fg49 (And.intro fg50 (And.intro fg51 (And.intro fg52 (And.intro fg53 (And.intro fg54 (And.intro fg55 (And.intro fg56 (And.intro fg57 fg58))))))))))))))))))))))))))))))))))))))))))))))))))))))))
def hkr := (And.intro hk2 (And.intro hk3 (And.intro hk4 (And.intro hk5 (And.intro hk6 (And.intro hk7 (And.intro hk8 (And.intro hk9 (And.intro hk10 (And.intro hk11 (And.intro hk12 (And.intro hk13 (And.intro hk14 (And.intro hk15 (And.intro hk16 (And.intro hk17 (And.intro hk18 (And.intro hk19 (And.intro hk20 (And.intro hk21 (And.intro hk22 (And.intro hk23 (And.intro hk24 (And.intro hk25 (And.intro hk26 (And.intro hk27 (And.intro hk28 (And.intro hk29 (And.intro hk30 (And.intro hk31 (And.intro hk32 (And.intro hk33 (And.intro hk34 (And.intro hk35 (And.intro hk36 (And.intro hk37 (And.intro hk38 (And.intro hk39 (And.intro hk40 (And.intro hk41 (And.intro hk42 (And.intro hk43 (And.intro hk44 (And.intro hk45 (And.intro hk46 (And.intro hk47 (And.intro hk48 (And.intro hk49 (And.intro hk50 (And.intro hk51 (And.intro hk52 (And.intro hk53 (And.intro hk54 (And.intro hk55 (And.intro hk56 (And.intro hk57 hk58))))))))))))))))))))))))))))))))))))))))))))))))))))))))
end Go.Am.Ytfomdaajpembmaa
