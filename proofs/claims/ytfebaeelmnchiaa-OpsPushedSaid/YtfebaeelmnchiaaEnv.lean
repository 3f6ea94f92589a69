import Derived.Test.YtfebaeelmnchiaaAoJ
import Derived.KernelRfl
import Derived.Test.YtfebaeelmnchiaaProg
set_option maxRecDepth 100000
set_option linter.defProp false
namespace Go.Am.Ytfebaeelmnchiaa
open Go Go.Am Go.Proofs
noncomputable def ty0 : TE Try.prog := ⟨0, ⟨Try.t0.desc, 1, 0, .tup []⟩, ⟨⟨Try.t0, _, rfl, rfl, rfl, rfl, rfl⟩, rfl, rfl, Try.underlying0⟩⟩
noncomputable def ty1 : TE Try.prog := ⟨1, ⟨Try.t1.desc, 1, 8, .nilf⟩, ⟨⟨Try.t1, _, rfl, rfl, rfl, rfl, rfl⟩, rfl, rfl, Try.underlying1⟩⟩
noncomputable def ty2 : TE Try.prog := ⟨2, ⟨Try.t2.desc, 1, 8, .int .i64 (0)⟩, ⟨⟨Try.t2, _, rfl, rfl, rfl, rfl, rfl⟩, rfl, rfl, Try.underlying2⟩⟩
noncomputable def ty3 : TE Try.prog := ⟨3, ⟨Try.t3.desc, 1, 8, .int .i64 (0)⟩, ⟨⟨Try.t3, _, rfl, rfl, rfl, rfl, rfl⟩, rfl, rfl, Try.underlying3⟩⟩
noncomputable def ty4 : TE Try.prog := ⟨4, ⟨Try.t4.desc, 1, 1, .bool false⟩, ⟨⟨Try.t4, _, rfl, rfl, rfl, rfl, rfl⟩, rfl, rfl, Try.underlying4⟩⟩
noncomputable def ty5 : TE Try.prog := ⟨5, ⟨Try.t5.desc, 1, 1, .int .u8 (0)⟩, ⟨⟨Try.t5, _, rfl, rfl, rfl, rfl, rfl⟩, rfl, rfl, Try.underlying5⟩⟩
noncomputable def ty6 : TE Try.prog := ⟨6, ⟨Try.t5.desc, 1, 1, .int .u8 (0)⟩, ⟨⟨Try.t6, _, rfl, rfl, rfl, rfl, rfl⟩, rfl, rfl, Try.underlying6⟩⟩
noncomputable def ty7 : TE Try.prog := ⟨7, ⟨Try.t7.desc, 4, 24, .agg [.int .i64 (0), .int .i64 (0), .bool false, .int .u8 (0)]⟩, ⟨⟨Try.t7, _, rfl, rfl, rfl, rfl, rfl⟩, rfl, rfl, Try.underlying7⟩⟩
noncomputable def ty8 : TE Try.prog := ⟨8, ⟨Try.t7.desc, 4, 24, .agg [.int .i64 (0), .int .i64 (0), .bool false, .int .u8 (0)]⟩, ⟨⟨Try.t8, _, rfl, rfl, rfl, rfl, rfl⟩, rfl, rfl, Try.underlying8⟩⟩
noncomputable def ty9 : TE Try.prog := ⟨9, ⟨Try.t9.desc, 1, 16, .str []⟩, ⟨⟨Try.t9, _, rfl, rfl, rfl, rfl, rfl⟩, rfl, rfl, Try.underlying9⟩⟩
noncomputable def ty10 : TE Try.prog := ⟨10, ⟨Try.t9.desc, 1, 16, .str []⟩, ⟨⟨Try.t10, _, rfl, rfl, rfl, rfl, rfl⟩, rfl, rfl, Try.underlying10⟩⟩
noncomputable def ty11 : TE Try.prog := ⟨11, ⟨Try.t9.desc, 1, 16, .str []⟩, ⟨⟨Try.t11, _, rfl, rfl, rfl, rfl, rfl⟩, rfl, rfl, Try.underlying11⟩⟩
noncomputable def ty12 : TE Try.prog := ⟨12, ⟨Try.t12.desc, 1, 8, .int .u64 (0)⟩, ⟨⟨Try.t12, _, rfl, rfl, rfl, rfl, rfl⟩, rfl, rfl, Try.underlying12⟩⟩
noncomputable def ty13 : TE Try.prog := ⟨13, ⟨Try.t13.desc, 2, 24, .agg [.str [], .int .u64 (0)]⟩, ⟨⟨Try.t13, _, rfl, rfl, rfl, rfl, rfl⟩, rfl, rfl, Try.underlying13⟩⟩
noncomputable def ty14 : TE Try.prog := ⟨14, ⟨Try.t13.desc, 2, 24, .agg [.str [], .int .u64 (0)]⟩, ⟨⟨Try.t14, _, rfl, rfl, rfl, rfl, rfl⟩, rfl, rfl, Try.underlying14⟩⟩
noncomputable def ty15 : TE Try.prog := ⟨15, ⟨Try.t15.desc, 1, 8, .nilp⟩, ⟨⟨Try.t15, _, rfl, rfl, rfl, rfl, rfl⟩, rfl, rfl, Try.underlying15⟩⟩
noncomputable def ty16 : TE Try.prog := ⟨16, ⟨Try.t16.desc, 1, 8, .nilp⟩, ⟨⟨Try.t16, _, rfl, rfl, rfl, rfl, rfl⟩, rfl, rfl, Try.underlying16⟩⟩
noncomputable def ty17 : TE Try.prog := ⟨17, ⟨Try.t17.desc, 1, 8, .nilp⟩, ⟨⟨Try.t17, _, rfl, rfl, rfl, rfl, rfl⟩, rfl, rfl, Try.underlying17⟩⟩
noncomputable def ty18 : TE Try.prog := ⟨18, ⟨Try.t18.desc, 1, 8, .agg [.nilp]⟩, ⟨⟨Try.t18, _, rfl, rfl, rfl, rfl, rfl⟩, rfl, rfl, Try.underlying18⟩⟩
noncomputable def ty19 : TE Try.prog := ⟨19, ⟨Try.t18.desc, 1, 8, .agg [.nilp]⟩, ⟨⟨Try.t19, _, rfl, rfl, rfl, rfl, rfl⟩, rfl, rfl, Try.underlying19⟩⟩
noncomputable def ty20 : TE Try.prog := ⟨20, ⟨Try.t20.desc, 1, 16, .nili⟩, ⟨⟨Try.t20, _, rfl, rfl, rfl, rfl, rfl⟩, rfl, rfl, Try.underlying20⟩⟩
noncomputable def ty21 : TE Try.prog := ⟨21, ⟨Try.t21.desc, 1, 4, .int .i32 (0)⟩, ⟨⟨Try.t21, _, rfl, rfl, rfl, rfl, rfl⟩, rfl, rfl, Try.underlying21⟩⟩
noncomputable def ty22 : TE Try.prog := ⟨22, ⟨Try.t22.desc, 1, 24, .nils⟩, ⟨⟨Try.t22, _, rfl, rfl, rfl, rfl, rfl⟩, rfl, rfl, Try.underlying22⟩⟩
noncomputable def ty23 : TE Try.prog := ⟨23, ⟨Try.t23.desc, 1, 24, .nils⟩, ⟨⟨Try.t23, _, rfl, rfl, rfl, rfl, rfl⟩, rfl, rfl, Try.underlying23⟩⟩
noncomputable def ty24 : TE Try.prog := ⟨24, ⟨Try.t24.desc, 1, 8, .nilf⟩, ⟨⟨Try.t24, _, rfl, rfl, rfl, rfl, rfl⟩, rfl, rfl, Try.underlying24⟩⟩
noncomputable def ty25 : TE Try.prog := ⟨25, ⟨Try.t3.desc, 1, 8, .int .i64 (0)⟩, ⟨⟨Try.t25, _, rfl, rfl, rfl, rfl, rfl⟩, rfl, rfl, Try.underlying25⟩⟩
noncomputable def ty26 : TE Try.prog := ⟨26, ⟨Try.t26.desc, 1, 0, .tup [.nils, .int .i64 (0)]⟩, ⟨⟨Try.t26, _, rfl, rfl, rfl, rfl, rfl⟩, rfl, rfl, Try.underlying26⟩⟩
noncomputable def ty27 : TE Try.prog := ⟨27, ⟨Try.t27.desc, 1, 8, .nilf⟩, ⟨⟨Try.t27, _, rfl, rfl, rfl, rfl, rfl⟩, rfl, rfl, Try.underlying27⟩⟩
noncomputable def ty28 : TE Try.prog := ⟨28, ⟨Try.t28.desc, 1, 0, .tup [.nils, .int .i64 (0)]⟩, ⟨⟨Try.t28, _, rfl, rfl, rfl, rfl, rfl⟩, rfl, rfl, Try.underlying28⟩⟩
noncomputable def ty29 : TE Try.prog := ⟨29, ⟨Try.t29.desc, 1, 8, .nilf⟩, ⟨⟨Try.t29, _, rfl, rfl, rfl, rfl, rfl⟩, rfl, rfl, Try.underlying29⟩⟩
noncomputable def ty30 : TE Try.prog := ⟨30, ⟨Try.t30.desc, 1, 8, .nilf⟩, ⟨⟨Try.t30, _, rfl, rfl, rfl, rfl, rfl⟩, rfl, rfl, Try.underlying30⟩⟩
noncomputable def ty31 : TE Try.prog := ⟨31, ⟨Try.t31.desc, 2, 32, .agg [.int .u8 (0), .nils]⟩, ⟨⟨Try.t31, _, rfl, rfl, rfl, rfl, rfl⟩, rfl, rfl, Try.underlying31⟩⟩
noncomputable def ty32 : TE Try.prog := ⟨32, ⟨Try.t31.desc, 2, 32, .agg [.int .u8 (0), .nils]⟩, ⟨⟨Try.t32, _, rfl, rfl, rfl, rfl, rfl⟩, rfl, rfl, Try.underlying32⟩⟩
noncomputable def ty33 : TE Try.prog := ⟨33, ⟨Try.t33.desc, 1, 0, .tup [.nils, .bool false]⟩, ⟨⟨Try.t33, _, rfl, rfl, rfl, rfl, rfl⟩, rfl, rfl, Try.underlying33⟩⟩
noncomputable def ty34 : TE Try.prog := ⟨34, ⟨Try.t34.desc, 1, 8, .nilf⟩, ⟨⟨Try.t34, _, rfl, rfl, rfl, rfl, rfl⟩, rfl, rfl, Try.underlying34⟩⟩
noncomputable def ty35 : TE Try.prog := ⟨35, ⟨Try.t35.desc, 1, 0, .tup [.agg [.int .u8 (0), .nils], .int .i64 (0)]⟩, ⟨⟨Try.t35, _, rfl, rfl, rfl, rfl, rfl⟩, rfl, rfl, Try.underlying35⟩⟩
noncomputable def ty36 : TE Try.prog := ⟨36, ⟨Try.t36.desc, 1, 8, .nilf⟩, ⟨⟨Try.t36, _, rfl, rfl, rfl, rfl, rfl⟩, rfl, rfl, Try.underlying36⟩⟩
noncomputable def ty37 : TE Try.prog := ⟨37, ⟨Try.t37.desc, 1, 0, .tup [.agg [.int .u8 (0), .nils], .int .i64 (0)]⟩, ⟨⟨Try.t37, _, rfl, rfl, rfl, rfl, rfl⟩, rfl, rfl, Try.underlying37⟩⟩
noncomputable def ty38 : TE Try.prog := ⟨38, ⟨Try.t38.desc, 1, 8, .nilf⟩, ⟨⟨Try.t38, _, rfl, rfl, rfl, rfl, rfl⟩, rfl, rfl, Try.underlying38⟩⟩
noncomputable def ty39 : TE Try.prog := ⟨39, ⟨Try.t39.desc, 1, 8, .nilf⟩, ⟨⟨Try.t39, _, rfl, rfl, rfl, rfl, rfl⟩, rfl, rfl, Try.underlying39⟩⟩
noncomputable def ty40 : TE Try.prog := ⟨40, ⟨Try.t40.desc, 1, 8, .nilf⟩, ⟨⟨Try.t40, _, rfl, rfl, rfl, rfl, rfl⟩, rfl, rfl, Try.underlying40⟩⟩
noncomputable def ty41 : TE Try.prog := ⟨41, ⟨Try.t41.desc, 1, 8, .nilf⟩, ⟨⟨Try.t41, _, rfl, rfl, rfl, rfl, rfl⟩, rfl, rfl, Try.underlying41⟩⟩
noncomputable def ty42 : TE Try.prog := ⟨42, ⟨Try.t42.desc, 1, 8, .nilf⟩, ⟨⟨Try.t42, _, rfl, rfl, rfl, rfl, rfl⟩, rfl, rfl, Try.underlying42⟩⟩
noncomputable def ty43 : TE Try.prog := ⟨43, ⟨Try.t43.desc, 1, 0, .tup [.nils, .int .i64 (0)]⟩, ⟨⟨Try.t43, _, rfl, rfl, rfl, rfl, rfl⟩, rfl, rfl, Try.underlying43⟩⟩
noncomputable def ty44 : TE Try.prog := ⟨44, ⟨Try.t44.desc, 1, 8, .nilf⟩, ⟨⟨Try.t44, _, rfl, rfl, rfl, rfl, rfl⟩, rfl, rfl, Try.underlying44⟩⟩
noncomputable def ty45 : TE Try.prog := ⟨45, ⟨Try.t45.desc, 1, 0, .tup [.nils, .int .i64 (0)]⟩, ⟨⟨Try.t45, _, rfl, rfl, rfl, rfl, rfl⟩, rfl, rfl, Try.underlying45⟩⟩
noncomputable def ty46 : TE Try.prog := ⟨46, ⟨Try.t46.desc, 1, 8, .nilf⟩, ⟨⟨Try.t46, _, rfl, rfl, rfl, rfl, rfl⟩, rfl, rfl, Try.underlying46⟩⟩
noncomputable def ty47 : TE Try.prog := ⟨47, ⟨Try.t47.desc, 1, 8, .nilf⟩, ⟨⟨Try.t47, _, rfl, rfl, rfl, rfl, rfl⟩, rfl, rfl, Try.underlying47⟩⟩
noncomputable def ty48 : TE Try.prog := ⟨48, ⟨Try.t48.desc, 1, 24, .nils⟩, ⟨⟨Try.t48, _, rfl, rfl, rfl, rfl, rfl⟩, rfl, rfl, Try.underlying48⟩⟩
noncomputable def ty49 : TE Try.prog := ⟨49, ⟨Try.t49.desc, 1, 8, .nilf⟩, ⟨⟨Try.t49, _, rfl, rfl, rfl, rfl, rfl⟩, rfl, rfl, Try.underlying49⟩⟩
noncomputable def ty50 : TE Try.prog := ⟨50, ⟨Try.t50.desc, 1, 8, .nilf⟩, ⟨⟨Try.t50, _, rfl, rfl, rfl, rfl, rfl⟩, rfl, rfl, Try.underlying50⟩⟩
noncomputable def ty51 : TE Try.prog := ⟨51, ⟨Try.t51.desc, 1, 8, .nilf⟩, ⟨⟨Try.t51, _, rfl, rfl, rfl, rfl, rfl⟩, rfl, rfl, Try.underlying51⟩⟩
noncomputable def ty52 : TE Try.prog := ⟨52, ⟨Try.t52.desc, 1, 8, .nilf⟩, ⟨⟨Try.t52, _, rfl, rfl, rfl, rfl, rfl⟩, rfl, rfl, Try.underlying52⟩⟩
noncomputable def ty53 : TE Try.prog := ⟨53, ⟨Try.t53.desc, 1, 8, .nilf⟩, ⟨⟨Try.t53, _, rfl, rfl, rfl, rfl, rfl⟩, rfl, rfl, Try.underlying53⟩⟩
noncomputable def ty54 : TE Try.prog := ⟨54, ⟨Try.t54.desc, 1, 8, .nilf⟩, ⟨⟨Try.t54, _, rfl, rfl, rfl, rfl, rfl⟩, rfl, rfl, Try.underlying54⟩⟩
noncomputable def ty55 : TE Try.prog := ⟨55, ⟨Try.t55.desc, 1, 8, .nilf⟩, ⟨⟨Try.t55, _, rfl, rfl, rfl, rfl, rfl⟩, rfl, rfl, Try.underlying55⟩⟩
noncomputable def ty56 : TE Try.prog := ⟨56, ⟨Try.t56.desc, 1, 8, .nilf⟩, ⟨⟨Try.t56, _, rfl, rfl, rfl, rfl, rfl⟩, rfl, rfl, Try.underlying56⟩⟩
noncomputable def ty57 : TE Try.prog := ⟨57, ⟨Try.t57.desc, 1, 8, .nilf⟩, ⟨⟨Try.t57, _, rfl, rfl, rfl, rfl, rfl⟩, rfl, rfl, Try.underlying57⟩⟩
noncomputable def ty58 : TE Try.prog := ⟨58, ⟨Try.t58.desc, 1, 8, .nilf⟩, ⟨⟨Try.t58, _, rfl, rfl, rfl, rfl, rfl⟩, rfl, rfl, Try.underlying58⟩⟩
noncomputable def ty59 : TE Try.prog := ⟨59, ⟨Try.t59.desc, 1, 8, .nilf⟩, ⟨⟨Try.t59, _, rfl, rfl, rfl, rfl, rfl⟩, rfl, rfl, Try.underlying59⟩⟩
noncomputable def ty60 : TE Try.prog := ⟨60, ⟨Try.t59.desc, 1, 8, .nilf⟩, ⟨⟨Try.t60, _, rfl, rfl, rfl, rfl, rfl⟩, rfl, rfl, Try.underlying60⟩⟩
noncomputable def ty61 : TE Try.prog := ⟨61, ⟨Try.t61.desc, 1, 8, .nilf⟩, ⟨⟨Try.t61, _, rfl, rfl, rfl, rfl, rfl⟩, rfl, rfl, Try.underlying61⟩⟩
noncomputable def ty62 : TE Try.prog := ⟨62, ⟨Try.t62.desc, 1, 8, .nilf⟩, ⟨⟨Try.t62, _, rfl, rfl, rfl, rfl, rfl⟩, rfl, rfl, Try.underlying62⟩⟩
noncomputable def ty63 : TE Try.prog := ⟨63, ⟨Try.t63.desc, 1, 0, .tup [.int .i64 (0), .int .i64 (0)]⟩, ⟨⟨Try.t63, _, rfl, rfl, rfl, rfl, rfl⟩, rfl, rfl, Try.underlying63⟩⟩
noncomputable def ty64 : TE Try.prog := ⟨64, ⟨Try.t64.desc, 1, 8, .nilf⟩, ⟨⟨Try.t64, _, rfl, rfl, rfl, rfl, rfl⟩, rfl, rfl, Try.underlying64⟩⟩
noncomputable def ty65 : TE Try.prog := ⟨65, ⟨Try.t65.desc, 1, 8, .nilf⟩, ⟨⟨Try.t65, _, rfl, rfl, rfl, rfl, rfl⟩, rfl, rfl, Try.underlying65⟩⟩
noncomputable def ty66 : TE Try.prog := ⟨66, ⟨Try.t66.desc, 4, 40, .agg [.nilp, .nilp, .nilp, .str []]⟩, ⟨⟨Try.t66, _, rfl, rfl, rfl, rfl, rfl⟩, rfl, rfl, Try.underlying66⟩⟩
noncomputable def ty67 : TE Try.prog := ⟨67, ⟨Try.t66.desc, 4, 40, .agg [.nilp, .nilp, .nilp, .str []]⟩, ⟨⟨Try.t67, _, rfl, rfl, rfl, rfl, rfl⟩, rfl, rfl, Try.underlying67⟩⟩
noncomputable def ty68 : TE Try.prog := ⟨68, ⟨Try.t68.desc, 0, 0, .agg []⟩, ⟨⟨Try.t68, _, rfl, rfl, rfl, rfl, rfl⟩, rfl, rfl, Try.underlying68⟩⟩
noncomputable def ty69 : TE Try.prog := ⟨69, ⟨Try.t69.desc, 0, 0, .agg []⟩, ⟨⟨Try.t69, _, rfl, rfl, rfl, rfl, rfl⟩, rfl, rfl, Try.underlying69⟩⟩
noncomputable def ty70 : TE Try.prog := ⟨70, ⟨Try.t69.desc, 0, 0, .agg []⟩, ⟨⟨Try.t70, _, rfl, rfl, rfl, rfl, rfl⟩, rfl, rfl, Try.underlying70⟩⟩
noncomputable def ty71 : TE Try.prog := ⟨71, ⟨Try.t71.desc, 1, 8, .nilf⟩, ⟨⟨Try.t71, _, rfl, rfl, rfl, rfl, rfl⟩, rfl, rfl, Try.underlying71⟩⟩
noncomputable def ty72 : TE Try.prog := ⟨72, ⟨Try.t72.desc, 1, 4, .int .u32 (0)⟩, ⟨⟨Try.t72, _, rfl, rfl, rfl, rfl, rfl⟩, rfl, rfl, Try.underlying72⟩⟩
noncomputable def ty73 : TE Try.prog := ⟨73, ⟨Try.t5.desc, 1, 1, .int .u8 (0)⟩, ⟨⟨Try.t73, _, rfl, rfl, rfl, rfl, rfl⟩, rfl, rfl, Try.underlying73⟩⟩
noncomputable def ty74 : TE Try.prog := ⟨74, ⟨Try.t5.desc, 1, 1, .int .u8 (0)⟩, ⟨⟨Try.t74, _, rfl, rfl, rfl, rfl, rfl⟩, rfl, rfl, Try.underlying74⟩⟩
noncomputable def ty75 : TE Try.prog := ⟨75, ⟨Try.t75.desc, 1, 8, .nilf⟩, ⟨⟨Try.t75, _, rfl, rfl, rfl, rfl, rfl⟩, rfl, rfl, Try.underlying75⟩⟩
noncomputable def ty76 : TE Try.prog := ⟨76, ⟨Try.t76.desc, 1, 8, .nilp⟩, ⟨⟨Try.t76, _, rfl, rfl, rfl, rfl, rfl⟩, rfl, rfl, Try.underlying76⟩⟩
noncomputable def ty77 : TE Try.prog := ⟨77, ⟨Try.t21.desc, 1, 4, .int .i32 (0)⟩, ⟨⟨Try.t77, _, rfl, rfl, rfl, rfl, rfl⟩, rfl, rfl, Try.underlying77⟩⟩
noncomputable def ty78 : TE Try.prog := ⟨78, ⟨Try.t21.desc, 1, 4, .int .i32 (0)⟩, ⟨⟨Try.t78, _, rfl, rfl, rfl, rfl, rfl⟩, rfl, rfl, Try.underlying78⟩⟩
noncomputable def ty79 : TE Try.prog := ⟨79, ⟨Try.t79.desc, 11, 48, .agg [.int .u64 (0), .int .u64 (0), .int .u32 (0), .int .u8 (0), .int .u8 (0), .int .u8 (0), .int .u8 (0), .nilf, .nilp, .int .i32 (0), .int .i32 (0)]⟩, ⟨⟨Try.t79, _, rfl, rfl, rfl, rfl, rfl⟩, rfl, rfl, Try.underlying79⟩⟩
noncomputable def ty80 : TE Try.prog := ⟨80, ⟨Try.t79.desc, 11, 48, .agg [.int .u64 (0), .int .u64 (0), .int .u32 (0), .int .u8 (0), .int .u8 (0), .int .u8 (0), .int .u8 (0), .nilf, .nilp, .int .i32 (0), .int .i32 (0)]⟩, ⟨⟨Try.t80, _, rfl, rfl, rfl, rfl, rfl⟩, rfl, rfl, Try.underlying80⟩⟩
noncomputable def ty81 : TE Try.prog := ⟨81, ⟨Try.t81.desc, 1, 8, .nilp⟩, ⟨⟨Try.t81, _, rfl, rfl, rfl, rfl, rfl⟩, rfl, rfl, Try.underlying81⟩⟩
noncomputable def fu2 : FE Try.prog := ⟨2, ⟨Try.f2.body.getD .skip, 1, [], some [false]⟩, ⟨⟨Try.f2, Try.func2, rfl, rfl, rfl⟩, Try.call2⟩⟩
noncomputable def fu3 : FE Try.prog := ⟨3, ⟨Try.f3.body.getD .skip, 163, [.tmp 6], some [true, true, true, false, false, false, true, true, true, true, true, true, true, true, true, true, true, true, true, true, true, true, true, true, false, false, false, false, false, false, false, false, false, false, true, false, false, false, false, false, false, false, false, false, false, false, false, false, false, false, false, false, false, false, false, false, false, false, false, false, false, false, false, false, false, false, false, false, false, true, false, true, true, true, false, false, false, false, false, false, false, false, false, false, false, false, false, false, false, false, false, false, false, false, false, false, false, false, false, false, false, false, false, false, false, false, true, false, true, true, true, false, false, false, false, false, false, false, false, false, false, false, false, false, false, false, true, false, false, false, false, false, false, false, false, false, false, false, false, false, false, false, true, true, true, false, false, false, false, false, false, false, false, false, false, false, false, false, false, false, false, false, false]⟩, ⟨⟨Try.f3, Try.func3, rfl, rfl, rfl⟩, Try.call3⟩⟩
noncomputable def fu4 : FE Try.prog := ⟨4, ⟨Try.f4.body.getD .skip, 45, [.tmp 2], some [true, false, true, true, true, false, false, false, false, false, false, false, true, false, false, false, false, false, false, false, false, false, false, false, false, false, false, false, false, false, false, false, false, false, false, false, false, false, false, false, false, false, false, false, false]⟩, ⟨⟨Try.f4, Try.func4, rfl, rfl, rfl⟩, Try.call4⟩⟩
noncomputable def fu5 : FE Try.prog := ⟨5, ⟨Try.f5.body.getD .skip, 92, [.tmp 2], some [true, false, true, true, true, true, true, true, true, true, false, false, true, false, false, false, false, false, false, false, false, false, false, false, false, false, false, false, false, false, false, false, false, false, false, false, false, false, false, false, false, false, false, false, false, false, false, false, false, false, false, false, false, false, false, false, false, false, false, true, false, true, true, true, false, false, false, false, false, false, true, true, true, false, false, false, false, false, false, false, false, false, false, false, false, false, false, false, false, false, false, false]⟩, ⟨⟨Try.f5, Try.func5, rfl, rfl, rfl⟩, Try.call5⟩⟩
noncomputable def fu6 : FE Try.prog := ⟨6, ⟨Try.f6.body.getD .skip, 125, [.tmp 4], some [true, true, false, false, true, true, true, true, true, true, true, true, true, true, true, true, false, false, false, false, false, false, false, false, false, false, false, true, false, false, false, false, false, false, false, true, false, false, false, false, false, false, false, false, false, false, false, false, false, true, false, false, false, false, false, false, true, false, false, false, false, false, false, false, false, false, false, false, false, false, false, false, false, false, false, false, false, false, false, false, false, false, false, false, false, false, false, false, false, false, false, false, false, true, false, false, false, false, false, false, false, false, false, false, false, false, false, false, false, false, false, false, false, false, false, false, false, false, false, false, false, false, false, false, false]⟩, ⟨⟨Try.f6, Try.func6, rfl, rfl, rfl⟩, Try.call6⟩⟩
noncomputable def fu7 : FE Try.prog := ⟨7, ⟨Try.f7.body.getD .skip, 151, [.tmp 4], some [true, true, false, false, true, true, true, true, true, true, true, true, true, true, false, true, true, true, true, true, false, true, false, false, false, false, false, false, false, true, false, false, true, true, true, false, false, false, false, false, false, true, false, false, false, false, false, false, false, false, false, false, false, false, false, false, false, false, false, false, false, false, false, false, false, false, false, false, false, false, false, true, false, false, false, false, false, false, true, true, true, true, false, false, false, false, false, false, false, false, false, false, false, false, false, false, false, false, false, false, false, false, false, false, false, false, false, true, false, false, false, false, false, false, false, false, false, false, false, false, false, false, false, false, false, false, false, false, false, false, false, false, false, false, false, false, false, false, false, false, false, false, false, false, false, false, false, false, false, false, false]⟩, ⟨⟨Try.f7, Try.func7, rfl, rfl, rfl⟩, Try.call7⟩⟩
noncomputable def fu8 : FE Try.prog := ⟨8, ⟨Try.f8.body.getD .skip, 311, [.tmp 0], some [true, false, true, false, true, false, true, false, true, true, false, true, true, true, true, true, true, true, true, true, true, false, true, false, true, false, true, true, false, true, false, true, false, true, true, true, true, false, false, false, false, false, false, false, false, false, false, false, false, false, false, false, false, false, false, false, false, false, false, false, false, false, false, false, false, false, false, false, false, false, false, false, false, false, false, false, false, false, false, false, false, false, false, false, false, false, false, false, false, false, false, false, false, false, false, false, false, false, false, false, false, false, false, false, false, false, false, false, false, false, false, false, false, false, false, false, false, false, false, false, false, false, false, false, false, false, false, false, false, false, false, false, false, false, false, false, false, false, false, false, false, false, false, false, false, false, false, false, false, false, false, false, false, false, false, false, false, false, false, false, false, false, false, false, false, false, false, false, false, false, false, false, false, false, false, false, false, false, false, false, false, false, false, false, false, false, false, false, false, false, false, false, false, false, false, false, false, false, false, false, false, false, false, false, false, false, false, false, false, false, false, false, false, false, false, false, false, false, false, false, false, false, false, false, false, false, false, false, false, false, false, false, false, false, false, false, false, false, false, false, false, false, false, false, false, false, false, false, false, false, false, false, false, false, false, false, false, false, false, false, false, false, false, false, false, false, false, false, false, false, false, false, false, false, false, false, false, false, false, false, false, false, false, false, false, false, false, false, false, false, false, false, false, false, false, false, false, false, false, false, false, false, false, false, false, false, false, false, false, false, false]⟩, ⟨⟨Try.f8, Try.func8, rfl, rfl, rfl⟩, Try.call8⟩⟩
noncomputable def fu9 : FE Try.prog := ⟨9, ⟨Try.f9.body.getD .skip, 26, [.tmp 2], some [true, false, true, true, true, false, true, true, true, false, false, false, false, false, false, false, false, false, false, false, false, false, false, false, false, false]⟩, ⟨⟨Try.f9, Try.func9, rfl, rfl, rfl⟩, Try.call9⟩⟩
noncomputable def fu10 : FE Try.prog := ⟨10, ⟨Try.f10.body.getD .skip, 45, [.tmp 2, .tmp 3], some [true, false, true, true, true, false, true, true, true, true, true, true, false, false, false, false, true, false, false, false, false, false, false, false, true, true, true, false, false, false, false, false, false, false, false, false, false, false, false, false, false, false, false, false, false]⟩, ⟨⟨Try.f10, Try.func10, rfl, rfl, rfl⟩, Try.call10⟩⟩
noncomputable def fu11 : FE Try.prog := ⟨11, ⟨Try.f11.body.getD .skip, 28, [.tmp 2, .tmp 3], some [true, false, true, true, true, true, true, false, false, false, true, false, false, false, false, false, false, false, false, true, false, false, false, false, false, false, false, false]⟩, ⟨⟨Try.f11, Try.func11, rfl, rfl, rfl⟩, Try.call11⟩⟩
noncomputable def fu12 : FE Try.prog := ⟨12, ⟨Try.f12.body.getD .skip, 8, [.tmp 4], some [true, true, false, false, true, false, false, false]⟩, ⟨⟨Try.f12, Try.func12, rfl, rfl, rfl⟩, Try.call12⟩⟩
noncomputable def fu13 : FE Try.prog := ⟨13, ⟨Try.f13.body.getD .skip, 43, [.tmp 4], some [true, true, false, false, true, true, false, false, false, false, true, false, false, false, true, false, false, false, false, false, false, false, false, false, false, false, false, false, false, false, false, false, false, false, false, false, false, false, false, false, false, false, true]⟩, ⟨⟨Try.f13, Try.func13, rfl, rfl, rfl⟩, Try.call13⟩⟩
noncomputable def fu14 : FE Try.prog := ⟨14, ⟨Try.f14.body.getD .skip, 33, [.tmp 2, .tmp 3], some [true, true, true, true, false, false, true, true, false, false, false, false, false, false, true, false, false, false, false, true, false, false, false, false, false, false, false, false, false, false, false, false, false]⟩, ⟨⟨Try.f14, Try.func14, rfl, rfl, rfl⟩, Try.call14⟩⟩
noncomputable def fu15 : FE Try.prog := ⟨15, ⟨Try.f15.body.getD .skip, 31, [.tmp 2, .tmp 3], some [true, true, true, true, true, false, false, false, true, false, false, true, false, false, false, false, false, true, false, false, false, false, false, false, false, false, true, false, false, false, false]⟩, ⟨⟨Try.f15, Try.func15, rfl, rfl, rfl⟩, Try.call15⟩⟩
noncomputable def fu16 : FE Try.prog := ⟨16, ⟨Try.f16.body.getD .skip, 24, [.cell 2 32, .tmp 3], some [true, false, true, true, true, true, false, false, true, false, false, false, true, false, false, false, false, true, false, false, false, false, false, false]⟩, ⟨⟨Try.f16, Try.func16, rfl, rfl, rfl⟩, Try.call16⟩⟩
noncomputable def fu17 : FE Try.prog := ⟨17, ⟨Try.f17.body.getD .skip, 24, [.cell 2 32, .tmp 3], some [true, false, true, true, true, false, false, true, false, false, false, false, false, false, true, false, false, false, true, false, false, false, false, false]⟩, ⟨⟨Try.f17, Try.func17, rfl, rfl, rfl⟩, Try.call17⟩⟩
noncomputable def fu18 : FE Try.prog := ⟨18, ⟨Try.f18.body.getD .skip, 8, [.tmp 0], some [true, false, false, false, false, false, false, false]⟩, ⟨⟨Try.f18, Try.func18, rfl, rfl, rfl⟩, Try.call18⟩⟩
noncomputable def fu19 : FE Try.prog := ⟨19, ⟨Try.f19.body.getD .skip, 8, [.tmp 4], some [true, true, false, false, true, false, false, false]⟩, ⟨⟨Try.f19, Try.func19, rfl, rfl, rfl⟩, Try.call19⟩⟩
noncomputable def fu20 : FE Try.prog := ⟨20, ⟨Try.f20.body.getD .skip, 17, [.tmp 2], some [true, false, true, false, false, false, false, false, false, false, false, false, false, false, false, false, false]⟩, ⟨⟨Try.f20, Try.func20, rfl, rfl, rfl⟩, Try.call20⟩⟩
noncomputable def fu21 : FE Try.prog := ⟨21, ⟨Try.f21.body.getD .skip, 22, [.tmp 2, .tmp 3], some [true, false, true, true, true, true, true, true, false, true, true, true, false, true, false, false, false, false, false, true, false, false]⟩, ⟨⟨Try.f21, Try.func21, rfl, rfl, rfl⟩, Try.call21⟩⟩
noncomputable def fu22 : FE Try.prog := ⟨22, ⟨Try.f22.body.getD .skip, 97, [.tmp 2, .tmp 3], some [true, false, true, true, true, true, true, true, false, false, false, true, false, false, false, false, false, false, false, false, false, false, false, false, false, true, false, false, false, false, false, false, false, false, false, true, false, false, false, true, false, false, false, false, false, false, false, false, false, false, false, true, false, false, false, false, true, false, false, false, false, false, false, false, false, false, false, false, false, false, false, false, false, false, false, false, false, true, false, false, false, false, false, false, false, false, false, false, false, false, false, false, false, false, false, false, false]⟩, ⟨⟨Try.f22, Try.func22, rfl, rfl, rfl⟩, Try.call22⟩⟩
noncomputable def fu23 : FE Try.prog := ⟨23, ⟨Try.f23.body.getD .skip, 22, [.cell 2 4], some [true, false, true, true, true, false, true, false, true, true, true, false, false, false, false, false, false, false, false, false, false, true]⟩, ⟨⟨Try.f23, Try.func23, rfl, rfl, rfl⟩, Try.call23⟩⟩
noncomputable def fu24 : FE Try.prog := ⟨24, ⟨Try.f24.body.getD .skip, 31, [.tmp 2], some [true, false, true, true, true, true, false, true, false, false, false, false, false, false, true, false, false, false, true, false, false, false, false, false, false, false, false, false, false, false, true]⟩, ⟨⟨Try.f24, Try.func24, rfl, rfl, rfl⟩, Try.call24⟩⟩
noncomputable def fu25 : FE Try.prog := ⟨25, ⟨Try.f25.body.getD .skip, 15, [.tmp 2], some [true, false, true, false, false, true, false, false, false, false, false, false, false, false, false]⟩, ⟨⟨Try.f25, Try.func25, rfl, rfl, rfl⟩, Try.call25⟩⟩
noncomputable def fu26 : FE Try.prog := ⟨26, ⟨Try.f26.body.getD .skip, 20, [.tmp 4], some [true, true, false, false, true, true, true, false, false, false, false, false, false, false, false, false, false, false, false, false]⟩, ⟨⟨Try.f26, Try.func26, rfl, rfl, rfl⟩, Try.call26⟩⟩
noncomputable def fu27 : FE Try.prog := ⟨27, ⟨Try.f27.body.getD .skip, 28, [.tmp 4], some [true, true, false, false, true, true, true, false, false, false, false, false, false, false, false, false, false, false, false, false, false, false, false, false, false, false, false, false]⟩, ⟨⟨Try.f27, Try.func27, rfl, rfl, rfl⟩, Try.call27⟩⟩
noncomputable def fu28 : FE Try.prog := ⟨28, ⟨Try.f28.body.getD .skip, 30, [.tmp 2], some [true, true, true, true, false, false, false, true, false, false, false, false, false, true, false, false, false, false, false, true, false, false, false, false, false, false, false, false, false, false]⟩, ⟨⟨Try.f28, Try.func28, rfl, rfl, rfl⟩, Try.call28⟩⟩
noncomputable def fu29 : FE Try.prog := ⟨29, ⟨Try.f29.body.getD .skip, 14, [.tmp 2], some [true, false, true, true, true, true, false, true, false, false, false, false, false, false]⟩, ⟨⟨Try.f29, Try.func29, rfl, rfl, rfl⟩, Try.call29⟩⟩
noncomputable def fu30 : FE Try.prog := ⟨30, ⟨Try.f30.body.getD .skip, 32, [.tmp 2], some [true, true, true, true, false, false, false, false, false, false, false, false, false, false, true, false, false, false, false, false, false, false, true, false, false, false, false, true, false, false, false, false]⟩, ⟨⟨Try.f30, Try.func30, rfl, rfl, rfl⟩, Try.call30⟩⟩
noncomputable def fu31 : FE Try.prog := ⟨31, ⟨Try.f31.body.getD .skip, 35, [.tmp 2], some [true, true, true, true, true, false, false, false, false, false, false, false, false, true, false, false, false, false, false, false, false, true, false, false, false, false, false, false, false, false, false, false, false, false, false]⟩, ⟨⟨Try.f31, Try.func31, rfl, rfl, rfl⟩, Try.call31⟩⟩
noncomputable def fu32 : FE Try.prog := ⟨32, ⟨Try.f32.body.getD .skip, 32, [.tmp 6], some [true, true, true, false, false, false, true, true, true, true, false, false, false, false, true, true, true, true, true, false, false, false, false, false, false, false, false, false, false, false, true, false]⟩, ⟨⟨Try.f32, Try.func32, rfl, rfl, rfl⟩, Try.call32⟩⟩
noncomputable def fu33 : FE Try.prog := ⟨33, ⟨Try.f33.body.getD .skip, 17, [.tmp 4], some [true, true, true, true, true, false, false, false, false, false, false, false, false, false, false, false, false]⟩, ⟨⟨Try.f33, Try.func33, rfl, rfl, rfl⟩, Try.call33⟩⟩
noncomputable def fu34 : FE Try.prog := ⟨34, ⟨Try.f34.body.getD .skip, 10, [.tmp 4], some [true, true, false, false, true, false, false, false, false, false]⟩, ⟨⟨Try.f34, Try.func34, rfl, rfl, rfl⟩, Try.call34⟩⟩
noncomputable def fu35 : FE Try.prog := ⟨35, ⟨Try.f35.body.getD .skip, 8, [.tmp 2], some [true, false, true, false, true, false, false, false]⟩, ⟨⟨Try.f35, Try.func35, rfl, rfl, rfl⟩, Try.call35⟩⟩
noncomputable def fu36 : FE Try.prog := ⟨36, ⟨Try.f36.body.getD .skip, 7, [.tmp 2], some [true, false, true, true, false, false, false]⟩, ⟨⟨Try.f36, Try.func36, rfl, rfl, rfl⟩, Try.call36⟩⟩
noncomputable def fu37 : FE Try.prog := ⟨37, ⟨Try.f37.body.getD .skip, 18, [.tmp 4], some [true, true, false, false, true, false, false, false, false, false, false, false, false, false, false, false, false, false]⟩, ⟨⟨Try.f37, Try.func37, rfl, rfl, rfl⟩, Try.call37⟩⟩
noncomputable def fu38 : FE Try.prog := ⟨38, ⟨Try.f38.body.getD .skip, 4, [.tmp 2], some [true, true, true, false]⟩, ⟨⟨Try.f38, Try.func38, rfl, rfl, rfl⟩, Try.call38⟩⟩
noncomputable def fu39 : FE Try.prog := ⟨39, ⟨Try.f39.body.getD .skip, 42, [], some [true, true, false, true, true, true, false, false, true, false, false, false, false, false, false, true, false, false, false, false, false, false, false, false, true, false, false, false, false, false, false, false, false, false, false, false, true, false, false, false, false, false]⟩, ⟨⟨Try.f39, Try.func39, rfl, rfl, rfl⟩, Try.call39⟩⟩
noncomputable def fu40 : FE Try.prog := ⟨40, ⟨Try.f40.body.getD .skip, 56, [.tmp 2, .tmp 3], some [true, false, true, true, true, true, true, true, false, false, false, false, false, false, false, false, false, false, false, true, true, false, false, false, false, false, true, true, true, true, false, false, false, false, false, false, false, false, false, false, false, true, false, false, false, false, false, false, false, false, false, false, true, false, false, false]⟩, ⟨⟨Try.f40, Try.func40, rfl, rfl, rfl⟩, Try.call40⟩⟩
noncomputable def eqs : List (QE Try.prog) := []
noncomputable def env : Env := { P := Try.prog, mixed := by kernel_rfl, types := (.node 41 (.node 20 (.node 10 (.node 5 (.node 2 (.node 1 (.leaf ty0) (.leaf ty1)) (.node 3 (.leaf ty2) (.node 4 (.leaf ty3) (.leaf ty4)))) (.node 7 (.node 6 (.leaf ty5) (.leaf ty6)) (.node 8 (.leaf ty7) (.node 9 (.leaf ty8) (.leaf ty9))))) (.node 15 (.node 12 (.node 11 (.leaf ty10) (.leaf ty11)) (.node 13 (.leaf ty12) (.node 14 (.leaf ty13) (.leaf ty14)))) (.node 17 (.node 16 (.leaf ty15) (.leaf ty16)) (.node 18 (.leaf ty17) (.node 19 (.leaf ty18) (.leaf ty19)))))) (.node 30 (.node 25 (.node 22 (.node 21 (.leaf ty20) (.leaf ty21)) (.node 23 (.leaf ty22) (.node 24 (.leaf ty23) (.leaf ty24)))) (.node 27 (.node 26 (.leaf ty25) (.leaf ty26)) (.node 28 (.leaf ty27) (.node 29 (.leaf ty28) (.leaf ty29))))) (.node 35 (.node 32 (.node 31 (.leaf ty30) (.leaf ty31)) (.node 33 (.leaf ty32) (.node 34 (.leaf ty33) (.leaf ty34)))) (.node 38 (.node 36 (.leaf ty35) (.node 37 (.leaf ty36) (.leaf ty37))) (.node 39 (.leaf ty38) (.node 40 (.leaf ty39) (.leaf ty40))))))) (.node 61 (.node 51 (.node 46 (.node 43 (.node 42 (.leaf ty41) (.leaf ty42)) (.node 44 (.leaf ty43) (.node 45 (.leaf ty44) (.leaf ty45)))) (.node 48 (.node 47 (.leaf ty46) (.leaf ty47)) (.node 49 (.leaf ty48) (.node 50 (.leaf ty49) (.leaf ty50))))) (.node 56 (.node 53 (.node 52 (.leaf ty51) (.leaf ty52)) (.node 54 (.leaf ty53) (.node 55 (.leaf ty54) (.leaf ty55)))) (.node 58 (.node 57 (.leaf ty56) (.leaf ty57)) (.node 59 (.leaf ty58) (.node 60 (.leaf ty59) (.leaf ty60)))))) (.node 71 (.node 66 (.node 63 (.node 62 (.leaf ty61) (.leaf ty62)) (.node 64 (.leaf ty63) (.node 65 (.leaf ty64) (.leaf ty65)))) (.node 68 (.node 67 (.leaf ty66) (.leaf ty67)) (.node 69 (.leaf ty68) (.node 70 (.leaf ty69) (.leaf ty70))))) (.node 76 (.node 73 (.node 72 (.leaf ty71) (.leaf ty72)) (.node 74 (.leaf ty73) (.node 75 (.leaf ty74) (.leaf ty75)))) (.node 79 (.node 77 (.leaf ty76) (.node 78 (.leaf ty77) (.leaf ty78))) (.node 80 (.leaf ty79) (.node 81 (.leaf ty80) (.leaf ty81)))))))), funcs := (.node 21 (.node 11 (.node 6 (.node 4 (.node 3 (.leaf fu2) (.leaf fu3)) (.node 5 (.leaf fu4) (.leaf fu5))) (.node 8 (.node 7 (.leaf fu6) (.leaf fu7)) (.node 9 (.leaf fu8) (.node 10 (.leaf fu9) (.leaf fu10))))) (.node 16 (.node 13 (.node 12 (.leaf fu11) (.leaf fu12)) (.node 14 (.leaf fu13) (.node 15 (.leaf fu14) (.leaf fu15)))) (.node 18 (.node 17 (.leaf fu16) (.leaf fu17)) (.node 19 (.leaf fu18) (.node 20 (.leaf fu19) (.leaf fu20)))))) (.node 31 (.node 26 (.node 23 (.node 22 (.leaf fu21) (.leaf fu22)) (.node 24 (.leaf fu23) (.node 25 (.leaf fu24) (.leaf fu25)))) (.node 28 (.node 27 (.leaf fu26) (.leaf fu27)) (.node 29 (.leaf fu28) (.node 30 (.leaf fu29) (.leaf fu30))))) (.node 36 (.node 33 (.node 32 (.leaf fu31) (.leaf fu32)) (.node 34 (.leaf fu33) (.node 35 (.leaf fu34) (.leaf fu35)))) (.node 38 (.node 37 (.leaf fu36) (.leaf fu37)) (.node 39 (.leaf fu38) (.node 40 (.leaf fu39) (.leaf fu40))))))), hooks := [], eqs := eqs }
theorem ti0 : ti env 0 = M.pure ⟨Go.TypeDesc.tuple #[], 1, 0, .tup []⟩ := rfl
theorem ti1 : ti env 1 = M.pure ⟨Go.TypeDesc.func #[] #[] false, 1, 8, .nilf⟩ := rfl
theorem ti2 : ti env 2 = M.pure ⟨Go.TypeDesc.int (Go.IntKind.i64), 1, 8, .int .i64 (0)⟩ := rfl
theorem ti3 : ti env 3 = M.pure ⟨Go.TypeDesc.int (Go.IntKind.i64), 1, 8, .int .i64 (0)⟩ := rfl
theorem ti4 : ti env 4 = M.pure ⟨Go.TypeDesc.bool, 1, 1, .bool false⟩ := rfl
theorem ti5 : ti env 5 = M.pure ⟨Go.TypeDesc.int (Go.IntKind.u8), 1, 1, .int .u8 (0)⟩ := rfl
theorem ti6 : ti env 6 = M.pure ⟨Go.TypeDesc.int (Go.IntKind.u8), 1, 1, .int .u8 (0)⟩ := rfl
theorem ti7 : ti env 7 = M.pure ⟨Go.TypeDesc.struct #[{ name := "x", type := 2, offset := 0, embedded := false, tag := "", pkgPath := "runtime", byteOffset := 0 }, { name := "y", type := 3, offset := 1, embedded := false, tag := "", pkgPath := "runtime", byteOffset := 8 }, { name := "signed", type := 4, offset := 2, embedded := false, tag := "", pkgPath := "runtime", byteOffset := 16 }, { name := "code", type := 6, offset := 3, embedded := false, tag := "", pkgPath := "runtime", byteOffset := 17 }], 4, 24, .agg [.int .i64 (0), .int .i64 (0), .bool false, .int .u8 (0)]⟩ := rfl
theorem ti8 : ti env 8 = M.pure ⟨Go.TypeDesc.struct #[{ name := "x", type := 2, offset := 0, embedded := false, tag := "", pkgPath := "runtime", byteOffset := 0 }, { name := "y", type := 3, offset := 1, embedded := false, tag := "", pkgPath := "runtime", byteOffset := 8 }, { name := "signed", type := 4, offset := 2, embedded := false, tag := "", pkgPath := "runtime", byteOffset := 16 }, { name := "code", type := 6, offset := 3, embedded := false, tag := "", pkgPath := "runtime", byteOffset := 17 }], 4, 24, .agg [.int .i64 (0), .int .i64 (0), .bool false, .int .u8 (0)]⟩ := rfl
theorem ti9 : ti env 9 = M.pure ⟨Go.TypeDesc.string, 1, 16, .str []⟩ := rfl
theorem ti10 : ti env 10 = M.pure ⟨Go.TypeDesc.string, 1, 16, .str []⟩ := rfl
theorem ti11 : ti env 11 = M.pure ⟨Go.TypeDesc.string, 1, 16, .str []⟩ := rfl
theorem ti12 : ti env 12 = M.pure ⟨Go.TypeDesc.int (Go.IntKind.u64), 1, 8, .int .u64 (0)⟩ := rfl
theorem ti13 : ti env 13 = M.pure ⟨Go.TypeDesc.struct #[{ name := "msg", type := 9, offset := 0, embedded := false, tag := "", pkgPath := "runtime", byteOffset := 0 }, { name := "addr", type := 12, offset := 1, embedded := false, tag := "", pkgPath := "runtime", byteOffset := 16 }], 2, 24, .agg [.str [], .int .u64 (0)]⟩ := rfl
theorem ti14 : ti env 14 = M.pure ⟨Go.TypeDesc.struct #[{ name := "msg", type := 9, offset := 0, embedded := false, tag := "", pkgPath := "runtime", byteOffset := 0 }, { name := "addr", type := 12, offset := 1, embedded := false, tag := "", pkgPath := "runtime", byteOffset := 16 }], 2, 24, .agg [.str [], .int .u64 (0)]⟩ := rfl
theorem ti15 : ti env 15 = M.pure ⟨Go.TypeDesc.pointer 67, 1, 8, .nilp⟩ := rfl
theorem ti16 : ti env 16 = M.pure ⟨Go.TypeDesc.pointer 70, 1, 8, .nilp⟩ := rfl
theorem ti17 : ti env 17 = M.pure ⟨Go.TypeDesc.pointer 80, 1, 8, .nilp⟩ := rfl
theorem ti18 : ti env 18 = M.pure ⟨Go.TypeDesc.struct #[{ name := "typ", type := 17, offset := 0, embedded := false, tag := "", pkgPath := "internal/runtime/maps", byteOffset := 0 }], 1, 8, .agg [.nilp]⟩ := rfl
theorem ti19 : ti env 19 = M.pure ⟨Go.TypeDesc.struct #[{ name := "typ", type := 17, offset := 0, embedded := false, tag := "", pkgPath := "internal/runtime/maps", byteOffset := 0 }], 1, 8, .agg [.nilp]⟩ := rfl
theorem ti20 : ti env 20 = M.pure ⟨Go.TypeDesc.interface #[], 1, 16, .nili⟩ := rfl
theorem ti21 : ti env 21 = M.pure ⟨Go.TypeDesc.int (Go.IntKind.i32), 1, 4, .int .i32 (0)⟩ := rfl
theorem ti22 : ti env 22 = M.pure ⟨Go.TypeDesc.slice 32, 1, 24, .nils⟩ := rfl
theorem ti23 : ti env 23 = M.pure ⟨Go.TypeDesc.slice 5, 1, 24, .nils⟩ := rfl
theorem ti24 : ti env 24 = M.pure ⟨Go.TypeDesc.func #[22] #[4] false, 1, 8, .nilf⟩ := rfl
theorem ti25 : ti env 25 = M.pure ⟨Go.TypeDesc.int (Go.IntKind.i64), 1, 8, .int .i64 (0)⟩ := rfl
theorem ti26 : ti env 26 = M.pure ⟨Go.TypeDesc.tuple #[23, 25], 1, 0, .tup [.nils, .int .i64 (0)]⟩ := rfl
theorem ti27 : ti env 27 = M.pure ⟨Go.TypeDesc.func #[22] #[23, 25] false, 1, 8, .nilf⟩ := rfl
theorem ti28 : ti env 28 = M.pure ⟨Go.TypeDesc.tuple #[23, 3], 1, 0, .tup [.nils, .int .i64 (0)]⟩ := rfl
theorem ti29 : ti env 29 = M.pure ⟨Go.TypeDesc.func #[22] #[23, 3] false, 1, 8, .nilf⟩ := rfl
theorem ti30 : ti env 30 = M.pure ⟨Go.TypeDesc.func #[22, 22] #[4] false, 1, 8, .nilf⟩ := rfl
theorem ti31 : ti env 31 = M.pure ⟨Go.TypeDesc.struct #[{ name := "Code", type := 5, offset := 0, embedded := false, tag := "", pkgPath := "", byteOffset := 0 }, { name := "Data", type := 23, offset := 1, embedded := false, tag := "", pkgPath := "", byteOffset := 8 }], 2, 32, .agg [.int .u8 (0), .nils]⟩ := rfl
theorem ti32 : ti env 32 = M.pure ⟨Go.TypeDesc.struct #[{ name := "Code", type := 5, offset := 0, embedded := false, tag := "", pkgPath := "", byteOffset := 0 }, { name := "Data", type := 23, offset := 1, embedded := false, tag := "", pkgPath := "", byteOffset := 8 }], 2, 32, .agg [.int .u8 (0), .nils]⟩ := rfl
theorem ti33 : ti env 33 = M.pure ⟨Go.TypeDesc.tuple #[23, 4], 1, 0, .tup [.nils, .bool false]⟩ := rfl
theorem ti34 : ti env 34 = M.pure ⟨Go.TypeDesc.func #[32] #[23, 4] false, 1, 8, .nilf⟩ := rfl
theorem ti35 : ti env 35 = M.pure ⟨Go.TypeDesc.tuple #[32, 25], 1, 0, .tup [.agg [.int .u8 (0), .nils], .int .i64 (0)]⟩ := rfl
theorem ti36 : ti env 36 = M.pure ⟨Go.TypeDesc.func #[23] #[32, 25] false, 1, 8, .nilf⟩ := rfl
theorem ti37 : ti env 37 = M.pure ⟨Go.TypeDesc.tuple #[32, 3], 1, 0, .tup [.agg [.int .u8 (0), .nils], .int .i64 (0)]⟩ := rfl
theorem ti38 : ti env 38 = M.pure ⟨Go.TypeDesc.func #[23] #[32, 3] false, 1, 8, .nilf⟩ := rfl
theorem ti39 : ti env 39 = M.pure ⟨Go.TypeDesc.func #[22, 22, 23] #[4] false, 1, 8, .nilf⟩ := rfl
theorem ti40 : ti env 40 = M.pure ⟨Go.TypeDesc.func #[] #[4] false, 1, 8, .nilf⟩ := rfl
theorem ti41 : ti env 41 = M.pure ⟨Go.TypeDesc.func #[9, 9] #[4] false, 1, 8, .nilf⟩ := rfl
theorem ti42 : ti env 42 = M.pure ⟨Go.TypeDesc.func #[23] #[4] false, 1, 8, .nilf⟩ := rfl
theorem ti43 : ti env 43 = M.pure ⟨Go.TypeDesc.tuple #[22, 25], 1, 0, .tup [.nils, .int .i64 (0)]⟩ := rfl
theorem ti44 : ti env 44 = M.pure ⟨Go.TypeDesc.func #[23] #[22, 25] false, 1, 8, .nilf⟩ := rfl
theorem ti45 : ti env 45 = M.pure ⟨Go.TypeDesc.tuple #[22, 3], 1, 0, .tup [.nils, .int .i64 (0)]⟩ := rfl
theorem ti46 : ti env 46 = M.pure ⟨Go.TypeDesc.func #[23] #[22, 3] false, 1, 8, .nilf⟩ := rfl
theorem ti47 : ti env 47 = M.pure ⟨Go.TypeDesc.func #[23, 22] #[4] false, 1, 8, .nilf⟩ := rfl
theorem ti48 : ti env 48 = M.pure ⟨Go.TypeDesc.slice 23, 1, 24, .nils⟩ := rfl
theorem ti49 : ti env 49 = M.pure ⟨Go.TypeDesc.func #[48, 5] #[4] false, 1, 8, .nilf⟩ := rfl
theorem ti50 : ti env 50 = M.pure ⟨Go.TypeDesc.func #[9, 22] #[4] true, 1, 8, .nilf⟩ := rfl
theorem ti51 : ti env 51 = M.pure ⟨Go.TypeDesc.func #[3, 5] #[4] false, 1, 8, .nilf⟩ := rfl
theorem ti52 : ti env 52 = M.pure ⟨Go.TypeDesc.func #[32] #[4] false, 1, 8, .nilf⟩ := rfl
theorem ti53 : ti env 53 = M.pure ⟨Go.TypeDesc.func #[5] #[3] false, 1, 8, .nilf⟩ := rfl
theorem ti54 : ti env 54 = M.pure ⟨Go.TypeDesc.func #[32] #[23] false, 1, 8, .nilf⟩ := rfl
theorem ti55 : ti env 55 = M.pure ⟨Go.TypeDesc.func #[22, 22, 57] #[4] false, 1, 8, .nilf⟩ := rfl
theorem ti56 : ti env 56 = M.pure ⟨Go.TypeDesc.func #[23, 23] #[4] false, 1, 8, .nilf⟩ := rfl
theorem ti57 : ti env 57 = M.pure ⟨Go.TypeDesc.func #[32, 32] #[4] false, 1, 8, .nilf⟩ := rfl
theorem ti58 : ti env 58 = M.pure ⟨Go.TypeDesc.func #[23] #[23] false, 1, 8, .nilf⟩ := rfl
theorem ti59 : ti env 59 = M.pure ⟨Go.TypeDesc.func #[62] #[] false, 1, 8, .nilf⟩ := rfl
theorem ti60 : ti env 60 = M.pure ⟨Go.TypeDesc.func #[62] #[] false, 1, 8, .nilf⟩ := rfl
theorem ti61 : ti env 61 = M.pure ⟨Go.TypeDesc.func #[23] #[60] false, 1, 8, .nilf⟩ := rfl
theorem ti62 : ti env 62 = M.pure ⟨Go.TypeDesc.func #[32, 4] #[4] false, 1, 8, .nilf⟩ := rfl
theorem ti63 : ti env 63 = M.pure ⟨Go.TypeDesc.tuple #[3, 3], 1, 0, .tup [.int .i64 (0), .int .i64 (0)]⟩ := rfl
theorem ti64 : ti env 64 = M.pure ⟨Go.TypeDesc.func #[23] #[3, 3] false, 1, 8, .nilf⟩ := rfl
theorem ti65 : ti env 65 = M.pure ⟨Go.TypeDesc.func #[] #[9] false, 1, 8, .nilf⟩ := rfl
theorem ti66 : ti env 66 = M.pure ⟨Go.TypeDesc.struct #[{ name := "_interface", type := 17, offset := 0, embedded := false, tag := "", pkgPath := "runtime", byteOffset := 0 }, { name := "concrete", type := 17, offset := 1, embedded := false, tag := "", pkgPath := "runtime", byteOffset := 8 }, { name := "asserted", type := 17, offset := 2, embedded := false, tag := "", pkgPath := "runtime", byteOffset := 16 }, { name := "missingMethod", type := 9, offset := 3, embedded := false, tag := "", pkgPath := "runtime", byteOffset := 24 }], 4, 40, .agg [.nilp, .nilp, .nilp, .str []]⟩ := rfl
theorem ti67 : ti env 67 = M.pure ⟨Go.TypeDesc.struct #[{ name := "_interface", type := 17, offset := 0, embedded := false, tag := "", pkgPath := "runtime", byteOffset := 0 }, { name := "concrete", type := 17, offset := 1, embedded := false, tag := "", pkgPath := "runtime", byteOffset := 8 }, { name := "asserted", type := 17, offset := 2, embedded := false, tag := "", pkgPath := "runtime", byteOffset := 16 }, { name := "missingMethod", type := 9, offset := 3, embedded := false, tag := "", pkgPath := "runtime", byteOffset := 24 }], 4, 40, .agg [.nilp, .nilp, .nilp, .str []]⟩ := rfl
theorem ti68 : ti env 68 = M.pure ⟨Go.TypeDesc.array 0 16, 0, 0, .agg []⟩ := rfl
theorem ti69 : ti env 69 = M.pure ⟨Go.TypeDesc.struct #[{ name := "_", type := 68, offset := 0, embedded := false, tag := "", pkgPath := "runtime", byteOffset := 0 }], 0, 0, .agg []⟩ := rfl
theorem ti70 : ti env 70 = M.pure ⟨Go.TypeDesc.struct #[{ name := "_", type := 68, offset := 0, embedded := false, tag := "", pkgPath := "runtime", byteOffset := 0 }], 0, 0, .agg []⟩ := rfl
theorem ti71 : ti env 71 = M.pure ⟨Go.TypeDesc.func #[] #[3] false, 1, 8, .nilf⟩ := rfl
theorem ti72 : ti env 72 = M.pure ⟨Go.TypeDesc.int (Go.IntKind.u32), 1, 4, .int .u32 (0)⟩ := rfl
theorem ti73 : ti env 73 = M.pure ⟨Go.TypeDesc.int (Go.IntKind.u8), 1, 1, .int .u8 (0)⟩ := rfl
theorem ti74 : ti env 74 = M.pure ⟨Go.TypeDesc.int (Go.IntKind.u8), 1, 1, .int .u8 (0)⟩ := rfl
theorem ti75 : ti env 75 = M.pure ⟨Go.TypeDesc.func #[81, 81] #[4] false, 1, 8, .nilf⟩ := rfl
theorem ti76 : ti env 76 = M.pure ⟨Go.TypeDesc.pointer 5, 1, 8, .nilp⟩ := rfl
theorem ti77 : ti env 77 = M.pure ⟨Go.TypeDesc.int (Go.IntKind.i32), 1, 4, .int .i32 (0)⟩ := rfl
theorem ti78 : ti env 78 = M.pure ⟨Go.TypeDesc.int (Go.IntKind.i32), 1, 4, .int .i32 (0)⟩ := rfl
theorem ti79 : ti env 79 = M.pure ⟨Go.TypeDesc.struct #[{ name := "Size_", type := 12, offset := 0, embedded := false, tag := "", pkgPath := "", byteOffset := 0 }, { name := "PtrBytes", type := 12, offset := 1, embedded := false, tag := "", pkgPath := "", byteOffset := 8 }, { name := "Hash", type := 72, offset := 2, embedded := false, tag := "", pkgPath := "", byteOffset := 16 }, { name := "TFlag", type := 73, offset := 3, embedded := false, tag := "", pkgPath := "", byteOffset := 20 }, { name := "Align_", type := 5, offset := 4, embedded := false, tag := "", pkgPath := "", byteOffset := 21 }, { name := "FieldAlign_", type := 5, offset := 5, embedded := false, tag := "", pkgPath := "", byteOffset := 22 }, { name := "Kind_", type := 74, offset := 6, embedded := false, tag := "", pkgPath := "", byteOffset := 23 }, { name := "Equal", type := 75, offset := 7, embedded := false, tag := "", pkgPath := "", byteOffset := 24 }, { name := "GCData", type := 76, offset := 8, embedded := false, tag := "", pkgPath := "", byteOffset := 32 }, { name := "Str", type := 77, offset := 9, embedded := false, tag := "", pkgPath := "", byteOffset := 40 }, { name := "PtrToThis", type := 78, offset := 10, embedded := false, tag := "", pkgPath := "", byteOffset := 44 }], 11, 48, .agg [.int .u64 (0), .int .u64 (0), .int .u32 (0), .int .u8 (0), .int .u8 (0), .int .u8 (0), .int .u8 (0), .nilf, .nilp, .int .i32 (0), .int .i32 (0)]⟩ := rfl
theorem ti80 : ti env 80 = M.pure ⟨Go.TypeDesc.struct #[{ name := "Size_", type := 12, offset := 0, embedded := false, tag := "", pkgPath := "", byteOffset := 0 }, { name := "PtrBytes", type := 12, offset := 1, embedded := false, tag := "", pkgPath := "", byteOffset := 8 }, { name := "Hash", type := 72, offset := 2, embedded := false, tag := "", pkgPath := "", byteOffset := 16 }, { name := "TFlag", type := 73, offset := 3, embedded := false, tag := "", pkgPath := "", byteOffset := 20 }, { name := "Align_", type := 5, offset := 4, embedded := false, tag := "", pkgPath := "", byteOffset := 21 }, { name := "FieldAlign_", type := 5, offset := 5, embedded := false, tag := "", pkgPath := "", byteOffset := 22 }, { name := "Kind_", type := 74, offset := 6, embedded := false, tag := "", pkgPath := "", byteOffset := 23 }, { name := "Equal", type := 75, offset := 7, embedded := false, tag := "", pkgPath := "", byteOffset := 24 }, { name := "GCData", type := 76, offset := 8, embedded := false, tag := "", pkgPath := "", byteOffset := 32 }, { name := "Str", type := 77, offset := 9, embedded := false, tag := "", pkgPath := "", byteOffset := 40 }, { name := "PtrToThis", type := 78, offset := 10, embedded := false, tag := "", pkgPath := "", byteOffset := 44 }], 11, 48, .agg [.int .u64 (0), .int .u64 (0), .int .u32 (0), .int .u8 (0), .int .u8 (0), .int .u8 (0), .int .u8 (0), .nilf, .nilp, .int .i32 (0), .int .i32 (0)]⟩ := rfl
theorem ti81 : ti env 81 = M.pure ⟨Go.TypeDesc.unsafePointer, 1, 8, .nilp⟩ := rfl
theorem fi2 : (env.funcs.find 2).i = fu2.i := rfl
theorem ff2 : (env.funcs.find 2).f.beq 2 = true := rfl
theorem hk2 : ∀ args : List AVal, callF env (evalW env) 2 args = callI env (evalW env) 2 args := fun _ => rfl
theorem fg2 : ∀ tm : List AVal, forget env 2 tm = forgetL [false] tm := fun _ => rfl
theorem fi3 : (env.funcs.find 3).i = fu3.i := rfl
theorem ff3 : (env.funcs.find 3).f.beq 3 = true := rfl
theorem hk3 : ∀ args : List AVal, callF env (evalW env) 3 args = callI env (evalW env) 3 args := fun _ => rfl
theorem fg3 : ∀ tm : List AVal, forget env 3 tm = forgetL [true, true, true, false, false, false, true, true, true, true, true, true, true, true, true, true, true, true, true, true, true, true, true, true, false, false, false, false, false, false, false, false, false, false, true, false, false, false, false, false, false, false, false, false, false, false, false, false, false, false, false, false, false, false, false, false, false, false, false, false, false, false, false, false, false, false, false, false, false, true, false, true, true, true, false, false, false, false, false, false, false, false, false, false, false, false, false, false, false, false, false, false, false, false, false, false, false, false, false, false, false, false, false, false, false, false, true, false, true, true, true, false, false, false, false, false, false, false, false, false, false, false, false, false, false, false, true, false, false, false, false, false, false, false, false, false, false, false, false, false, false, false, true, true, true, false, false, false, false, false, false, false, false, false, false, false, false, false, false, false, false, false, false] tm := fun _ => rfl
theorem fi4 : (env.funcs.find 4).i = fu4.i := rfl
theorem ff4 : (env.funcs.find 4).f.beq 4 = true := rfl
theorem hk4 : ∀ args : List AVal, callF env (evalW env) 4 args = callI env (evalW env) 4 args := fun _ => rfl
theorem fg4 : ∀ tm : List AVal, forget env 4 tm = forgetL [true, false, true, true, true, false, false, false, false, false, false, false, true, false, false, false, false, false, false, false, false, false, false, false, false, false, false, false, false, false, false, false, false, false, false, false, false, false, false, false, false, false, false, false, false] tm := fun _ => rfl
theorem fi5 : (env.funcs.find 5).i = fu5.i := rfl
theorem ff5 : (env.funcs.find 5).f.beq 5 = true := rfl
theorem hk5 : ∀ args : List AVal, callF env (evalW env) 5 args = callI env (evalW env) 5 args := fun _ => rfl
theorem fg5 : ∀ tm : List AVal, forget env 5 tm = forgetL [true, false, true, true, true, true, true, true, true, true, false, false, true, false, false, false, false, false, false, false, false, false, false, false, false, false, false, false, false, false, false, false, false, false, false, false, false, false, false, false, false, false, false, false, false, false, false, false, false, false, false, false, false, false, false, false, false, false, false, true, false, true, true, true, false, false, false, false, false, false, true, true, true, false, false, false, false, false, false, false, false, false, false, false, false, false, false, false, false, false, false, false] tm := fun _ => rfl
theorem fi6 : (env.funcs.find 6).i = fu6.i := rfl
theorem ff6 : (env.funcs.find 6).f.beq 6 = true := rfl
theorem hk6 : ∀ args : List AVal, callF env (evalW env) 6 args = callI env (evalW env) 6 args := fun _ => rfl
theorem fg6 : ∀ tm : List AVal, forget env 6 tm = forgetL [true, true, false, false, true, true, true, true, true, true, true, true, true, true, true, true, false, false, false, false, false, false, false, false, false, false, false, true, false, false, false, false, false, false, false, true, false, false, false, false, false, false, false, false, false, false, false, false, false, true, false, false, false, false, false, false, true, false, false, false, false, false, false, false, false, false, false, false, false, false, false, false, false, false, false, false, false, false, false, false, false, false, false, false, false, false, false, false, false, false, false, false, false, true, false, false, false, false, false, false, false, false, false, false, false, false, false, false, false, false, false, false, false, false, false, false, false, false, false, false, false, false, false, false, false] tm := fun _ => rfl
theorem fi7 : (env.funcs.find 7).i = fu7.i := rfl
theorem ff7 : (env.funcs.find 7).f.beq 7 = true := rfl
theorem hk7 : ∀ args : List AVal, callF env (evalW env) 7 args = callI env (evalW env) 7 args := fun _ => rfl
theorem fg7 : ∀ tm : List AVal, forget env 7 tm = forgetL [true, true, false, false, true, true, true, true, true, true, true, true, true, true, false, true, true, true, true, true, false, true, false, false, false, false, false, false, false, true, false, false, true, true, true, false, false, false, false, false, false, true, false, false, false, false, false, false, false, false, false, false, false, false, false, false, false, false, false, false, false, false, false, false, false, false, false, false, false, false, false, true, false, false, false, false, false, false, true, true, true, true, false, false, false, false, false, false, false, false, false, false, false, false, false, false, false, false, false, false, false, false, false, false, false, false, false, true, false, false, false, false, false, false, false, false, false, false, false, false, false, false, false, false, false, false, false, false, false, false, false, false, false, false, false, false, false, false, false, false, false, false, false, false, false, false, false, false, false, false, false] tm := fun _ => rfl
theorem fi8 : (env.funcs.find 8).i = fu8.i := rfl
theorem ff8 : (env.funcs.find 8).f.beq 8 = true := rfl
theorem hk8 : ∀ args : List AVal, callF env (evalW env) 8 args = callI env (evalW env) 8 args := fun _ => rfl
theorem fg8 : ∀ tm : List AVal, forget env 8 tm = forgetL [true, false, true, false, true, false, true, false, true, true, false, true, true, true, true, true, true, true, true, true, true, false, true, false, true, false, true, true, false, true, false, true, false, true, true, true, true, false, false, false, false, false, false, false, false, false, false, false, false, false, false, false, false, false, false, false, false, false, false, false, false, false, false, false, false, false, false, false, false, false, false, false, false, false, false, false, false, false, false, false, false, false, false, false, false, false, false, false, false, false, false, false, false, false, false, false, false, false, false, false, false, false, false, false, false, false, false, false, false, false, false, false, false, false, false, false, false, false, false, false, false, false, false, false, false, false, false, false, false, false, false, false, false, false, false, false, false, false, false, false, false, false, false, false, false, false, false, false, false, false, false, false, false, false, false, false, false, false, false, false, false, false, false, false, false, false, false, false, false, false, false, false, false, false, false, false, false, false, false, false, false, false, false, false, false, false, false, false, false, false, false, false, false, false, false, false, false, false, false, false, false, false, false, false, false, false, false, false, false, false, false, false, false, false, false, false, false, false, false, false, false, false, false, false, false, false, false, false, false, false, false, false, false, false, false, false, false, false, false, false, false, false, false, false, false, false, false, false, false, false, false, false, false, false, false, false, false, false, false, false, false, false, false, false, false, false, false, false, false, false, false, false, false, false, false, false, false, false, false, false, false, false, false, false, false, false, false, false, false, false, false, false, false, false, false, false, false, false, false, false, false, false, false, false, false, false, false, false, false, false, false] tm := fun _ => rfl
theorem fi9 : (env.funcs.find 9).i = fu9.i := rfl
theorem ff9 : (env.funcs.find 9).f.beq 9 = true := rfl
theorem hk9 : ∀ args : List AVal, callF env (evalW env) 9 args = callI env (evalW env) 9 args := fun _ => rfl
theorem fg9 : ∀ tm : List AVal, forget env 9 tm = forgetL [true, false, true, true, true, false, true, true, true, false, false, false, false, false, false, false, false, false, false, false, false, false, false, false, false, false] tm := fun _ => rfl
theorem fi10 : (env.funcs.find 10).i = fu10.i := rfl
theorem ff10 : (env.funcs.find 10).f.beq 10 = true := rfl
theorem hk10 : ∀ args : List AVal, callF env (evalW env) 10 args = callI env (evalW env) 10 args := fun _ => rfl
theorem fg10 : ∀ tm : List AVal, forget env 10 tm = forgetL [true, false, true, true, true, false, true, true, true, true, true, true, false, false, false, false, true, false, false, false, false, false, false, false, true, true, true, false, false, false, false, false, false, false, false, false, false, false, false, false, false, false, false, false, false] tm := fun _ => rfl
theorem fi11 : (env.funcs.find 11).i = fu11.i := rfl
theorem ff11 : (env.funcs.find 11).f.beq 11 = true := rfl
theorem hk11 : ∀ args : List AVal, callF env (evalW env) 11 args = callI env (evalW env) 11 args := fun _ => rfl
theorem fg11 : ∀ tm : List AVal, forget env 11 tm = forgetL [true, false, true, true, true, true, true, false, false, false, true, false, false, false, false, false, false, false, false, true, false, false, false, false, false, false, false, false] tm := fun _ => rfl
theorem fi12 : (env.funcs.find 12).i = fu12.i := rfl
theorem ff12 : (env.funcs.find 12).f.beq 12 = true := rfl
theorem hk12 : ∀ args : List AVal, callF env (evalW env) 12 args = callI env (evalW env) 12 args := fun _ => rfl
theorem fg12 : ∀ tm : List AVal, forget env 12 tm = forgetL [true, true, false, false, true, false, false, false] tm := fun _ => rfl
theorem fi13 : (env.funcs.find 13).i = fu13.i := rfl
theorem ff13 : (env.funcs.find 13).f.beq 13 = true := rfl
theorem hk13 : ∀ args : List AVal, callF env (evalW env) 13 args = callI env (evalW env) 13 args := fun _ => rfl
theorem fg13 : ∀ tm : List AVal, forget env 13 tm = forgetL [true, true, false, false, true, true, false, false, false, false, true, false, false, false, true, false, false, false, false, false, false, false, false, false, false, false, false, false, false, false, false, false, false, false, false, false, false, false, false, false, false, false, true] tm := fun _ => rfl
theorem fi14 : (env.funcs.find 14).i = fu14.i := rfl
theorem ff14 : (env.funcs.find 14).f.beq 14 = true := rfl
theorem hk14 : ∀ args : List AVal, callF env (evalW env) 14 args = callI env (evalW env) 14 args := fun _ => rfl
theorem fg14 : ∀ tm : List AVal, forget env 14 tm = forgetL [true, true, true, true, false, false, true, true, false, false, false, false, false, false, true, false, false, false, false, true, false, false, false, false, false, false, false, false, false, false, false, false, false] tm := fun _ => rfl
theorem fi15 : (env.funcs.find 15).i = fu15.i := rfl
theorem ff15 : (env.funcs.find 15).f.beq 15 = true := rfl
theorem hk15 : ∀ args : List AVal, callF env (evalW env) 15 args = callI env (evalW env) 15 args := fun _ => rfl
theorem fg15 : ∀ tm : List AVal, forget env 15 tm = forgetL [true, true, true, true, true, false, false, false, true, false, false, true, false, false, false, false, false, true, false, false, false, false, false, false, false, false, true, false, false, false, false] tm := fun _ => rfl
theorem fi16 : (env.funcs.find 16).i = fu16.i := rfl
theorem ff16 : (env.funcs.find 16).f.beq 16 = true := rfl
theorem hk16 : ∀ args : List AVal, callF env (evalW env) 16 args = callI env (evalW env) 16 args := fun _ => rfl
theorem fg16 : ∀ tm : List AVal, forget env 16 tm = forgetL [true, false, true, true, true, true, false, false, true, false, false, false, true, false, false, false, false, true, false, false, false, false, false, false] tm := fun _ => rfl
theorem fi17 : (env.funcs.find 17).i = fu17.i := rfl
theorem ff17 : (env.funcs.find 17).f.beq 17 = true := rfl
theorem hk17 : ∀ args : List AVal, callF env (evalW env) 17 args = callI env (evalW env) 17 args := fun _ => rfl
theorem fg17 : ∀ tm : List AVal, forget env 17 tm = forgetL [true, false, true, true, true, false, false, true, false, false, false, false, false, false, true, false, false, false, true, false, false, false, false, false] tm := fun _ => rfl
theorem fi18 : (env.funcs.find 18).i = fu18.i := rfl
theorem ff18 : (env.funcs.find 18).f.beq 18 = true := rfl
theorem hk18 : ∀ args : List AVal, callF env (evalW env) 18 args = callI env (evalW env) 18 args := fun _ => rfl
theorem fg18 : ∀ tm : List AVal, forget env 18 tm = forgetL [true, false, false, false, false, false, false, false] tm := fun _ => rfl
theorem fi19 : (env.funcs.find 19).i = fu19.i := rfl
theorem ff19 : (env.funcs.find 19).f.beq 19 = true := rfl
theorem hk19 : ∀ args : List AVal, callF env (evalW env) 19 args = callI env (evalW env) 19 args := fun _ => rfl
theorem fg19 : ∀ tm : List AVal, forget env 19 tm = forgetL [true, true, false, false, true, false, false, false] tm := fun _ => rfl
theorem fi20 : (env.funcs.find 20).i = fu20.i := rfl
theorem ff20 : (env.funcs.find 20).f.beq 20 = true := rfl
theorem hk20 : ∀ args : List AVal, callF env (evalW env) 20 args = callI env (evalW env) 20 args := fun _ => rfl
theorem fg20 : ∀ tm : List AVal, forget env 20 tm = forgetL [true, false, true, false, false, false, false, false, false, false, false, false, false, false, false, false, false] tm := fun _ => rfl
theorem fi21 : (env.funcs.find 21).i = fu21.i := rfl
theorem ff21 : (env.funcs.find 21).f.beq 21 = true := rfl
theorem hk21 : ∀ args : List AVal, callF env (evalW env) 21 args = callI env (evalW env) 21 args := fun _ => rfl
theorem fg21 : ∀ tm : List AVal, forget env 21 tm = forgetL [true, false, true, true, true, true, true, true, false, true, true, true, false, true, false, false, false, false, false, true, false, false] tm := fun _ => rfl
theorem fi22 : (env.funcs.find 22).i = fu22.i := rfl
theorem ff22 : (env.funcs.find 22).f.beq 22 = true := rfl
theorem hk22 : ∀ args : List AVal, callF env (evalW env) 22 args = callI env (evalW env) 22 args := fun _ => rfl
theorem fg22 : ∀ tm : List AVal, forget env 22 tm = forgetL [true, false, true, true, true, true, true, true, false, false, false, true, false, false, false, false, false, false, false, false, false, false, false, false, false, true, false, false, false, false, false, false, false, false, false, true, false, false, false, true, false, false, false, false, false, false, false, false, false, false, false, true, false, false, false, false, true, false, false, false, false, false, false, false, false, false, false, false, false, false, false, false, false, false, false, false, false, true, false, false, false, false, false, false, false, false, false, false, false, false, false, false, false, false, false, false, false] tm := fun _ => rfl
theorem fi23 : (env.funcs.find 23).i = fu23.i := rfl
theorem ff23 : (env.funcs.find 23).f.beq 23 = true := rfl
theorem hk23 : ∀ args : List AVal, callF env (evalW env) 23 args = callI env (evalW env) 23 args := fun _ => rfl
theorem fg23 : ∀ tm : List AVal, forget env 23 tm = forgetL [true, false, true, true, true, false, true, false, true, true, true, false, false, false, false, false, false, false, false, false, false, true] tm := fun _ => rfl
theorem fi24 : (env.funcs.find 24).i = fu24.i := rfl
theorem ff24 : (env.funcs.find 24).f.beq 24 = true := rfl
theorem hk24 : ∀ args : List AVal, callF env (evalW env) 24 args = callI env (evalW env) 24 args := fun _ => rfl
theorem fg24 : ∀ tm : List AVal, forget env 24 tm = forgetL [true, false, true, true, true, true, false, true, false, false, false, false, false, false, true, false, false, false, true, false, false, false, false, false, false, false, false, false, false, false, true] tm := fun _ => rfl
theorem fi25 : (env.funcs.find 25).i = fu25.i := rfl
theorem ff25 : (env.funcs.find 25).f.beq 25 = true := rfl
theorem hk25 : ∀ args : List AVal, callF env (evalW env) 25 args = callI env (evalW env) 25 args := fun _ => rfl
theorem fg25 : ∀ tm : List AVal, forget env 25 tm = forgetL [true, false, true, false, false, true, false, false, false, false, false, false, false, false, false] tm := fun _ => rfl
theorem fi26 : (env.funcs.find 26).i = fu26.i := rfl
theorem ff26 : (env.funcs.find 26).f.beq 26 = true := rfl
theorem hk26 : ∀ args : List AVal, callF env (evalW env) 26 args = callI env (evalW env) 26 args := fun _ => rfl
theorem fg26 : ∀ tm : List AVal, forget env 26 tm = forgetL [true, true, false, false, true, true, true, false, false, false, false, false, false, false, false, false, false, false, false, false] tm := fun _ => rfl
theorem fi27 : (env.funcs.find 27).i = fu27.i := rfl
theorem ff27 : (env.funcs.find 27).f.beq 27 = true := rfl
theorem hk27 : ∀ args : List AVal, callF env (evalW env) 27 args = callI env (evalW env) 27 args := fun _ => rfl
theorem fg27 : ∀ tm : List AVal, forget env 27 tm = forgetL [true, true, false, false, true, true, true, false, false, false, false, false, false, false, false, false, false, false, false, false, false, false, false, false, false, false, false, false] tm := fun _ => rfl
theorem fi28 : (env.funcs.find 28).i = fu28.i := rfl
theorem ff28 : (env.funcs.find 28).f.beq 28 = true := rfl
theorem hk28 : ∀ args : List AVal, callF env (evalW env) 28 args = callI env (evalW env) 28 args := fun _ => rfl
theorem fg28 : ∀ tm : List AVal, forget env 28 tm = forgetL [true, true, true, true, false, false, false, true, false, false, false, false, false, true, false, false, false, false, false, true, false, false, false, false, false, false, false, false, false, false] tm := fun _ => rfl
theorem fi29 : (env.funcs.find 29).i = fu29.i := rfl
theorem ff29 : (env.funcs.find 29).f.beq 29 = true := rfl
theorem hk29 : ∀ args : List AVal, callF env (evalW env) 29 args = callI env (evalW env) 29 args := fun _ => rfl
theorem fg29 : ∀ tm : List AVal, forget env 29 tm = forgetL [true, false, true, true, true, true, false, true, false, false, false, false, false, false] tm := fun _ => rfl
theorem fi30 : (env.funcs.find 30).i = fu30.i := rfl
theorem ff30 : (env.funcs.find 30).f.beq 30 = true := rfl
theorem hk30 : ∀ args : List AVal, callF env (evalW env) 30 args = callI env (evalW env) 30 args := fun _ => rfl
theorem fg30 : ∀ tm : List AVal, forget env 30 tm = forgetL [true, true, true, true, false, false, false, false, false, false, false, false, false, false, true, false, false, false, false, false, false, false, true, false, false, false, false, true, false, false, false, false] tm := fun _ => rfl
theorem fi31 : (env.funcs.find 31).i = fu31.i := rfl
theorem ff31 : (env.funcs.find 31).f.beq 31 = true := rfl
theorem hk31 : ∀ args : List AVal, callF env (evalW env) 31 args = callI env (evalW env) 31 args := fun _ => rfl
theorem fg31 : ∀ tm : List AVal, forget env 31 tm = forgetL [true, true, true, true, true, false, false, false, false, false, false, false, false, true, false, false, false, false, false, false, false, true, false, false, false, false, false, false, false, false, false, false, false, false, false] tm := fun _ => rfl
theorem fi32 : (env.funcs.find 32).i = fu32.i := rfl
theorem ff32 : (env.funcs.find 32).f.beq 32 = true := rfl
theorem hk32 : ∀ args : List AVal, callF env (evalW env) 32 args = callI env (evalW env) 32 args := fun _ => rfl
theorem fg32 : ∀ tm : List AVal, forget env 32 tm = forgetL [true, true, true, false, false, false, true, true, true, true, false, false, false, false, true, true, true, true, true, false, false, false, false, false, false, false, false, false, false, false, true, false] tm := fun _ => rfl
theorem fi33 : (env.funcs.find 33).i = fu33.i := rfl
theorem ff33 : (env.funcs.find 33).f.beq 33 = true := rfl
theorem hk33 : ∀ args : List AVal, callF env (evalW env) 33 args = callI env (evalW env) 33 args := fun _ => rfl
theorem fg33 : ∀ tm : List AVal, forget env 33 tm = forgetL [true, true, true, true, true, false, false, false, false, false, false, false, false, false, false, false, false] tm := fun _ => rfl
theorem fi34 : (env.funcs.find 34).i = fu34.i := rfl
theorem ff34 : (env.funcs.find 34).f.beq 34 = true := rfl
theorem hk34 : ∀ args : List AVal, callF env (evalW env) 34 args = callI env (evalW env) 34 args := fun _ => rfl
theorem fg34 : ∀ tm : List AVal, forget env 34 tm = forgetL [true, true, false, false, true, false, false, false, false, false] tm := fun _ => rfl
theorem fi35 : (env.funcs.find 35).i = fu35.i := rfl
theorem ff35 : (env.funcs.find 35).f.beq 35 = true := rfl
theorem hk35 : ∀ args : List AVal, callF env (evalW env) 35 args = callI env (evalW env) 35 args := fun _ => rfl
theorem fg35 : ∀ tm : List AVal, forget env 35 tm = forgetL [true, false, true, false, true, false, false, false] tm := fun _ => rfl
theorem fi36 : (env.funcs.find 36).i = fu36.i := rfl
theorem ff36 : (env.funcs.find 36).f.beq 36 = true := rfl
theorem hk36 : ∀ args : List AVal, callF env (evalW env) 36 args = callI env (evalW env) 36 args := fun _ => rfl
theorem fg36 : ∀ tm : List AVal, forget env 36 tm = forgetL [true, false, true, true, false, false, false] tm := fun _ => rfl
theorem fi37 : (env.funcs.find 37).i = fu37.i := rfl
theorem ff37 : (env.funcs.find 37).f.beq 37 = true := rfl
theorem hk37 : ∀ args : List AVal, callF env (evalW env) 37 args = callI env (evalW env) 37 args := fun _ => rfl
theorem fg37 : ∀ tm : List AVal, forget env 37 tm = forgetL [true, true, false, false, true, false, false, false, false, false, false, false, false, false, false, false, false, false] tm := fun _ => rfl
theorem fi38 : (env.funcs.find 38).i = fu38.i := rfl
theorem ff38 : (env.funcs.find 38).f.beq 38 = true := rfl
theorem hk38 : ∀ args : List AVal, callF env (evalW env) 38 args = callI env (evalW env) 38 args := fun _ => rfl
theorem fg38 : ∀ tm : List AVal, forget env 38 tm = forgetL [true, true, true, false] tm := fun _ => rfl
theorem fi39 : (env.funcs.find 39).i = fu39.i := rfl
theorem ff39 : (env.funcs.find 39).f.beq 39 = true := rfl
theorem hk39 : ∀ args : List AVal, callF env (evalW env) 39 args = callI env (evalW env) 39 args := fun _ => rfl
theorem fg39 : ∀ tm : List AVal, forget env 39 tm = forgetL [true, true, false, true, true, true, false, false, true, false, false, false, false, false, false, true, false, false, false, false, false, false, false, false, true, false, false, false, false, false, false, false, false, false, false, false, true, false, false, false, false, false] tm := fun _ => rfl
theorem fi40 : (env.funcs.find 40).i = fu40.i := rfl
theorem ff40 : (env.funcs.find 40).f.beq 40 = true := rfl
theorem hk40 : ∀ args : List AVal, callF env (evalW env) 40 args = callI env (evalW env) 40 args := fun _ => rfl
theorem fg40 : ∀ tm : List AVal, forget env 40 tm = forgetL [true, false, true, true, true, true, true, true, false, false, false, false, false, false, false, false, false, false, false, true, true, false, false, false, false, false, true, true, true, true, false, false, false, false, false, false, false, false, false, false, false, true, false, false, false, false, false, false, false, false, false, false, true, false, false, false] tm := fun _ => rfl
theorem bl9s : ∀ ts l, bLen env (9 :: ts) (.str l) = M.pure (.int .i64 (l.length : Nat)) := fun _ _ => rfl
theorem bl10s : ∀ ts l, bLen env (10 :: ts) (.str l) = M.pure (.int .i64 (l.length : Nat)) := fun _ _ => rfl
theorem bl11s : ∀ ts l, bLen env (11 :: ts) (.str l) = M.pure (.int .i64 (l.length : Nat)) := fun _ _ => rfl
theorem bl22a : ∀ ts id off len cap sz, bLen env (22 :: ts) (.sl id off len cap sz) = M.pure (.int .i64 (len : Nat)) := fun _ _ _ _ _ _ => rfl
theorem bl22b : ∀ ts g sz off len, bLen env (22 :: ts) (.isl g sz off len) = M.pure (.int .i64 (len : Nat)) := fun _ _ _ _ _ => rfl
theorem bl22c : ∀ ts, bLen env (22 :: ts) .nils = M.pure (.int .i64 0) := fun _ => rfl
theorem bl22d : ∀ ts, bLen env (22 :: ts) .emp = M.pure (.int .i64 0) := fun _ => rfl
theorem bl23a : ∀ ts id off len cap sz, bLen env (23 :: ts) (.sl id off len cap sz) = M.pure (.int .i64 (len : Nat)) := fun _ _ _ _ _ _ => rfl
theorem bl23b : ∀ ts g sz off len, bLen env (23 :: ts) (.isl g sz off len) = M.pure (.int .i64 (len : Nat)) := fun _ _ _ _ _ => rfl
theorem bl23c : ∀ ts, bLen env (23 :: ts) .nils = M.pure (.int .i64 0) := fun _ => rfl
theorem bl23d : ∀ ts, bLen env (23 :: ts) .emp = M.pure (.int .i64 0) := fun _ => rfl
theorem bl48a : ∀ ts id off len cap sz, bLen env (48 :: ts) (.sl id off len cap sz) = M.pure (.int .i64 (len : Nat)) := fun _ _ _ _ _ _ => rfl
theorem bl48b : ∀ ts g sz off len, bLen env (48 :: ts) (.isl g sz off len) = M.pure (.int .i64 (len : Nat)) := fun _ _ _ _ _ => rfl
theorem bl48c : ∀ ts, bLen env (48 :: ts) .nils = M.pure (.int .i64 0) := fun _ => rfl
theorem bl48d : ∀ ts, bLen env (48 :: ts) .emp = M.pure (.int .i64 0) := fun _ => rfl
theorem bl68r : ∀ ts v, bLen env (68 :: ts) v = M.pure (.int .i64 0) := fun _ _ => rfl
noncomputable def lp3_0 : Code := (loopsOf (Try.f3.body.getD .skip)).getD 0 .skip
noncomputable def lp3_1 : Code := (loopsOf (Try.f3.body.getD .skip)).getD 1 .skip
noncomputable def lp3_2 : Code := (loopsOf (Try.f3.body.getD .skip)).getD 2 .skip
noncomputable def lp5_0 : Code := (loopsOf (Try.f5.body.getD .skip)).getD 0 .skip
noncomputable def lp5_1 : Code := (loopsOf (Try.f5.body.getD .skip)).getD 1 .skip
noncomputable def lp7_0 : Code := (loopsOf (Try.f7.body.getD .skip)).getD 0 .skip
noncomputable def lp7_1 : Code := (loopsOf (Try.f7.body.getD .skip)).getD 1 .skip
noncomputable def lp9_0 : Code := (loopsOf (Try.f9.body.getD .skip)).getD 0 .skip
noncomputable def lp10_0 : Code := (loopsOf (Try.f10.body.getD .skip)).getD 0 .skip
noncomputable def lp10_1 : Code := (loopsOf (Try.f10.body.getD .skip)).getD 1 .skip
noncomputable def lp11_0 : Code := (loopsOf (Try.f11.body.getD .skip)).getD 0 .skip
noncomputable def lp13_0 : Code := (loopsOf (Try.f13.body.getD .skip)).getD 0 .skip
noncomputable def ra21_0 : Code := ((rangesOf (Try.f21.body.getD .skip)).getD 0 (.skip, .skip)).1
noncomputable def rb21_0 : Code := ((rangesOf (Try.f21.body.getD .skip)).getD 0 (.skip, .skip)).2
noncomputable def lp22_0 : Code := (loopsOf (Try.f22.body.getD .skip)).getD 0 .skip
noncomputable def ra23_0 : Code := ((rangesOf (Try.f23.body.getD .skip)).getD 0 (.skip, .skip)).1
noncomputable def rb23_0 : Code := ((rangesOf (Try.f23.body.getD .skip)).getD 0 (.skip, .skip)).2
noncomputable def lp24_0 : Code := (loopsOf (Try.f24.body.getD .skip)).getD 0 .skip
noncomputable def lp32_0 : Code := (loopsOf (Try.f32.body.getD .skip)).getD 0 .skip
noncomputable def lp39_0 : Code := (loopsOf (Try.f39.body.getD .skip)).getD 0 .skip
noncomputable def lp40_0 : Code := (loopsOf (Try.f40.body.getD .skip)).getD 0 .skip
def tyr := (And.intro ti0 (And.intro ti1 (And.intro ti2 (And.intro ti3 (And.intro ti4 (And.intro ti5 (And.intro ti6 (And.intro ti7 (And.intro ti8 (And.intro ti9 (And.intro ti10 (And.intro ti11 (And.intro ti12 (And.intro ti13 (And.intro ti14 (And.intro ti15 (And.intro ti16 (And.intro ti17 (And.intro ti18 (And.intro ti19 (And.intro ti20 (And.intro ti21 (And.intro ti22 (And.intro ti23 (And.intro ti24 (And.intro ti25 (And.intro ti26 (And.intro ti27 (And.intro ti28 (And.intro ti29 (And.intro ti30 (And.intro ti31 (And.intro ti32 (And.intro ti33 (And.intro ti34 (And.intro ti35 (And.intro ti36 (And.intro ti37 (And.intro ti38 (And.intro ti39 (And.intro ti40 (And.intro ti41 (And.intro ti42 (And.intro ti43 (And.intro ti44 (And.intro ti45 (And.intro ti46 (And.intro ti47 (And.intro ti48 (And.intro ti49 (And.intro ti50 (And.intro ti51 (And.intro ti52 (And.intro ti53 (And.intro ti54 (And.intro ti55 (And.intro ti56 (And.intro ti57 (And.intro ti58 (And.intro ti59 (And.intro ti60 (And.intro ti61 (And.intro ti62 (And.intro ti63 (And.intro ti64 (And.intro ti65 (And.intro ti66 (And.intro ti67 (And.intro ti68 (And.intro ti69 (And.intro ti70 (And.intro ti71 (And.intro ti72 (And.intro ti73 (And.intro ti74 (And.intro ti75 (And.intro ti76 (And.intro ti77 (And.intro ti78 (And.intro ti79 (And.intro ti80 ti81)))))))))))))))))))))))))))))))))))))))))))))))))))))))))))))))))))))))))))))))))
def blr := (And.intro bl9s (And.intro bl10s (And.intro bl11s (And.intro bl22a (And.intro bl22b (And.intro bl22c (And.intro bl22d (And.intro bl23a (And.intro bl23b (And.intro bl23c (And.intro bl23d (And.intro bl48a (And.intro bl48b (And.intro bl48c (And.intro bl48d bl68r)))))))))))))))
def fgr := (And.intro fg2 (And.intro fg3 (And.intro fg4 (And.intro fg5 (And.intro fg6 (And.intro fg7 (And.intro fg8 (And.intro fg9 (And.intro fg10 (And.intro fg11 (And.intro fg12 (And.intro fg13 (And.intro fg14 (And.intro fg15 (And.intro fg16 (And.intro fg17 (And.intro fg18 (And.intro fg19 (And.intro fg20 (And.intro fg21 (And.intro fg22 (And.intro fg23 (And.intro fg24 (And.intro fg25 (And.intro fg26 (And.intro fg27 (And.intro fg28 (And.intro fg29 (And.intro fg30 (And.intro fg31 (And.intro fg32 (And.intro fg33 (And.intro fg34 (And.intro fg35 (And.intro fg36 (And.intro fg37 (And.intro fg38 (And.intro fg39 fg40))))))))))))))))))))))))))))))))))))))
def hkr := (And.intro hk2 (And.intro hk3 (And.intro hk4 (And.intro hk5 (And.intro hk6 (And.intro hk7 (And.intro hk8 (And.intro hk9 (And.intro hk10 (And.intro hk11 (And.intro hk12 (And.intro hk13 (And.intro hk14 (And.intro hk15 (And.intro hk16 (And.intro hk17 (And.intro hk18 (And.intro hk19 (And.intro hk20 (And.intro hk21 (And.intro hk22 (And.intro hk23 (And.intro hk24 (And.intro hk25 (And.intro hk26 (And.intro hk27 (And.intro hk28 (And.intro hk29 (And.intro hk30 (And.intro hk31 (And.intro hk32 (And.intro hk33 (And.intro hk34 (And.intro hk35 (And.intro hk36 (And.intro hk37 (And.intro hk38 (And.intro hk39 hk40))))))))))))))))))))))))))))))))))))))
end Go.Am.Ytfebaeelmnchiaa
