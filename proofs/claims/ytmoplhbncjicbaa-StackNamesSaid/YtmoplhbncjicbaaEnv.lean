import Derived.Test.YtmoplhbncjicbaaAoJ
import Derived.KernelRfl
import Derived.Test.YtmoplhbncjicbaaProg
set_option maxRecDepth 100000
set_option linter.defProp false
namespace Go.Am.Ytmoplhbncjicbaa
open Go Go.Am Go.Proofs
noncomputable def ty0 : TE Try.prog := ⟨0, ⟨Try.t0.desc, 1, 0, .tup []⟩, ⟨⟨Try.t0, _, rfl, rfl, rfl, rfl, rfl⟩, rfl, rfl, Try.underlying0⟩⟩
noncomputable def ty1 : TE Try.prog := ⟨1, ⟨Try.t1.desc, 1, 8, .nilf⟩, ⟨⟨Try.t1, _, rfl, rfl, rfl, rfl, rfl⟩, rfl, rfl, Try.underlying1⟩⟩
noncomputable def ty2 : TE Try.prog := ⟨2, ⟨Try.t2.desc, 1, 8, .int .i64 (0)⟩, ⟨⟨Try.t2, _, rfl, rfl, rfl, rfl, rfl⟩, rfl, rfl, Try.underlying2⟩⟩
noncomputable def ty3 : TE Try.prog := ⟨3, ⟨Try.t3.desc, 1, 8, .int .i64 (0)⟩, ⟨⟨Try.t3, _, rfl, rfl, rfl, rfl, rfl⟩, rfl, rfl, Try.underlying3⟩⟩
noncomputable def ty4 : TE Try.prog := ⟨4, ⟨Try.t4.desc, 1, 1, .bool false⟩, ⟨⟨Try.t4, _, rfl, rfl, rfl, rfl, rfl⟩, rfl, rfl, Try.underlying4⟩⟩
noncomputable def ty5 : TE Try.prog := ⟨5, ⟨Try.t5.desc, 1, 1, .int .u8 (0)⟩, ⟨⟨Try.t5, _, rfl, rfl, rfl, rfl, rfl⟩, rfl, rfl, Try.underlying5⟩⟩
noncomputable def ty6 : TE Try.prog := ⟨6, ⟨Try.t5.desc, 1, 1, .int .u8 (0)⟩, ⟨⟨Try.t6, _, rfl, rfl, rfl, rfl, rfl⟩, rfl, rfl, Try.underlying6⟩⟩
noncomputable def ty7 : TE Try.prog := ⟨7, ⟨Try.t7.desc, 4, 24, .agg [.int .i64 (0), .int .i64 (0), .bool false, .int .u8 (0)]⟩, ⟨⟨Try.t7, _, rfl, rfl, rfl, rfl, rfl⟩, rfl, rfl, Try.underlying7⟩⟩
noncomputable def ty8 : TE Try.prog := ⟨8, ⟨Try.t7.desc, 4, 24, .agg [.int .i64 (0), .int .i64 (0), .bool false, .int .u8 (0)]⟩, ⟨⟨Try.t8, _, rfl, rfl, rfl, rfl, rfl⟩, rfl, rfl, Try.underlying8⟩⟩
noncomputable def ty9 : TE Try.prog := ⟨9, ⟨Try.t9.desc, 1, 16, .str []⟩, ⟨⟨Try.t9, _, rfl, rfl, rfl, rfl, rfl⟩, rfl, rfl, Try.underlying9⟩⟩
noncomputable def ty10 : TE Try.prog := ⟨10, ⟨Try.t9.desc, 1, 16, .str []⟩, ⟨⟨Try.t10, _, rfl, rfl, rfl, rfl, rfl⟩, rfl, rfl, Try.underlying10⟩⟩
noncomputable def ty11 : TE Try.prog := ⟨11, ⟨Try.t9.desc, 1, 16, .str []⟩, ⟨⟨Try.t11, _, rfl, rfl, rfl, rfl, rfl⟩, rfl, rfl, Try.underlying11⟩⟩
noncomputable def ty12 : TE Try.prog := ⟨12, ⟨Try.t12.desc, 1, 8, .int .u64 (0)⟩, ⟨⟨Try.t12, _, rfl, rfl, rfl, rfl, rfl⟩, rfl, rfl, Try.underlying12⟩⟩
noncomputable def ty13 : TE Try.prog := ⟨13, ⟨Try.t13.desc, 2, 24, .agg [.str [], .int .u64 (0)]⟩, ⟨⟨Try.t13, _, rfl, rfl, rfl, rfl, rfl⟩, rfl, rfl, Try.underlying13⟩⟩
noncomputable def ty14 : TE Try.prog := ⟨14, ⟨Try.t13.desc, 2, 24, .agg [.str [], .int .u64 (0)]⟩, ⟨⟨Try.t14, _, rfl, rfl, rfl, rfl, rfl⟩, rfl, rfl, Try.underlying14⟩⟩
noncomputable def ty15 : TE Try.prog := ⟨15, ⟨Try.t15.desc, 1, 8, .nilp⟩, ⟨⟨Try.t15, _, rfl, rfl, rfl, rfl, rfl⟩, rfl, rfl, Try.underlying15⟩⟩
noncomputable def ty16 : TE Try.prog := ⟨16, ⟨Try.t16.desc, 1, 8, .nilp⟩, ⟨⟨Try.t16, _, rfl, rfl, rfl, rfl, rfl⟩, rfl, rfl, Try.underlying16⟩⟩
noncomputable def ty17 : TE Try.prog := ⟨17, ⟨Try.t17.desc, 1, 8, .nilp⟩, ⟨⟨Try.t17, _, rfl, rfl, rfl, rfl, rfl⟩, rfl, rfl, Try.underlying17⟩⟩
noncomputable def ty18 : TE Try.prog := ⟨18, ⟨Try.t18.desc, 1, 8, .agg [.nilp]⟩, ⟨⟨Try.t18, _, rfl, rfl, rfl, rfl, rfl⟩, rfl, rfl, Try.underlying18⟩⟩
noncomputable def ty19 : TE Try.prog := ⟨19, ⟨Try.t18.desc, 1, 8, .agg [.nilp]⟩, ⟨⟨Try.t19, _, rfl, rfl, rfl, rfl, rfl⟩, rfl, rfl, Try.underlying19⟩⟩
noncomputable def ty20 : TE Try.prog := ⟨20, ⟨Try.t20.desc, 1, 16, .nili⟩, ⟨⟨Try.t20, _, rfl, rfl, rfl, rfl, rfl⟩, rfl, rfl, Try.underlying20⟩⟩
noncomputable def ty21 : TE Try.prog := ⟨21, ⟨Try.t21.desc, 1, 4, .int .i32 (0)⟩, ⟨⟨Try.t21, _, rfl, rfl, rfl, rfl, rfl⟩, rfl, rfl, Try.underlying21⟩⟩
noncomputable def ty22 : TE Try.prog := ⟨22, ⟨Try.t22.desc, 1, 24, .nils⟩, ⟨⟨Try.t22, _, rfl, rfl, rfl, rfl, rfl⟩, rfl, rfl, Try.underlying22⟩⟩
noncomputable def ty23 : TE Try.prog := ⟨23, ⟨Try.t23.desc, 1, 8, .nilf⟩, ⟨⟨Try.t23, _, rfl, rfl, rfl, rfl, rfl⟩, rfl, rfl, Try.underlying23⟩⟩
noncomputable def ty24 : TE Try.prog := ⟨24, ⟨Try.t3.desc, 1, 8, .int .i64 (0)⟩, ⟨⟨Try.t24, _, rfl, rfl, rfl, rfl, rfl⟩, rfl, rfl, Try.underlying24⟩⟩
noncomputable def ty25 : TE Try.prog := ⟨25, ⟨Try.t25.desc, 1, 0, .tup [.nils, .int .i64 (0)]⟩, ⟨⟨Try.t25, _, rfl, rfl, rfl, rfl, rfl⟩, rfl, rfl, Try.underlying25⟩⟩
noncomputable def ty26 : TE Try.prog := ⟨26, ⟨Try.t26.desc, 1, 8, .nilf⟩, ⟨⟨Try.t26, _, rfl, rfl, rfl, rfl, rfl⟩, rfl, rfl, Try.underlying26⟩⟩
noncomputable def ty27 : TE Try.prog := ⟨27, ⟨Try.t27.desc, 1, 0, .tup [.int .i64 (0), .int .i64 (0)]⟩, ⟨⟨Try.t27, _, rfl, rfl, rfl, rfl, rfl⟩, rfl, rfl, Try.underlying27⟩⟩
noncomputable def ty28 : TE Try.prog := ⟨28, ⟨Try.t28.desc, 1, 8, .nilf⟩, ⟨⟨Try.t28, _, rfl, rfl, rfl, rfl, rfl⟩, rfl, rfl, Try.underlying28⟩⟩
noncomputable def ty29 : TE Try.prog := ⟨29, ⟨Try.t29.desc, 1, 8, .nilf⟩, ⟨⟨Try.t29, _, rfl, rfl, rfl, rfl, rfl⟩, rfl, rfl, Try.underlying29⟩⟩
noncomputable def ty30 : TE Try.prog := ⟨30, ⟨Try.t30.desc, 1, 8, .nilf⟩, ⟨⟨Try.t30, _, rfl, rfl, rfl, rfl, rfl⟩, rfl, rfl, Try.underlying30⟩⟩
noncomputable def ty31 : TE Try.prog := ⟨31, ⟨Try.t31.desc, 1, 0, .tup [.nils, .int .i64 (0)]⟩, ⟨⟨Try.t31, _, rfl, rfl, rfl, rfl, rfl⟩, rfl, rfl, Try.underlying31⟩⟩
noncomputable def ty32 : TE Try.prog := ⟨32, ⟨Try.t32.desc, 1, 8, .nilf⟩, ⟨⟨Try.t32, _, rfl, rfl, rfl, rfl, rfl⟩, rfl, rfl, Try.underlying32⟩⟩
noncomputable def ty33 : TE Try.prog := ⟨33, ⟨Try.t33.desc, 1, 0, .tup [.int .i64 (0), .int .i64 (0)]⟩, ⟨⟨Try.t33, _, rfl, rfl, rfl, rfl, rfl⟩, rfl, rfl, Try.underlying33⟩⟩
noncomputable def ty34 : TE Try.prog := ⟨34, ⟨Try.t34.desc, 1, 8, .nilf⟩, ⟨⟨Try.t34, _, rfl, rfl, rfl, rfl, rfl⟩, rfl, rfl, Try.underlying34⟩⟩
noncomputable def ty35 : TE Try.prog := ⟨35, ⟨Try.t35.desc, 1, 8, .nilf⟩, ⟨⟨Try.t35, _, rfl, rfl, rfl, rfl, rfl⟩, rfl, rfl, Try.underlying35⟩⟩
noncomputable def ty36 : TE Try.prog := ⟨36, ⟨Try.t36.desc, 1, 8, .nilf⟩, ⟨⟨Try.t36, _, rfl, rfl, rfl, rfl, rfl⟩, rfl, rfl, Try.underlying36⟩⟩
noncomputable def ty37 : TE Try.prog := ⟨37, ⟨Try.t37.desc, 1, 8, .nilf⟩, ⟨⟨Try.t37, _, rfl, rfl, rfl, rfl, rfl⟩, rfl, rfl, Try.underlying37⟩⟩
noncomputable def ty38 : TE Try.prog := ⟨38, ⟨Try.t38.desc, 1, 8, .nilf⟩, ⟨⟨Try.t38, _, rfl, rfl, rfl, rfl, rfl⟩, rfl, rfl, Try.underlying38⟩⟩
noncomputable def ty39 : TE Try.prog := ⟨39, ⟨Try.t39.desc, 1, 8, .nilf⟩, ⟨⟨Try.t39, _, rfl, rfl, rfl, rfl, rfl⟩, rfl, rfl, Try.underlying39⟩⟩
noncomputable def ty40 : TE Try.prog := ⟨40, ⟨Try.t40.desc, 1, 8, .nilf⟩, ⟨⟨Try.t40, _, rfl, rfl, rfl, rfl, rfl⟩, rfl, rfl, Try.underlying40⟩⟩
noncomputable def ty41 : TE Try.prog := ⟨41, ⟨Try.t41.desc, 1, 8, .nilf⟩, ⟨⟨Try.t41, _, rfl, rfl, rfl, rfl, rfl⟩, rfl, rfl, Try.underlying41⟩⟩
noncomputable def ty42 : TE Try.prog := ⟨42, ⟨Try.t42.desc, 1, 8, .nilf⟩, ⟨⟨Try.t42, _, rfl, rfl, rfl, rfl, rfl⟩, rfl, rfl, Try.underlying42⟩⟩
noncomputable def ty43 : TE Try.prog := ⟨43, ⟨Try.t43.desc, 1, 8, .nilf⟩, ⟨⟨Try.t43, _, rfl, rfl, rfl, rfl, rfl⟩, rfl, rfl, Try.underlying43⟩⟩
noncomputable def ty44 : TE Try.prog := ⟨44, ⟨Try.t44.desc, 8, 64, .agg [.int .i64 (0), .int .i64 (0), .int .i64 (0), .int .i64 (0), .int .i64 (0), .int .i64 (0), .int .i64 (0), .int .i64 (0)]⟩, ⟨⟨Try.t44, _, rfl, rfl, rfl, rfl, rfl⟩, rfl, rfl, Try.underlying44⟩⟩
noncomputable def ty45 : TE Try.prog := ⟨45, ⟨Try.t45.desc, 1, 8, .nilf⟩, ⟨⟨Try.t45, _, rfl, rfl, rfl, rfl, rfl⟩, rfl, rfl, Try.underlying45⟩⟩
noncomputable def ty46 : TE Try.prog := ⟨46, ⟨Try.t46.desc, 1, 8, .nilf⟩, ⟨⟨Try.t46, _, rfl, rfl, rfl, rfl, rfl⟩, rfl, rfl, Try.underlying46⟩⟩
noncomputable def ty47 : TE Try.prog := ⟨47, ⟨Try.t47.desc, 1, 8, .nilf⟩, ⟨⟨Try.t47, _, rfl, rfl, rfl, rfl, rfl⟩, rfl, rfl, Try.underlying47⟩⟩
noncomputable def ty48 : TE Try.prog := ⟨48, ⟨Try.t48.desc, 1, 8, .nilf⟩, ⟨⟨Try.t48, _, rfl, rfl, rfl, rfl, rfl⟩, rfl, rfl, Try.underlying48⟩⟩
noncomputable def ty49 : TE Try.prog := ⟨49, ⟨Try.t49.desc, 3, 24, .agg [.int .u8 (0), .int .i64 (0), .int .i64 (0)]⟩, ⟨⟨Try.t49, _, rfl, rfl, rfl, rfl, rfl⟩, rfl, rfl, Try.underlying49⟩⟩
noncomputable def ty50 : TE Try.prog := ⟨50, ⟨Try.t50.desc, 1, 24, .nils⟩, ⟨⟨Try.t50, _, rfl, rfl, rfl, rfl, rfl⟩, rfl, rfl, Try.underlying50⟩⟩
noncomputable def ty51 : TE Try.prog := ⟨51, ⟨Try.t51.desc, 4, 32, .agg [.int .u8 (0), .int .i64 (0), .int .i64 (0), .int .i64 (0)]⟩, ⟨⟨Try.t51, _, rfl, rfl, rfl, rfl, rfl⟩, rfl, rfl, Try.underlying51⟩⟩
noncomputable def ty52 : TE Try.prog := ⟨52, ⟨Try.t52.desc, 1, 24, .nils⟩, ⟨⟨Try.t52, _, rfl, rfl, rfl, rfl, rfl⟩, rfl, rfl, Try.underlying52⟩⟩
noncomputable def ty53 : TE Try.prog := ⟨53, ⟨Try.t53.desc, 1, 24, .nils⟩, ⟨⟨Try.t53, _, rfl, rfl, rfl, rfl, rfl⟩, rfl, rfl, Try.underlying53⟩⟩
noncomputable def ty54 : TE Try.prog := ⟨54, ⟨Try.t54.desc, 1, 8, .nilf⟩, ⟨⟨Try.t54, _, rfl, rfl, rfl, rfl, rfl⟩, rfl, rfl, Try.underlying54⟩⟩
noncomputable def ty55 : TE Try.prog := ⟨55, ⟨Try.t55.desc, 1, 8, .nilp⟩, ⟨⟨Try.t55, _, rfl, rfl, rfl, rfl, rfl⟩, rfl, rfl, Try.underlying55⟩⟩
noncomputable def ty56 : TE Try.prog := ⟨56, ⟨Try.t56.desc, 1, 0, .tup [.nilp, .int .i64 (0)]⟩, ⟨⟨Try.t56, _, rfl, rfl, rfl, rfl, rfl⟩, rfl, rfl, Try.underlying56⟩⟩
noncomputable def ty57 : TE Try.prog := ⟨57, ⟨Try.t57.desc, 1, 8, .nilf⟩, ⟨⟨Try.t57, _, rfl, rfl, rfl, rfl, rfl⟩, rfl, rfl, Try.underlying57⟩⟩
noncomputable def ty58 : TE Try.prog := ⟨58, ⟨Try.t58.desc, 1, 8, .nilf⟩, ⟨⟨Try.t58, _, rfl, rfl, rfl, rfl, rfl⟩, rfl, rfl, Try.underlying58⟩⟩
noncomputable def ty59 : TE Try.prog := ⟨59, ⟨Try.t59.desc, 1, 8, .nilf⟩, ⟨⟨Try.t59, _, rfl, rfl, rfl, rfl, rfl⟩, rfl, rfl, Try.underlying59⟩⟩
noncomputable def ty60 : TE Try.prog := ⟨60, ⟨Try.t60.desc, 1, 8, .nilf⟩, ⟨⟨Try.t60, _, rfl, rfl, rfl, rfl, rfl⟩, rfl, rfl, Try.underlying60⟩⟩
noncomputable def ty61 : TE Try.prog := ⟨61, ⟨Try.t61.desc, 1, 8, .nilf⟩, ⟨⟨Try.t61, _, rfl, rfl, rfl, rfl, rfl⟩, rfl, rfl, Try.underlying61⟩⟩
noncomputable def ty62 : TE Try.prog := ⟨62, ⟨Try.t62.desc, 1, 8, .nilm⟩, ⟨⟨Try.t62, _, rfl, rfl, rfl, rfl, rfl⟩, rfl, rfl, Try.underlying62⟩⟩
noncomputable def ty63 : TE Try.prog := ⟨63, ⟨Try.t63.desc, 1, 8, .nilf⟩, ⟨⟨Try.t63, _, rfl, rfl, rfl, rfl, rfl⟩, rfl, rfl, Try.underlying63⟩⟩
noncomputable def ty64 : TE Try.prog := ⟨64, ⟨Try.t64.desc, 1, 8, .nilf⟩, ⟨⟨Try.t64, _, rfl, rfl, rfl, rfl, rfl⟩, rfl, rfl, Try.underlying64⟩⟩
noncomputable def ty65 : TE Try.prog := ⟨65, ⟨Try.t65.desc, 1, 8, .nilf⟩, ⟨⟨Try.t65, _, rfl, rfl, rfl, rfl, rfl⟩, rfl, rfl, Try.underlying65⟩⟩
noncomputable def ty66 : TE Try.prog := ⟨66, ⟨Try.t66.desc, 1, 8, .nilf⟩, ⟨⟨Try.t66, _, rfl, rfl, rfl, rfl, rfl⟩, rfl, rfl, Try.underlying66⟩⟩
noncomputable def ty67 : TE Try.prog := ⟨67, ⟨Try.t67.desc, 1, 8, .nilf⟩, ⟨⟨Try.t67, _, rfl, rfl, rfl, rfl, rfl⟩, rfl, rfl, Try.underlying67⟩⟩
noncomputable def ty68 : TE Try.prog := ⟨68, ⟨Try.t68.desc, 1, 8, .nilf⟩, ⟨⟨Try.t68, _, rfl, rfl, rfl, rfl, rfl⟩, rfl, rfl, Try.underlying68⟩⟩
noncomputable def ty69 : TE Try.prog := ⟨69, ⟨Try.t69.desc, 1, 8, .nilf⟩, ⟨⟨Try.t69, _, rfl, rfl, rfl, rfl, rfl⟩, rfl, rfl, Try.underlying69⟩⟩
noncomputable def ty70 : TE Try.prog := ⟨70, ⟨Try.t70.desc, 1, 24, .nils⟩, ⟨⟨Try.t70, _, rfl, rfl, rfl, rfl, rfl⟩, rfl, rfl, Try.underlying70⟩⟩
noncomputable def ty71 : TE Try.prog := ⟨71, ⟨Try.t71.desc, 1, 8, .nilp⟩, ⟨⟨Try.t71, _, rfl, rfl, rfl, rfl, rfl⟩, rfl, rfl, Try.underlying71⟩⟩
noncomputable def ty72 : TE Try.prog := ⟨72, ⟨Try.t72.desc, 1, 0, .tup [.nilp, .int .i64 (0)]⟩, ⟨⟨Try.t72, _, rfl, rfl, rfl, rfl, rfl⟩, rfl, rfl, Try.underlying72⟩⟩
noncomputable def ty73 : TE Try.prog := ⟨73, ⟨Try.t73.desc, 1, 8, .nilf⟩, ⟨⟨Try.t73, _, rfl, rfl, rfl, rfl, rfl⟩, rfl, rfl, Try.underlying73⟩⟩
noncomputable def ty74 : TE Try.prog := ⟨74, ⟨Try.t74.desc, 1, 8, .nilf⟩, ⟨⟨Try.t74, _, rfl, rfl, rfl, rfl, rfl⟩, rfl, rfl, Try.underlying74⟩⟩
noncomputable def ty75 : TE Try.prog := ⟨75, ⟨Try.t75.desc, 4, 48, .agg [.int .i64 (0), .int .u8 (0), .nils, .int .i64 (0)]⟩, ⟨⟨Try.t75, _, rfl, rfl, rfl, rfl, rfl⟩, rfl, rfl, Try.underlying75⟩⟩
noncomputable def ty76 : TE Try.prog := ⟨76, ⟨Try.t75.desc, 4, 48, .agg [.int .i64 (0), .int .u8 (0), .nils, .int .i64 (0)]⟩, ⟨⟨Try.t76, _, rfl, rfl, rfl, rfl, rfl⟩, rfl, rfl, Try.underlying76⟩⟩
noncomputable def ty77 : TE Try.prog := ⟨77, ⟨Try.t77.desc, 2, 48, .agg [.nils, .nils]⟩, ⟨⟨Try.t77, _, rfl, rfl, rfl, rfl, rfl⟩, rfl, rfl, Try.underlying77⟩⟩
noncomputable def ty78 : TE Try.prog := ⟨78, ⟨Try.t77.desc, 2, 48, .agg [.nils, .nils]⟩, ⟨⟨Try.t78, _, rfl, rfl, rfl, rfl, rfl⟩, rfl, rfl, Try.underlying78⟩⟩
noncomputable def ty79 : TE Try.prog := ⟨79, ⟨Try.t79.desc, 1, 8, .nilf⟩, ⟨⟨Try.t79, _, rfl, rfl, rfl, rfl, rfl⟩, rfl, rfl, Try.underlying79⟩⟩
noncomputable def ty80 : TE Try.prog := ⟨80, ⟨Try.t80.desc, 1, 8, .nilf⟩, ⟨⟨Try.t80, _, rfl, rfl, rfl, rfl, rfl⟩, rfl, rfl, Try.underlying80⟩⟩
noncomputable def ty81 : TE Try.prog := ⟨81, ⟨Try.t81.desc, 1, 8, .nilf⟩, ⟨⟨Try.t81, _, rfl, rfl, rfl, rfl, rfl⟩, rfl, rfl, Try.underlying81⟩⟩
noncomputable def ty82 : TE Try.prog := ⟨82, ⟨Try.t82.desc, 1, 8, .nilf⟩, ⟨⟨Try.t82, _, rfl, rfl, rfl, rfl, rfl⟩, rfl, rfl, Try.underlying82⟩⟩
noncomputable def ty83 : TE Try.prog := ⟨83, ⟨Try.t83.desc, 1, 8, .nilf⟩, ⟨⟨Try.t83, _, rfl, rfl, rfl, rfl, rfl⟩, rfl, rfl, Try.underlying83⟩⟩
noncomputable def ty84 : TE Try.prog := ⟨84, ⟨Try.t84.desc, 1, 8, .nilf⟩, ⟨⟨Try.t84, _, rfl, rfl, rfl, rfl, rfl⟩, rfl, rfl, Try.underlying84⟩⟩
noncomputable def ty85 : TE Try.prog := ⟨85, ⟨Try.t85.desc, 1, 8, .nilf⟩, ⟨⟨Try.t85, _, rfl, rfl, rfl, rfl, rfl⟩, rfl, rfl, Try.underlying85⟩⟩
noncomputable def ty86 : TE Try.prog := ⟨86, ⟨Try.t86.desc, 1, 8, .nilf⟩, ⟨⟨Try.t86, _, rfl, rfl, rfl, rfl, rfl⟩, rfl, rfl, Try.underlying86⟩⟩
noncomputable def ty87 : TE Try.prog := ⟨87, ⟨Try.t87.desc, 1, 8, .nilf⟩, ⟨⟨Try.t87, _, rfl, rfl, rfl, rfl, rfl⟩, rfl, rfl, Try.underlying87⟩⟩
noncomputable def ty88 : TE Try.prog := ⟨88, ⟨Try.t88.desc, 1, 8, .nilf⟩, ⟨⟨Try.t88, _, rfl, rfl, rfl, rfl, rfl⟩, rfl, rfl, Try.underlying88⟩⟩
noncomputable def ty89 : TE Try.prog := ⟨89, ⟨Try.t2.desc, 1, 8, .int .i64 (0)⟩, ⟨⟨Try.t89, _, rfl, rfl, rfl, rfl, rfl⟩, rfl, rfl, Try.underlying89⟩⟩
noncomputable def ty90 : TE Try.prog := ⟨90, ⟨Try.t90.desc, 1, 8, .nilf⟩, ⟨⟨Try.t90, _, rfl, rfl, rfl, rfl, rfl⟩, rfl, rfl, Try.underlying90⟩⟩
noncomputable def ty91 : TE Try.prog := ⟨91, ⟨Try.t91.desc, 1, 8, .nilf⟩, ⟨⟨Try.t91, _, rfl, rfl, rfl, rfl, rfl⟩, rfl, rfl, Try.underlying91⟩⟩
noncomputable def ty92 : TE Try.prog := ⟨92, ⟨Try.t92.desc, 1, 24, .agg [.nils]⟩, ⟨⟨Try.t92, _, rfl, rfl, rfl, rfl, rfl⟩, rfl, rfl, Try.underlying92⟩⟩
noncomputable def ty93 : TE Try.prog := ⟨93, ⟨Try.t92.desc, 1, 24, .agg [.nils]⟩, ⟨⟨Try.t93, _, rfl, rfl, rfl, rfl, rfl⟩, rfl, rfl, Try.underlying93⟩⟩
noncomputable def ty94 : TE Try.prog := ⟨94, ⟨Try.t94.desc, 2, 48, .agg [.nils, .nils]⟩, ⟨⟨Try.t94, _, rfl, rfl, rfl, rfl, rfl⟩, rfl, rfl, Try.underlying94⟩⟩
noncomputable def ty95 : TE Try.prog := ⟨95, ⟨Try.t94.desc, 2, 48, .agg [.nils, .nils]⟩, ⟨⟨Try.t95, _, rfl, rfl, rfl, rfl, rfl⟩, rfl, rfl, Try.underlying95⟩⟩
noncomputable def ty96 : TE Try.prog := ⟨96, ⟨Try.t96.desc, 1, 8, .nilf⟩, ⟨⟨Try.t96, _, rfl, rfl, rfl, rfl, rfl⟩, rfl, rfl, Try.underlying96⟩⟩
noncomputable def ty97 : TE Try.prog := ⟨97, ⟨Try.t97.desc, 1, 8, .nilf⟩, ⟨⟨Try.t97, _, rfl, rfl, rfl, rfl, rfl⟩, rfl, rfl, Try.underlying97⟩⟩
noncomputable def ty98 : TE Try.prog := ⟨98, ⟨Try.t98.desc, 1, 8, .nilf⟩, ⟨⟨Try.t98, _, rfl, rfl, rfl, rfl, rfl⟩, rfl, rfl, Try.underlying98⟩⟩
noncomputable def ty99 : TE Try.prog := ⟨99, ⟨Try.t99.desc, 1, 8, .nilf⟩, ⟨⟨Try.t99, _, rfl, rfl, rfl, rfl, rfl⟩, rfl, rfl, Try.underlying99⟩⟩
noncomputable def ty100 : TE Try.prog := ⟨100, ⟨Try.t100.desc, 1, 8, .nilf⟩, ⟨⟨Try.t100, _, rfl, rfl, rfl, rfl, rfl⟩, rfl, rfl, Try.underlying100⟩⟩
noncomputable def ty101 : TE Try.prog := ⟨101, ⟨Try.t101.desc, 1, 8, .nilf⟩, ⟨⟨Try.t101, _, rfl, rfl, rfl, rfl, rfl⟩, rfl, rfl, Try.underlying101⟩⟩
noncomputable def ty102 : TE Try.prog := ⟨102, ⟨Try.t102.desc, 1, 8, .nilf⟩, ⟨⟨Try.t102, _, rfl, rfl, rfl, rfl, rfl⟩, rfl, rfl, Try.underlying102⟩⟩
noncomputable def ty103 : TE Try.prog := ⟨103, ⟨Try.t103.desc, 1, 8, .nilf⟩, ⟨⟨Try.t103, _, rfl, rfl, rfl, rfl, rfl⟩, rfl, rfl, Try.underlying103⟩⟩
noncomputable def ty104 : TE Try.prog := ⟨104, ⟨Try.t104.desc, 1, 8, .nilf⟩, ⟨⟨Try.t104, _, rfl, rfl, rfl, rfl, rfl⟩, rfl, rfl, Try.underlying104⟩⟩
noncomputable def ty105 : TE Try.prog := ⟨105, ⟨Try.t105.desc, 1, 0, .tup [.str [], .str []]⟩, ⟨⟨Try.t105, _, rfl, rfl, rfl, rfl, rfl⟩, rfl, rfl, Try.underlying105⟩⟩
noncomputable def ty106 : TE Try.prog := ⟨106, ⟨Try.t106.desc, 1, 8, .nilf⟩, ⟨⟨Try.t106, _, rfl, rfl, rfl, rfl, rfl⟩, rfl, rfl, Try.underlying106⟩⟩
noncomputable def ty107 : TE Try.prog := ⟨107, ⟨Try.t107.desc, 1, 8, .nilf⟩, ⟨⟨Try.t107, _, rfl, rfl, rfl, rfl, rfl⟩, rfl, rfl, Try.underlying107⟩⟩
noncomputable def ty108 : TE Try.prog := ⟨108, ⟨Try.t107.desc, 1, 8, .nilf⟩, ⟨⟨Try.t108, _, rfl, rfl, rfl, rfl, rfl⟩, rfl, rfl, Try.underlying108⟩⟩
noncomputable def ty109 : TE Try.prog := ⟨109, ⟨Try.t109.desc, 1, 8, .nilf⟩, ⟨⟨Try.t109, _, rfl, rfl, rfl, rfl, rfl⟩, rfl, rfl, Try.underlying109⟩⟩
noncomputable def ty110 : TE Try.prog := ⟨110, ⟨Try.t110.desc, 1, 8, .int .u64 (0)⟩, ⟨⟨Try.t110, _, rfl, rfl, rfl, rfl, rfl⟩, rfl, rfl, Try.underlying110⟩⟩
noncomputable def ty111 : TE Try.prog := ⟨111, ⟨Try.t111.desc, 1, 8, .nilf⟩, ⟨⟨Try.t111, _, rfl, rfl, rfl, rfl, rfl⟩, rfl, rfl, Try.underlying111⟩⟩
noncomputable def ty112 : TE Try.prog := ⟨112, ⟨Try.t112.desc, 1, 8, .nilf⟩, ⟨⟨Try.t112, _, rfl, rfl, rfl, rfl, rfl⟩, rfl, rfl, Try.underlying112⟩⟩
noncomputable def ty113 : TE Try.prog := ⟨113, ⟨Try.t113.desc, 1, 8, .nilp⟩, ⟨⟨Try.t113, _, rfl, rfl, rfl, rfl, rfl⟩, rfl, rfl, Try.underlying113⟩⟩
noncomputable def ty114 : TE Try.prog := ⟨114, ⟨Try.t114.desc, 1, 24, .nils⟩, ⟨⟨Try.t114, _, rfl, rfl, rfl, rfl, rfl⟩, rfl, rfl, Try.underlying114⟩⟩
noncomputable def ty115 : TE Try.prog := ⟨115, ⟨Try.t115.desc, 1, 0, .tup [.nils, .bool false]⟩, ⟨⟨Try.t115, _, rfl, rfl, rfl, rfl, rfl⟩, rfl, rfl, Try.underlying115⟩⟩
noncomputable def ty116 : TE Try.prog := ⟨116, ⟨Try.t116.desc, 1, 8, .nilf⟩, ⟨⟨Try.t116, _, rfl, rfl, rfl, rfl, rfl⟩, rfl, rfl, Try.underlying116⟩⟩
noncomputable def ty117 : TE Try.prog := ⟨117, ⟨Try.t117.desc, 1, 8, .nilf⟩, ⟨⟨Try.t117, _, rfl, rfl, rfl, rfl, rfl⟩, rfl, rfl, Try.underlying117⟩⟩
noncomputable def ty118 : TE Try.prog := ⟨118, ⟨Try.t118.desc, 1, 8, .nilf⟩, ⟨⟨Try.t118, _, rfl, rfl, rfl, rfl, rfl⟩, rfl, rfl, Try.underlying118⟩⟩
noncomputable def ty119 : TE Try.prog := ⟨119, ⟨Try.t119.desc, 1, 8, .nilf⟩, ⟨⟨Try.t119, _, rfl, rfl, rfl, rfl, rfl⟩, rfl, rfl, Try.underlying119⟩⟩
noncomputable def ty120 : TE Try.prog := ⟨120, ⟨Try.t119.desc, 1, 8, .nilf⟩, ⟨⟨Try.t120, _, rfl, rfl, rfl, rfl, rfl⟩, rfl, rfl, Try.underlying120⟩⟩
noncomputable def ty121 : TE Try.prog := ⟨121, ⟨Try.t121.desc, 1, 8, .nilf⟩, ⟨⟨Try.t121, _, rfl, rfl, rfl, rfl, rfl⟩, rfl, rfl, Try.underlying121⟩⟩
noncomputable def ty122 : TE Try.prog := ⟨122, ⟨Try.t122.desc, 1, 8, .nilf⟩, ⟨⟨Try.t122, _, rfl, rfl, rfl, rfl, rfl⟩, rfl, rfl, Try.underlying122⟩⟩
noncomputable def ty123 : TE Try.prog := ⟨123, ⟨Try.t123.desc, 1, 8, .nilf⟩, ⟨⟨Try.t123, _, rfl, rfl, rfl, rfl, rfl⟩, rfl, rfl, Try.underlying123⟩⟩
noncomputable def ty124 : TE Try.prog := ⟨124, ⟨Try.t124.desc, 1, 8, .int .u64 (0)⟩, ⟨⟨Try.t124, _, rfl, rfl, rfl, rfl, rfl⟩, rfl, rfl, Try.underlying124⟩⟩
noncomputable def ty125 : TE Try.prog := ⟨125, ⟨Try.t125.desc, 1, 8, .nilf⟩, ⟨⟨Try.t125, _, rfl, rfl, rfl, rfl, rfl⟩, rfl, rfl, Try.underlying125⟩⟩
noncomputable def ty126 : TE Try.prog := ⟨126, ⟨Try.t126.desc, 1, 8, .nilf⟩, ⟨⟨Try.t126, _, rfl, rfl, rfl, rfl, rfl⟩, rfl, rfl, Try.underlying126⟩⟩
noncomputable def ty127 : TE Try.prog := ⟨127, ⟨Try.t127.desc, 1, 8, .nilf⟩, ⟨⟨Try.t127, _, rfl, rfl, rfl, rfl, rfl⟩, rfl, rfl, Try.underlying127⟩⟩
noncomputable def ty128 : TE Try.prog := ⟨128, ⟨Try.t128.desc, 1, 8, .nilf⟩, ⟨⟨Try.t128, _, rfl, rfl, rfl, rfl, rfl⟩, rfl, rfl, Try.underlying128⟩⟩
noncomputable def ty129 : TE Try.prog := ⟨129, ⟨Try.t129.desc, 4, 40, .agg [.nilp, .nilp, .nilp, .str []]⟩, ⟨⟨Try.t129, _, rfl, rfl, rfl, rfl, rfl⟩, rfl, rfl, Try.underlying129⟩⟩
noncomputable def ty130 : TE Try.prog := ⟨130, ⟨Try.t129.desc, 4, 40, .agg [.nilp, .nilp, .nilp, .str []]⟩, ⟨⟨Try.t130, _, rfl, rfl, rfl, rfl, rfl⟩, rfl, rfl, Try.underlying130⟩⟩
noncomputable def ty131 : TE Try.prog := ⟨131, ⟨Try.t131.desc, 0, 0, .agg []⟩, ⟨⟨Try.t131, _, rfl, rfl, rfl, rfl, rfl⟩, rfl, rfl, Try.underlying131⟩⟩
noncomputable def ty132 : TE Try.prog := ⟨132, ⟨Try.t132.desc, 0, 0, .agg []⟩, ⟨⟨Try.t132, _, rfl, rfl, rfl, rfl, rfl⟩, rfl, rfl, Try.underlying132⟩⟩
noncomputable def ty133 : TE Try.prog := ⟨133, ⟨Try.t132.desc, 0, 0, .agg []⟩, ⟨⟨Try.t133, _, rfl, rfl, rfl, rfl, rfl⟩, rfl, rfl, Try.underlying133⟩⟩
noncomputable def ty134 : TE Try.prog := ⟨134, ⟨Try.t134.desc, 1, 4, .int .u32 (0)⟩, ⟨⟨Try.t134, _, rfl, rfl, rfl, rfl, rfl⟩, rfl, rfl, Try.underlying134⟩⟩
noncomputable def ty135 : TE Try.prog := ⟨135, ⟨Try.t5.desc, 1, 1, .int .u8 (0)⟩, ⟨⟨Try.t135, _, rfl, rfl, rfl, rfl, rfl⟩, rfl, rfl, Try.underlying135⟩⟩
noncomputable def ty136 : TE Try.prog := ⟨136, ⟨Try.t5.desc, 1, 1, .int .u8 (0)⟩, ⟨⟨Try.t136, _, rfl, rfl, rfl, rfl, rfl⟩, rfl, rfl, Try.underlying136⟩⟩
noncomputable def ty137 : TE Try.prog := ⟨137, ⟨Try.t137.desc, 1, 8, .nilf⟩, ⟨⟨Try.t137, _, rfl, rfl, rfl, rfl, rfl⟩, rfl, rfl, Try.underlying137⟩⟩
noncomputable def ty138 : TE Try.prog := ⟨138, ⟨Try.t138.desc, 1, 8, .nilp⟩, ⟨⟨Try.t138, _, rfl, rfl, rfl, rfl, rfl⟩, rfl, rfl, Try.underlying138⟩⟩
noncomputable def ty139 : TE Try.prog := ⟨139, ⟨Try.t21.desc, 1, 4, .int .i32 (0)⟩, ⟨⟨Try.t139, _, rfl, rfl, rfl, rfl, rfl⟩, rfl, rfl, Try.underlying139⟩⟩
noncomputable def ty140 : TE Try.prog := ⟨140, ⟨Try.t21.desc, 1, 4, .int .i32 (0)⟩, ⟨⟨Try.t140, _, rfl, rfl, rfl, rfl, rfl⟩, rfl, rfl, Try.underlying140⟩⟩
noncomputable def ty141 : TE Try.prog := ⟨141, ⟨Try.t141.desc, 11, 48, .agg [.int .u64 (0), .int .u64 (0), .int .u32 (0), .int .u8 (0), .int .u8 (0), .int .u8 (0), .int .u8 (0), .nilf, .nilp, .int .i32 (0), .int .i32 (0)]⟩, ⟨⟨Try.t141, _, rfl, rfl, rfl, rfl, rfl⟩, rfl, rfl, Try.underlying141⟩⟩
noncomputable def ty142 : TE Try.prog := ⟨142, ⟨Try.t141.desc, 11, 48, .agg [.int .u64 (0), .int .u64 (0), .int .u32 (0), .int .u8 (0), .int .u8 (0), .int .u8 (0), .int .u8 (0), .nilf, .nilp, .int .i32 (0), .int .i32 (0)]⟩, ⟨⟨Try.t142, _, rfl, rfl, rfl, rfl, rfl⟩, rfl, rfl, Try.underlying142⟩⟩
noncomputable def ty143 : TE Try.prog := ⟨143, ⟨Try.t143.desc, 1, 8, .nilp⟩, ⟨⟨Try.t143, _, rfl, rfl, rfl, rfl, rfl⟩, rfl, rfl, Try.underlying143⟩⟩
noncomputable def fu2 : FE Try.prog := ⟨2, ⟨Try.f2.body.getD .skip, 1, [], some [false]⟩, ⟨⟨Try.f2, Try.func2, rfl, rfl, rfl⟩, Try.call2⟩⟩
noncomputable def fu3 : FE Try.prog := ⟨3, ⟨Try.f3.body.getD .skip, 114, [.tmp 4], some [true, true, false, false, true, true, true, true, true, true, true, true, true, true, true, false, false, false, false, false, false, false, true, false, false, false, false, false, false, false, true, false, false, false, false, false, false, false, false, false, false, false, false, false, false, false, false, false, false, false, false, false, false, false, false, false, false, false, false, false, false, false, false, false, false, false, false, false, false, false, false, false, false, true, false, false, false, false, false, false, true, false, false, false, false, false, false, false, false, false, false, false, false, false, false, false, false, false, false, false, false, false, false, false, false, false, false, false, false, false, false, false, false, false]⟩, ⟨⟨Try.f3, Try.func3, rfl, rfl, rfl⟩, Try.call3⟩⟩
noncomputable def fu4 : FE Try.prog := ⟨4, ⟨Try.f4.body.getD .skip, 94, [.tmp 6], some [true, true, true, false, false, false, true, true, true, true, true, true, true, true, true, true, false, false, true, false, false, false, false, false, false, false, false, false, false, false, false, false, false, false, false, false, false, false, false, false, false, false, false, false, false, false, false, false, false, false, false, false, false, false, false, false, false, false, false, false, false, false, false, false, false, false, false, false, false, false, false, false, false, false, false, false, false, false, false, false, false, false, false, false, false, false, false, false, false, false, false, false, false, false]⟩, ⟨⟨Try.f4, Try.func4, rfl, rfl, rfl⟩, Try.call4⟩⟩
noncomputable def fu5 : FE Try.prog := ⟨5, ⟨Try.f5.body.getD .skip, 79, [.tmp 8], some [true, true, true, true, false, false, false, false, true, true, true, true, true, true, true, true, true, false, false, false, false, false, false, false, false, false, false, false, false, false, false, false, false, false, false, false, false, false, false, false, false, false, false, false, false, false, false, false, false, false, false, false, false, false, false, false, false, false, false, false, false, false, false, false, false, false, false, false, false, false, false, false, false, false, false, false, false, false, false]⟩, ⟨⟨Try.f5, Try.func5, rfl, rfl, rfl⟩, Try.call5⟩⟩
noncomputable def fu6 : FE Try.prog := ⟨6, ⟨Try.f6.body.getD .skip, 129, [.tmp 6], some [true, true, true, false, false, false, true, true, true, true, true, true, true, true, true, true, true, false, false, false, false, false, false, false, true, true, true, true, false, false, false, false, false, false, false, false, false, false, false, true, false, false, false, false, false, false, false, false, false, false, false, false, false, false, false, false, false, false, false, false, false, false, false, false, false, false, false, false, false, false, false, false, false, false, false, false, false, false, false, false, false, false, false, false, false, false, false, false, false, false, false, false, false, false, false, false, false, false, false, false, false, false, false, false, false, false, false, false, false, false, false, false, false, false, false, false, false, false, false, false, false, false, false, false, false, false, false, false, false]⟩, ⟨⟨Try.f6, Try.func6, rfl, rfl, rfl⟩, Try.call6⟩⟩
noncomputable def fu7 : FE Try.prog := ⟨7, ⟨Try.f7.body.getD .skip, 134, [.tmp 4], some [true, true, false, false, true, true, true, true, true, true, true, true, true, true, true, true, true, true, true, true, false, false, false, false, false, false, false, false, false, false, false, false, false, false, false, false, false, false, false, false, false, false, false, false, false, false, false, false, false, false, false, false, false, false, false, false, false, false, false, false, false, false, false, false, false, false, false, false, false, false, false, false, false, false, false, false, false, false, false, false, false, false, false, false, false, false, false, false, false, false, false, false, false, false, false, false, false, false, false, false, false, false, false, false, false, false, false, false, false, false, false, false, false, false, false, false, false, false, false, false, false, false, false, false, false, false, false, false, false, false, false, false, true, false]⟩, ⟨⟨Try.f7, Try.func7, rfl, rfl, rfl⟩, Try.call7⟩⟩
noncomputable def fu8 : FE Try.prog := ⟨8, ⟨Try.f8.body.getD .skip, 111, [.tmp 6], some [true, true, true, false, false, false, true, true, true, true, true, true, true, true, false, false, false, false, false, false, false, false, false, false, false, false, false, true, false, false, false, false, false, false, false, false, false, false, false, false, false, false, true, false, false, false, false, false, false, false, false, false, false, false, false, false, false, false, false, false, false, false, false, false, false, false, false, false, false, false, false, false, false, false, true, false, false, false, false, false, false, false, false, false, false, false, false, false, false, false, false, false, false, false, false, false, false, false, false, false, false, false, false, false, false, false, false, false, false, false, false]⟩, ⟨⟨Try.f8, Try.func8, rfl, rfl, rfl⟩, Try.call8⟩⟩
noncomputable def fu9 : FE Try.prog := ⟨9, ⟨Try.f9.body.getD .skip, 271, [.tmp 0], some [true, true, true, true, false, true, false, true, true, true, true, true, false, true, true, true, false, true, true, true, false, true, false, true, false, true, false, true, false, true, false, false, false, false, false, false, false, false, false, false, false, false, false, false, false, false, false, false, false, false, false, false, false, false, false, false, false, false, false, false, false, false, false, false, false, false, false, false, false, false, false, false, false, false, false, false, false, false, false, false, false, false, false, false, false, false, false, false, false, false, false, false, false, false, false, false, false, false, false, false, false, false, false, false, false, false, false, false, false, false, false, false, false, false, false, false, false, false, false, false, false, false, false, true, true, true, true, false, false, false, false, false, false, false, false, false, false, false, false, false, false, false, false, false, false, false, false, false, false, false, false, false, false, false, false, false, false, false, false, false, false, false, false, false, false, false, false, false, false, false, true, true, true, true, false, false, false, false, false, false, false, false, false, false, false, false, false, false, false, false, false, false, false, false, false, false, false, false, false, false, false, false, false, false, false, false, false, false, false, false, false, false, false, false, false, false, false, false, false, false, false, false, false, false, false, false, false, false, false, false, false, false, false, false, false, false, false, false, false, false, false, false, false, false, false, false, false, false, false, false, false, false, false, false, false, false, false, false, false, false, false, false, false, false, false, false, false, false, false, false, false]⟩, ⟨⟨Try.f9, Try.func9, rfl, rfl, rfl⟩, Try.call9⟩⟩
noncomputable def fu10 : FE Try.prog := ⟨10, ⟨Try.f10.body.getD .skip, 99, [.tmp 4], some [true, true, false, false, true, true, true, true, true, true, true, true, true, false, false, false, false, false, false, false, false, false, false, false, true, false, false, false, false, false, false, false, false, false, false, false, false, false, false, false, false, false, false, false, true, false, false, false, false, false, false, false, false, false, false, false, false, false, true, true, true, true, false, false, false, false, false, false, false, true, false, false, false, false, false, false, false, false, false, false, false, false, false, false, false, false, false, false, false, false, false, false, false, false, false, false, false, false, false]⟩, ⟨⟨Try.f10, Try.func10, rfl, rfl, rfl⟩, Try.call10⟩⟩
noncomputable def fu11 : FE Try.prog := ⟨11, ⟨Try.f11.body.getD .skip, 132, [.tmp 4], some [true, true, false, false, true, true, true, true, true, false, true, true, true, true, true, true, true, true, false, false, false, false, false, false, false, false, false, false, false, false, false, false, false, false, true, false, false, false, false, false, false, false, true, false, false, false, false, false, false, false, true, true, true, true, false, false, false, false, false, false, false, false, false, false, false, false, false, false, false, false, false, false, false, false, false, false, false, false, true, false, false, false, false, true, false, false, false, false, false, false, false, false, false, false, false, false, false, false, false, false, false, true, false, true, false, true, false, false, false, false, false, false, false, false, false, false, false, false, false, false, false, false, false, false, false, false, false, false, false, true, false, false]⟩, ⟨⟨Try.f11, Try.func11, rfl, rfl, rfl⟩, Try.call11⟩⟩
noncomputable def fu12 : FE Try.prog := ⟨12, ⟨Try.f12.body.getD .skip, 155, [.tmp 4], some [true, true, false, false, true, true, true, true, true, true, true, true, true, true, true, true, true, false, false, false, false, false, false, false, false, false, false, false, true, false, false, false, false, false, false, false, false, false, false, false, false, false, false, false, false, false, false, false, false, false, false, false, false, false, false, false, false, false, false, false, false, false, false, false, false, false, true, false, false, false, false, false, false, false, false, false, false, false, false, false, false, false, false, false, false, false, false, true, false, false, false, false, false, false, false, false, false, false, false, false, false, false, false, false, false, false, false, false, false, false, false, false, false, false, false, false, false, false, false, false, false, false, false, false, false, false, false, false, false, false, false, false, false, false, false, false, false, false, false, false, false, false, false, false, false, false, false, false, false, false, false, false, false, false, false]⟩, ⟨⟨Try.f12, Try.func12, rfl, rfl, rfl⟩, Try.call12⟩⟩
noncomputable def fu13 : FE Try.prog := ⟨13, ⟨Try.f13.body.getD .skip, 116, [.tmp 4], some [true, true, false, false, true, true, true, true, true, true, true, true, true, true, true, false, false, false, false, false, false, false, false, false, false, false, false, false, false, false, false, false, false, false, false, true, false, false, false, false, false, false, false, true, false, false, false, false, false, false, true, true, true, false, false, false, false, false, false, false, true, false, false, false, false, false, false, false, false, false, false, false, false, true, false, false, false, false, false, false, false, false, false, false, false, false, false, false, false, false, false, false, false, false, false, false, false, false, false, false, false, false, false, false, false, false, false, false, true, false, false, false, false, false, false, false]⟩, ⟨⟨Try.f13, Try.func13, rfl, rfl, rfl⟩, Try.call13⟩⟩
noncomputable def fu14 : FE Try.prog := ⟨14, ⟨Try.f14.body.getD .skip, 138, [.tmp 4], some [true, true, false, false, true, true, true, true, true, true, true, true, true, true, false, false, true, false, false, false, false, false, false, false, false, false, false, false, false, false, false, false, false, false, false, false, true, false, true, false, true, true, true, false, false, false, false, false, false, false, false, true, false, false, false, false, false, false, false, false, false, false, false, false, false, false, false, false, false, false, false, false, false, false, false, false, false, false, false, false, false, false, false, false, false, false, false, false, false, false, false, false, false, false, false, false, true, false, true, true, true, false, false, false, false, false, true, true, true, false, false, false, false, false, false, false, false, false, false, false, false, false, false, false, false, false, false, false, false, false, false, false, false, false, false, false, false, false]⟩, ⟨⟨Try.f14, Try.func14, rfl, rfl, rfl⟩, Try.call14⟩⟩
noncomputable def fu15 : FE Try.prog := ⟨15, ⟨Try.f15.body.getD .skip, 338, [.tmp 0], some [true, true, true, true, true, true, true, true, true, true, true, true, true, false, true, false, true, false, true, true, true, true, false, true, false, true, true, true, true, true, true, true, false, true, false, true, true, false, false, false, false, false, false, false, false, false, false, false, false, false, false, false, false, false, false, false, false, false, false, false, false, false, false, false, false, false, false, false, false, false, false, false, false, false, false, false, false, false, false, false, false, false, false, false, false, false, false, false, false, false, false, false, false, false, false, false, false, false, false, false, false, false, false, false, false, false, false, false, false, false, false, false, true, false, false, false, false, false, false, false, false, false, false, false, false, false, false, false, false, false, false, false, false, false, false, false, false, false, false, false, false, false, false, false, false, false, false, false, false, false, false, false, false, false, false, false, false, false, false, false, false, false, false, false, false, false, false, false, false, false, false, false, false, false, false, false, false, false, false, false, false, false, false, false, false, false, false, false, false, false, false, false, false, false, false, false, false, false, false, false, false, false, false, false, false, false, false, false, false, false, false, false, false, false, false, false, false, false, false, false, false, false, false, false, false, false, false, false, false, false, false, false, false, false, false, false, false, false, false, false, false, false, false, false, false, false, false, false, false, false, false, false, false, false, false, false, false, false, false, false, false, false, false, false, false, false, false, false, false, false, false, false, false, false, false, false, false, false, false, false, false, false, false, false, false, false, false, false, false, false, false, false, false, false, false, false, false, false, false, false, false, false, false, false, false, false, false, false, false, false, false, false, false, false, false, false, false, false, false, false, false, false, false, false, false, false, false, false, false, false, false, false, false, false, false, false, false, false]⟩, ⟨⟨Try.f15, Try.func15, rfl, rfl, rfl⟩, Try.call15⟩⟩
noncomputable def fu16 : FE Try.prog := ⟨16, ⟨Try.f16.body.getD .skip, 26, [.tmp 0], some [true, false, false, false, false, false, false, false, false, false, false, false, false, false, false, false, false, false, false, false, false, false, false, false, false, false]⟩, ⟨⟨Try.f16, Try.func16, rfl, rfl, rfl⟩, Try.call16⟩⟩
noncomputable def fu17 : FE Try.prog := ⟨17, ⟨Try.f17.body.getD .skip, 12, [.tmp 2, .tmp 3], some [true, false, true, true, false, false, false, false, false, true, false, false]⟩, ⟨⟨Try.f17, Try.func17, rfl, rfl, rfl⟩, Try.call17⟩⟩
noncomputable def fu18 : FE Try.prog := ⟨18, ⟨Try.f18.body.getD .skip, 47, [.tmp 2, .tmp 3], some [true, false, true, true, true, true, true, true, false, false, true, true, true, true, true, false, false, false, false, false, false, false, false, false, false, false, false, true, false, false, false, false, false, false, false, false, false, false, false, false, false, false, false, false, false, true, false]⟩, ⟨⟨Try.f18, Try.func18, rfl, rfl, rfl⟩, Try.call18⟩⟩
noncomputable def fu19 : FE Try.prog := ⟨19, ⟨Try.f19.body.getD .skip, 26, [.tmp 2], some [true, false, true, true, true, true, true, true, true, false, false, false, false, false, false, false, false, false, false, false, false, false, false, false, true, false]⟩, ⟨⟨Try.f19, Try.func19, rfl, rfl, rfl⟩, Try.call19⟩⟩
noncomputable def fu20 : FE Try.prog := ⟨20, ⟨Try.f20.body.getD .skip, 12, [.tmp 2, .tmp 3], some [true, false, true, true, false, false, false, false, false, true, false, false]⟩, ⟨⟨Try.f20, Try.func20, rfl, rfl, rfl⟩, Try.call20⟩⟩
noncomputable def fu21 : FE Try.prog := ⟨21, ⟨Try.f21.body.getD .skip, 51, [.tmp 2, .tmp 3], some [true, false, true, true, true, true, true, true, true, false, false, true, false, false, false, true, false, false, false, false, false, false, false, false, false, false, false, false, false, false, false, true, false, false, false, false, false, false, false, false, false, true, false, false, false, false, false, false, false, true, false]⟩, ⟨⟨Try.f21, Try.func21, rfl, rfl, rfl⟩, Try.call21⟩⟩
noncomputable def fu22 : FE Try.prog := ⟨22, ⟨Try.f22.body.getD .skip, 27, [.tmp 2], some [true, false, true, true, false, false, false, true, false, false, false, false, false, false, false, false, false, false, false, false, false, true, false, false, false, false, true]⟩, ⟨⟨Try.f22, Try.func22, rfl, rfl, rfl⟩, Try.call22⟩⟩
noncomputable def fu23 : FE Try.prog := ⟨23, ⟨Try.f23.body.getD .skip, 6, [.tmp 2], some [true, false, true, false, false, false]⟩, ⟨⟨Try.f23, Try.func23, rfl, rfl, rfl⟩, Try.call23⟩⟩
noncomputable def fu24 : FE Try.prog := ⟨24, ⟨Try.f24.body.getD .skip, 6, [.tmp 2], some [true, false, true, false, false, false]⟩, ⟨⟨Try.f24, Try.func24, rfl, rfl, rfl⟩, Try.call24⟩⟩
noncomputable def fu25 : FE Try.prog := ⟨25, ⟨Try.f25.body.getD .skip, 19, [.tmp 4, .tmp 5], some [true, true, false, false, true, true, true, false, false, true, false, false, true, false, false, false, false, false, false]⟩, ⟨⟨Try.f25, Try.func25, rfl, rfl, rfl⟩, Try.call25⟩⟩
noncomputable def fu26 : FE Try.prog := ⟨26, ⟨Try.f26.body.getD .skip, 42, [.tmp 4, .tmp 5], some [true, true, false, false, true, true, true, false, false, true, false, false, false, true, true, true, false, false, false, true, false, false, false, true, false, false, false, true, false, false, true, false, false, false, true, false, false, false, false, false, false, false]⟩, ⟨⟨Try.f26, Try.func26, rfl, rfl, rfl⟩, Try.call26⟩⟩
noncomputable def fu27 : FE Try.prog := ⟨27, ⟨Try.f27.body.getD .skip, 27, [.tmp 6, .tmp 7], some [true, true, true, false, false, false, true, true, true, false, false, true, false, false, true, false, false, false, false, false, false, false, false, false, false, false, false]⟩, ⟨⟨Try.f27, Try.func27, rfl, rfl, rfl⟩, Try.call27⟩⟩
noncomputable def fu28 : FE Try.prog := ⟨28, ⟨Try.f28.body.getD .skip, 101, [.tmp 6, .tmp 7], some [true, true, true, false, false, false, true, true, true, true, false, false, true, false, false, false, false, false, false, false, false, false, true, true, true, false, false, false, false, true, false, false, false, false, true, false, false, false, false, false, false, false, false, true, false, false, false, false, false, false, false, false, true, false, false, false, false, false, false, true, false, false, false, false, false, true, false, false, false, false, false, true, false, false, false, false, false, true, false, false, false, false, false, true, false, false, false, false, false, true, false, false, false, true, false, false, false, false, true, false, false]⟩, ⟨⟨Try.f28, Try.func28, rfl, rfl, rfl⟩, Try.call28⟩⟩
noncomputable def fu29 : FE Try.prog := ⟨29, ⟨Try.f29.body.getD .skip, 15, [.tmp 6], some [true, true, true, false, false, false, true, false, false, false, false, false, false, false, false]⟩, ⟨⟨Try.f29, Try.func29, rfl, rfl, rfl⟩, Try.call29⟩⟩
noncomputable def fu30 : FE Try.prog := ⟨30, ⟨Try.f30.body.getD .skip, 15, [.tmp 6], some [true, true, true, false, false, false, true, false, false, false, false, false, false, false, false]⟩, ⟨⟨Try.f30, Try.func30, rfl, rfl, rfl⟩, Try.call30⟩⟩
noncomputable def fu31 : FE Try.prog := ⟨31, ⟨Try.f31.body.getD .skip, 14, [.tmp 2], some [true, false, true, true, false, false, false, true, false, false, false, true, false, false]⟩, ⟨⟨Try.f31, Try.func31, rfl, rfl, rfl⟩, Try.call31⟩⟩
noncomputable def fu32 : FE Try.prog := ⟨32, ⟨Try.f32.body.getD .skip, 27, [.tmp 2], some [true, false, true, true, true, false, false, false, false, false, false, true, false, false, false, false, false, false, false, false, false, false, false, false, false, true, false]⟩, ⟨⟨Try.f32, Try.func32, rfl, rfl, rfl⟩, Try.call32⟩⟩
noncomputable def fu33 : FE Try.prog := ⟨33, ⟨Try.f33.body.getD .skip, 26, [.tmp 4], some [true, true, false, false, true, true, true, false, false, false, false, false, false, false, false, false, false, false, false, false, false, false, false, false, false, false]⟩, ⟨⟨Try.f33, Try.func33, rfl, rfl, rfl⟩, Try.call33⟩⟩
noncomputable def fu34 : FE Try.prog := ⟨34, ⟨Try.f34.body.getD .skip, 37, [.tmp 4], some [true, true, false, false, true, true, true, true, true, false, false, false, false, false, false, false, false, false, false, false, false, false, false, false, false, false, false, false, false, false, false, false, false, false, false, false, false]⟩, ⟨⟨Try.f34, Try.func34, rfl, rfl, rfl⟩, Try.call34⟩⟩
noncomputable def fu35 : FE Try.prog := ⟨35, ⟨Try.f35.body.getD .skip, 11, [.tmp 0], some [true, false, false, false, false, false, false, false, false, false, false]⟩, ⟨⟨Try.f35, Try.func35, rfl, rfl, rfl⟩, Try.call35⟩⟩
noncomputable def fu36 : FE Try.prog := ⟨36, ⟨Try.f36.body.getD .skip, 40, [.tmp 4], some [true, true, false, false, true, true, true, false, true, true, true, false, false, false, false, false, false, true, false, false, true, true, true, false, false, false, false, false, false, false, true, false, false, false, false, false, false, false, false, false]⟩, ⟨⟨Try.f36, Try.func36, rfl, rfl, rfl⟩, Try.call36⟩⟩
noncomputable def fu37 : FE Try.prog := ⟨37, ⟨Try.f37.body.getD .skip, 30, [.tmp 2, .tmp 3], some [true, false, true, true, true, false, true, false, false, true, true, true, true, false, false, false, false, true, false, false, false, false, false, false, false, false, false, false, true, false]⟩, ⟨⟨Try.f37, Try.func37, rfl, rfl, rfl⟩, Try.call37⟩⟩
noncomputable def fu38 : FE Try.prog := ⟨38, ⟨Try.f38.body.getD .skip, 52, [.tmp 4], some [true, true, false, false, true, true, true, true, false, false, true, false, false, false, true, false, false, false, false, false, false, false, false, false, false, false, false, false, false, false, false, false, false, false, false, false, false, false, false, false, false, false, true, false, false, false, true, false, false, false, false, false]⟩, ⟨⟨Try.f38, Try.func38, rfl, rfl, rfl⟩, Try.call38⟩⟩
noncomputable def fu39 : FE Try.prog := ⟨39, ⟨Try.f39.body.getD .skip, 28, [.tmp 4], some [true, true, false, false, true, true, false, false, false, false, true, false, false, false, true, false, false, false, false, false, false, false, false, false, false, false, false, true]⟩, ⟨⟨Try.f39, Try.func39, rfl, rfl, rfl⟩, Try.call39⟩⟩
noncomputable def fu40 : FE Try.prog := ⟨40, ⟨Try.f40.body.getD .skip, 11, [.tmp 2], some [true, false, true, false, true, false, false, false, false, false, false]⟩, ⟨⟨Try.f40, Try.func40, rfl, rfl, rfl⟩, Try.call40⟩⟩
noncomputable def fu41 : FE Try.prog := ⟨41, ⟨Try.f41.body.getD .skip, 11, [.tmp 2], some [true, false, true, false, true, false, false, false, false, false, false]⟩, ⟨⟨Try.f41, Try.func41, rfl, rfl, rfl⟩, Try.call41⟩⟩
noncomputable def fu42 : FE Try.prog := ⟨42, ⟨Try.f42.body.getD .skip, 9, [.tmp 2], some [true, false, true, false, true, false, false, false, false]⟩, ⟨⟨Try.f42, Try.func42, rfl, rfl, rfl⟩, Try.call42⟩⟩
noncomputable def fu43 : FE Try.prog := ⟨43, ⟨Try.f43.body.getD .skip, 26, [.tmp 4, .tmp 5], some [true, true, false, false, true, true, true, false, false, true, false, false, false, false, false, false, false, false, false, false, false, false, false, false, false, false]⟩, ⟨⟨Try.f43, Try.func43, rfl, rfl, rfl⟩, Try.call43⟩⟩
noncomputable def fu44 : FE Try.prog := ⟨44, ⟨Try.f44.body.getD .skip, 6, [.tmp 2], some [true, false, true, false, false, false]⟩, ⟨⟨Try.f44, Try.func44, rfl, rfl, rfl⟩, Try.call44⟩⟩
noncomputable def fu45 : FE Try.prog := ⟨45, ⟨Try.f45.body.getD .skip, 23, [.tmp 4], some [true, true, false, false, true, true, false, false, true, false, false, false, true, false, false, false, false, false, false, false, false, false, false]⟩, ⟨⟨Try.f45, Try.func45, rfl, rfl, rfl⟩, Try.call45⟩⟩
noncomputable def fu46 : FE Try.prog := ⟨46, ⟨Try.f46.body.getD .skip, 19, [.tmp 2, .tmp 3], some [true, false, true, true, true, true, false, false, false, false, false, false, true, false, false, false, false, false, false]⟩, ⟨⟨Try.f46, Try.func46, rfl, rfl, rfl⟩, Try.call46⟩⟩
noncomputable def fu47 : FE Try.prog := ⟨47, ⟨Try.f47.body.getD .skip, 38, [.tmp 2, .tmp 3], some [true, false, true, true, true, true, false, false, false, false, false, true, false, false, false, false, false, false, false, true, false, false, false, false, false, false, false, false, false, false, false, false, false, false, false, false, true, false]⟩, ⟨⟨Try.f47, Try.func47, rfl, rfl, rfl⟩, Try.call47⟩⟩
noncomputable def fu48 : FE Try.prog := ⟨48, ⟨Try.f48.body.getD .skip, 153, [.tmp 6], some [true, true, true, false, false, true, true, true, true, true, true, true, true, true, true, true, true, true, true, true, true, true, true, true, false, true, true, false, false, false, false, false, false, false, false, false, false, true, false, false, false, false, false, false, false, false, false, false, false, false, false, false, false, false, false, false, false, false, false, false, true, true, true, false, false, false, false, false, false, false, false, false, true, false, false, false, false, false, false, false, false, false, false, false, false, false, false, false, false, false, false, false, false, false, true, false, false, false, false, false, false, false, false, false, false, false, false, false, false, false, false, false, false, false, false, false, false, false, false, false, false, true, true, true, false, false, false, false, false, false, false, false, false, true, false, false, false, false, false, false, false, false, false, false, false, false, false, false, false, false, false, false, false]⟩, ⟨⟨Try.f48, Try.func48, rfl, rfl, rfl⟩, Try.call48⟩⟩
noncomputable def fu49 : FE Try.prog := ⟨49, ⟨Try.f49.body.getD .skip, 40, [.tmp 2], some [true, false, true, true, false, false, false, false, false, false, false, false, false, false, false, false, false, false, false, false, false, false, false, false, false, false, false, false, false, false, false, false, false, false, false, false, false, false, false, false]⟩, ⟨⟨Try.f49, Try.func49, rfl, rfl, rfl⟩, Try.call49⟩⟩
noncomputable def fu50 : FE Try.prog := ⟨50, ⟨Try.f50.body.getD .skip, 27, [.tmp 6], some [true, true, true, false, false, false, true, true, false, true, false, false, true, true, true, true, false, false, false, false, false, true, false, false, false, false, false]⟩, ⟨⟨Try.f50, Try.func50, rfl, rfl, rfl⟩, Try.call50⟩⟩
noncomputable def fu51 : FE Try.prog := ⟨51, ⟨Try.f51.body.getD .skip, 29, [.tmp 2], some [true, false, true, true, true, true, true, false, true, true, true, false, false, false, false, false, false, false, false, false, false, false, false, false, false, false, false, true, false]⟩, ⟨⟨Try.f51, Try.func51, rfl, rfl, rfl⟩, Try.call51⟩⟩
noncomputable def fu52 : FE Try.prog := ⟨52, ⟨Try.f52.body.getD .skip, 19, [.tmp 2], some [true, false, true, true, false, true, false, true, true, true, true, false, false, false, false, false, false, false, false]⟩, ⟨⟨Try.f52, Try.func52, rfl, rfl, rfl⟩, Try.call52⟩⟩
noncomputable def fu53 : FE Try.prog := ⟨53, ⟨Try.f53.body.getD .skip, 28, [.tmp 2, .tmp 3], some [true, false, true, true, true, true, true, false, false, false, false, false, false, true, false, false, false, false, false, false, false, true, false, false, false, false, false, false]⟩, ⟨⟨Try.f53, Try.func53, rfl, rfl, rfl⟩, Try.call53⟩⟩
noncomputable def fu54 : FE Try.prog := ⟨54, ⟨Try.f54.body.getD .skip, 35, [.tmp 2], some [true, false, true, true, true, true, true, false, true, false, false, true, true, true, false, true, false, false, false, false, false, false, true, false, false, false, false, false, false, false, false, false, false, false, false]⟩, ⟨⟨Try.f54, Try.func54, rfl, rfl, rfl⟩, Try.call54⟩⟩
noncomputable def fu55 : FE Try.prog := ⟨55, ⟨Try.f55.body.getD .skip, 10, [.tmp 4], some [true, true, false, false, true, false, false, false, false, false]⟩, ⟨⟨Try.f55, Try.func55, rfl, rfl, rfl⟩, Try.call55⟩⟩
noncomputable def fu56 : FE Try.prog := ⟨56, ⟨Try.f56.body.getD .skip, 47, [.tmp 2], some [true, false, true, true, true, true, false, false, true, false, false, false, true, false, false, false, false, false, false, false, false, false, false, true, false, false, false, false, false, false, false, true, false, false, false, false, false, true, false, false, false, false, false, false, false, false, false]⟩, ⟨⟨Try.f56, Try.func56, rfl, rfl, rfl⟩, Try.call56⟩⟩
noncomputable def fu57 : FE Try.prog := ⟨57, ⟨Try.f57.body.getD .skip, 4, [.tmp 2], some [true, false, true, true]⟩, ⟨⟨Try.f57, Try.func57, rfl, rfl, rfl⟩, Try.call57⟩⟩
noncomputable def fu58 : FE Try.prog := ⟨58, ⟨Try.f58.body.getD .skip, 4, [.tmp 2], some [true, false, true, true]⟩, ⟨⟨Try.f58, Try.func58, rfl, rfl, rfl⟩, Try.call58⟩⟩
noncomputable def fu59 : FE Try.prog := ⟨59, ⟨Try.f59.body.getD .skip, 16, [.tmp 2], some [true, false, true, true, true, false, true, false, true, false, true, false, true, false, true, false]⟩, ⟨⟨Try.f59, Try.func59, rfl, rfl, rfl⟩, Try.call59⟩⟩
noncomputable def fu60 : FE Try.prog := ⟨60, ⟨Try.f60.body.getD .skip, 9, [.tmp 2], some [true, false, true, false, false, false, false, false, false]⟩, ⟨⟨Try.f60, Try.func60, rfl, rfl, rfl⟩, Try.call60⟩⟩
noncomputable def fu61 : FE Try.prog := ⟨61, ⟨Try.f61.body.getD .skip, 9, [.tmp 2], some [true, false, true, false, false, false, false, false, false]⟩, ⟨⟨Try.f61, Try.func61, rfl, rfl, rfl⟩, Try.call61⟩⟩
noncomputable def fu62 : FE Try.prog := ⟨62, ⟨Try.f62.body.getD .skip, 29, [.tmp 2], some [true, false, true, true, true, false, true, false, true, false, true, false, true, false, false, true, false, true, false, true, false, true, false, true, false, true, false, true, false]⟩, ⟨⟨Try.f62, Try.func62, rfl, rfl, rfl⟩, Try.call62⟩⟩
noncomputable def fu63 : FE Try.prog := ⟨63, ⟨Try.f63.body.getD .skip, 13, [], some [true, true, false, false, false, false, false, false, false, false, false, false, false]⟩, ⟨⟨Try.f63, Try.func63, rfl, rfl, rfl⟩, Try.call63⟩⟩
noncomputable def fu64 : FE Try.prog := ⟨64, ⟨Try.f64.body.getD .skip, 8, [.tmp 2], some [true, false, true, false, true, false, false, false]⟩, ⟨⟨Try.f64, Try.func64, rfl, rfl, rfl⟩, Try.call64⟩⟩
noncomputable def fu65 : FE Try.prog := ⟨65, ⟨Try.f65.body.getD .skip, 12, [.tmp 2], some [true, false, true, false, false, false, false, false, false, false, false, false]⟩, ⟨⟨Try.f65, Try.func65, rfl, rfl, rfl⟩, Try.call65⟩⟩
noncomputable def fu66 : FE Try.prog := ⟨66, ⟨Try.f66.body.getD .skip, 8, [.tmp 2], some [true, false, true, false, false, false, false, false]⟩, ⟨⟨Try.f66, Try.func66, rfl, rfl, rfl⟩, Try.call66⟩⟩
noncomputable def fu67 : FE Try.prog := ⟨67, ⟨Try.f67.body.getD .skip, 30, [.tmp 2], some [true, false, true, true, true, false, false, true, false, false, false, false, false, false, false, true, false, false, false, false, false, false, true, false, false, true, false, false, true, false]⟩, ⟨⟨Try.f67, Try.func67, rfl, rfl, rfl⟩, Try.call67⟩⟩
noncomputable def fu68 : FE Try.prog := ⟨68, ⟨Try.f68.body.getD .skip, 8, [.tmp 2], some [true, false, true, false, true, false, false, false]⟩, ⟨⟨Try.f68, Try.func68, rfl, rfl, rfl⟩, Try.call68⟩⟩
noncomputable def fu69 : FE Try.prog := ⟨69, ⟨Try.f69.body.getD .skip, 101, [.tmp 4], some [true, true, false, false, true, true, true, true, false, true, false, false, false, false, false, true, false, false, false, false, false, false, true, true, true, true, false, false, false, false, false, false, false, false, false, false, false, false, true, false, false, false, false, true, false, false, false, false, false, false, false, false, false, true, false, false, false, false, false, true, false, false, false, false, false, false, false, false, true, false, false, false, false, false, true, false, false, false, false, false, false, false, false, false, true, false, false, false, false, false, false, false, true, false, false, false, false, false, false, false, false]⟩, ⟨⟨Try.f69, Try.func69, rfl, rfl, rfl⟩, Try.call69⟩⟩
noncomputable def fu70 : FE Try.prog := ⟨70, ⟨Try.f70.body.getD .skip, 19, [.tmp 2], some [true, false, true, true, false, true, true, true, true, true, false, false, false, false, false, false, false, false, false]⟩, ⟨⟨Try.f70, Try.func70, rfl, rfl, rfl⟩, Try.call70⟩⟩
noncomputable def fu71 : FE Try.prog := ⟨71, ⟨Try.f71.body.getD .skip, 17, [.tmp 4], some [true, true, false, true, true, true, true, true, false, true, true, true, false, false, true, false, false]⟩, ⟨⟨Try.f71, Try.func71, rfl, rfl, rfl⟩, Try.call71⟩⟩
noncomputable def fu72 : FE Try.prog := ⟨72, ⟨Try.f72.body.getD .skip, 32, [.tmp 4], some [true, true, false, false, true, true, true, false, false, false, false, false, false, false, false, false, false, false, false, false, false, false, false, false, false, false, false, false, false, false, false, false]⟩, ⟨⟨Try.f72, Try.func72, rfl, rfl, rfl⟩, Try.call72⟩⟩
noncomputable def fu73 : FE Try.prog := ⟨73, ⟨Try.f73.body.getD .skip, 7, [.tmp 2], some [true, false, true, true, false, false, false]⟩, ⟨⟨Try.f73, Try.func73, rfl, rfl, rfl⟩, Try.call73⟩⟩
noncomputable def fu74 : FE Try.prog := ⟨74, ⟨Try.f74.body.getD .skip, 47, [.tmp 4], some [true, true, false, false, true, true, true, true, false, false, false, true, false, false, false, false, false, false, false, true, false, false, false, false, false, false, false, false, false, false, false, false, true, false, false, false, false, false, false, false, false, false, false, false, false, false, false]⟩, ⟨⟨Try.f74, Try.func74, rfl, rfl, rfl⟩, Try.call74⟩⟩
noncomputable def fu75 : FE Try.prog := ⟨75, ⟨Try.f75.body.getD .skip, 31, [.tmp 4], some [true, true, false, false, true, false, false, true, false, false, false, false, false, false, false, false, false, false, false, true, false, false, false, false, false, false, false, false, false, false, false]⟩, ⟨⟨Try.f75, Try.func75, rfl, rfl, rfl⟩, Try.call75⟩⟩
noncomputable def fu76 : FE Try.prog := ⟨76, ⟨Try.f76.body.getD .skip, 29, [.tmp 2, .tmp 3], some [true, false, true, true, true, true, false, false, false, false, false, false, true, false, false, false, false, false, false, false, false, false, false, false, false, false, false, false, false]⟩, ⟨⟨Try.f76, Try.func76, rfl, rfl, rfl⟩, Try.call76⟩⟩
noncomputable def fu77 : FE Try.prog := ⟨77, ⟨Try.f77.body.getD .skip, 32, [.tmp 4, .tmp 5], some [true, true, false, false, true, true, false, false, false, false, false, false, false, false, false, false, true, false, false, false, false, false, false, false, false, false, false, false, false, false, false, false]⟩, ⟨⟨Try.f77, Try.func77, rfl, rfl, rfl⟩, Try.call77⟩⟩
noncomputable def fu78 : FE Try.prog := ⟨78, ⟨Try.f78.body.getD .skip, 39, [.tmp 2, .tmp 3], some [true, false, true, true, true, true, true, true, false, false, false, false, false, false, true, false, false, false, false, false, false, false, true, false, false, false, false, false, false, false, false, false, false, false, false, false, false, false, false]⟩, ⟨⟨Try.f78, Try.func78, rfl, rfl, rfl⟩, Try.call78⟩⟩
noncomputable def fu79 : FE Try.prog := ⟨79, ⟨Try.f79.body.getD .skip, 31, [.tmp 2, .tmp 3], some [true, false, true, true, true, true, false, true, false, true, false, true, false, true, false, true, false, true, false, true, false, true, false, true, false, true, false, true, false, true, false]⟩, ⟨⟨Try.f79, Try.func79, rfl, rfl, rfl⟩, Try.call79⟩⟩
noncomputable def fu80 : FE Try.prog := ⟨80, ⟨Try.f80.body.getD .skip, 4, [.tmp 2], some [true, true, true, false]⟩, ⟨⟨Try.f80, Try.func80, rfl, rfl, rfl⟩, Try.call80⟩⟩
noncomputable def fu81 : FE Try.prog := ⟨81, ⟨Try.f81.body.getD .skip, 10, [.tmp 2], some [true, false, true, false, true, false, false, false, false, false]⟩, ⟨⟨Try.f81, Try.func81, rfl, rfl, rfl⟩, Try.call81⟩⟩
noncomputable def fu82 : FE Try.prog := ⟨82, ⟨Try.f82.body.getD .skip, 5, [.tmp 2], some [true, false, true, false, false]⟩, ⟨⟨Try.f82, Try.func82, rfl, rfl, rfl⟩, Try.call82⟩⟩
noncomputable def fu83 : FE Try.prog := ⟨83, ⟨Try.f83.body.getD .skip, 5, [.tmp 2], some [true, false, true, false, false]⟩, ⟨⟨Try.f83, Try.func83, rfl, rfl, rfl⟩, Try.call83⟩⟩
noncomputable def fu84 : FE Try.prog := ⟨84, ⟨Try.f84.body.getD .skip, 5, [.tmp 2], some [true, false, true, false, false]⟩, ⟨⟨Try.f84, Try.func84, rfl, rfl, rfl⟩, Try.call84⟩⟩
noncomputable def fu85 : FE Try.prog := ⟨85, ⟨Try.f85.body.getD .skip, 6, [.tmp 2], some [true, false, true, false, false, false]⟩, ⟨⟨Try.f85, Try.func85, rfl, rfl, rfl⟩, Try.call85⟩⟩
noncomputable def fu86 : FE Try.prog := ⟨86, ⟨Try.f86.body.getD .skip, 6, [.tmp 2], some [true, false, true, false, false, false]⟩, ⟨⟨Try.f86, Try.func86, rfl, rfl, rfl⟩, Try.call86⟩⟩
noncomputable def fu87 : FE Try.prog := ⟨87, ⟨Try.f87.body.getD .skip, 6, [.tmp 2], some [true, false, true, false, false, false]⟩, ⟨⟨Try.f87, Try.func87, rfl, rfl, rfl⟩, Try.call87⟩⟩
noncomputable def fu88 : FE Try.prog := ⟨88, ⟨Try.f88.body.getD .skip, 8, [.tmp 4], some [true, true, false, false, true, false, false, false]⟩, ⟨⟨Try.f88, Try.func88, rfl, rfl, rfl⟩, Try.call88⟩⟩
noncomputable def fu89 : FE Try.prog := ⟨89, ⟨Try.f89.body.getD .skip, 8, [.tmp 4], some [true, true, false, false, true, false, false, false]⟩, ⟨⟨Try.f89, Try.func89, rfl, rfl, rfl⟩, Try.call89⟩⟩
noncomputable def fu90 : FE Try.prog := ⟨90, ⟨Try.f90.body.getD .skip, 10, [.tmp 4], some [true, true, false, false, true, false, false, false, false, false]⟩, ⟨⟨Try.f90, Try.func90, rfl, rfl, rfl⟩, Try.call90⟩⟩
noncomputable def fu91 : FE Try.prog := ⟨91, ⟨Try.f91.body.getD .skip, 10, [.tmp 4], some [true, true, false, false, true, false, false, false, false, false]⟩, ⟨⟨Try.f91, Try.func91, rfl, rfl, rfl⟩, Try.call91⟩⟩
noncomputable def fu92 : FE Try.prog := ⟨92, ⟨Try.f92.body.getD .skip, 9, [.tmp 4], some [true, true, false, false, true, false, false, false, false]⟩, ⟨⟨Try.f92, Try.func92, rfl, rfl, rfl⟩, Try.call92⟩⟩
noncomputable def fu93 : FE Try.prog := ⟨93, ⟨Try.f93.body.getD .skip, 9, [.tmp 4], some [true, true, false, false, true, false, false, false, false]⟩, ⟨⟨Try.f93, Try.func93, rfl, rfl, rfl⟩, Try.call93⟩⟩
noncomputable def fu94 : FE Try.prog := ⟨94, ⟨Try.f94.body.getD .skip, 9, [.tmp 4], some [true, true, false, false, true, false, false, false, false]⟩, ⟨⟨Try.f94, Try.func94, rfl, rfl, rfl⟩, Try.call94⟩⟩
noncomputable def fu95 : FE Try.prog := ⟨95, ⟨Try.f95.body.getD .skip, 9, [.tmp 4], some [true, true, false, false, true, false, false, false, false]⟩, ⟨⟨Try.f95, Try.func95, rfl, rfl, rfl⟩, Try.call95⟩⟩
noncomputable def fu96 : FE Try.prog := ⟨96, ⟨Try.f96.body.getD .skip, 9, [.tmp 4], some [true, true, false, false, true, false, false, false, false]⟩, ⟨⟨Try.f96, Try.func96, rfl, rfl, rfl⟩, Try.call96⟩⟩
noncomputable def fu97 : FE Try.prog := ⟨97, ⟨Try.f97.body.getD .skip, 9, [.tmp 4], some [true, true, false, false, true, false, false, false, false]⟩, ⟨⟨Try.f97, Try.func97, rfl, rfl, rfl⟩, Try.call97⟩⟩
noncomputable def fu98 : FE Try.prog := ⟨98, ⟨Try.f98.body.getD .skip, 8, [.tmp 4], some [true, true, false, false, true, false, false, false]⟩, ⟨⟨Try.f98, Try.func98, rfl, rfl, rfl⟩, Try.call98⟩⟩
noncomputable def fu99 : FE Try.prog := ⟨99, ⟨Try.f99.body.getD .skip, 8, [.tmp 4], some [true, true, false, false, true, false, false, false]⟩, ⟨⟨Try.f99, Try.func99, rfl, rfl, rfl⟩, Try.call99⟩⟩
noncomputable def fu100 : FE Try.prog := ⟨100, ⟨Try.f100.body.getD .skip, 41, [.tmp 2, .tmp 3], some [true, false, true, true, true, true, false, false, true, false, false, true, false, false, true, false, false, true, false, false, true, false, false, true, false, false, true, false, false, true, false, false, true, false, false, true, false, false, true, false, false]⟩, ⟨⟨Try.f100, Try.func100, rfl, rfl, rfl⟩, Try.call100⟩⟩
noncomputable def fu101 : FE Try.prog := ⟨101, ⟨Try.f101.body.getD .skip, 17, [], some [true, true, false, false, true, false, false, false, false, false, false, false, false, false, false, false, false]⟩, ⟨⟨Try.f101, Try.func101, rfl, rfl, rfl⟩, Try.call101⟩⟩
noncomputable def fu102 : FE Try.prog := ⟨102, ⟨Try.f102.body.getD .skip, 60, [.tmp 4], some [true, true, false, false, true, true, true, true, true, false, false, false, false, false, false, true, false, false, false, false, false, false, false, false, false, false, true, false, false, false, false, false, true, false, false, false, false, false, false, false, false, false, false, false, false, false, false, false, false, false, false, false, false, false, false, false, false, false, false, false]⟩, ⟨⟨Try.f102, Try.func102, rfl, rfl, rfl⟩, Try.call102⟩⟩
noncomputable def fu103 : FE Try.prog := ⟨103, ⟨Try.f103.body.getD .skip, 4, [.tmp 2], some [true, true, true, false]⟩, ⟨⟨Try.f103, Try.func103, rfl, rfl, rfl⟩, Try.call103⟩⟩
noncomputable def fu104 : FE Try.prog := ⟨104, ⟨Try.f104.body.getD .skip, 275, [.tmp 4, .tmp 5], some [true, true, false, false, true, true, true, true, true, true, true, true, true, true, true, true, true, false, false, false, false, false, false, false, false, false, false, false, false, false, false, false, false, false, false, false, false, false, false, false, true, false, false, false, true, false, false, false, false, false, false, false, false, false, false, false, false, false, false, false, false, false, false, false, false, false, false, false, false, false, true, false, false, false, false, false, false, false, false, false, false, false, false, false, false, false, false, false, false, false, false, false, true, false, false, false, false, false, false, false, false, false, false, false, false, false, true, false, false, false, false, false, true, false, false, false, false, false, false, false, false, false, false, false, false, false, false, false, false, false, false, false, false, false, false, false, false, false, false, false, false, false, false, false, false, false, false, false, false, false, true, false, false, false, false, false, false, false, false, true, false, false, false, false, false, false, true, false, false, false, false, false, false, false, false, false, false, false, true, false, false, false, false, false, false, false, false, false, false, false, false, false, false, false, false, true, false, false, false, false, false, false, false, false, false, false, false, false, false, false, false, false, false, false, false, false, false, false, false, false, false, false, false, false, true, false, false, false, false, false, false, false, false, false, false, false, false, false, false, false, false, false, false, false, false, false, true, false, false, true, false, false, false, false, false, false, false, false, false, false, true, false, false, false, false, false, false, false, false, false, false, false, false, false, false]⟩, ⟨⟨Try.f104, Try.func104, rfl, rfl, rfl⟩, Try.call104⟩⟩
noncomputable def fu105 : FE Try.prog := ⟨105, ⟨Try.f105.body.getD .skip, 16, [], some [true, true, false, true, false, true, false, false, false, false, false, false, false, false, false, true]⟩, ⟨⟨Try.f105, Try.func105, rfl, rfl, rfl⟩, Try.call105⟩⟩
noncomputable def fu106 : FE Try.prog := ⟨106, ⟨Try.f106.body.getD .skip, 33, [.tmp 6], some [true, true, true, false, false, false, true, true, false, false, false, false, false, false, false, false, true, false, false, false, false, false, false, false, false, false, false, false, false, false, false, false, false]⟩, ⟨⟨Try.f106, Try.func106, rfl, rfl, rfl⟩, Try.call106⟩⟩
noncomputable def fu107 : FE Try.prog := ⟨107, ⟨Try.f107.body.getD .skip, 24, [], some [true, true, true, true, true, false, false, false, false, true, true, true, false, false, false, false, false, false, false, false, false, false, false, true]⟩, ⟨⟨Try.f107, Try.func107, rfl, rfl, rfl⟩, Try.call107⟩⟩
noncomputable def fu108 : FE Try.prog := ⟨108, ⟨Try.f108.body.getD .skip, 4, [.tmp 2], some [true, true, true, false]⟩, ⟨⟨Try.f108, Try.func108, rfl, rfl, rfl⟩, Try.call108⟩⟩
noncomputable def fu109 : FE Try.prog := ⟨109, ⟨Try.f109.body.getD .skip, 7, [.tmp 2], some [true, false, true, true, false, false, false]⟩, ⟨⟨Try.f109, Try.func109, rfl, rfl, rfl⟩, Try.call109⟩⟩
noncomputable def fu110 : FE Try.prog := ⟨110, ⟨Try.f110.body.getD .skip, 19, [], some [true, true, false, true, false, false, false, false, true, false, false, false, false, false, false, false, false, false, true]⟩, ⟨⟨Try.f110, Try.func110, rfl, rfl, rfl⟩, Try.call110⟩⟩
noncomputable def eqs : List (QE Try.prog) := []
noncomputable def env : Env := { P := Try.prog, mixed := by kernel_rfl, types := (.node 72 (.node 36 (.node 18 (.node 9 (.node 4 (.node 2 (.node 1 (.leaf ty0) (.leaf ty1)) (.node 3 (.leaf ty2) (.leaf ty3))) (.node 6 (.node 5 (.leaf ty4) (.leaf ty5)) (.node 7 (.leaf ty6) (.node 8 (.leaf ty7) (.leaf ty8))))) (.node 13 (.node 11 (.node 10 (.leaf ty9) (.leaf ty10)) (.node 12 (.leaf ty11) (.leaf ty12))) (.node 15 (.node 14 (.leaf ty13) (.leaf ty14)) (.node 16 (.leaf ty15) (.node 17 (.leaf ty16) (.leaf ty17)))))) (.node 27 (.node 22 (.node 20 (.node 19 (.leaf ty18) (.leaf ty19)) (.node 21 (.leaf ty20) (.leaf ty21))) (.node 24 (.node 23 (.leaf ty22) (.leaf ty23)) (.node 25 (.leaf ty24) (.node 26 (.leaf ty25) (.leaf ty26))))) (.node 31 (.node 29 (.node 28 (.leaf ty27) (.leaf ty28)) (.node 30 (.leaf ty29) (.leaf ty30))) (.node 33 (.node 32 (.leaf ty31) (.leaf ty32)) (.node 34 (.leaf ty33) (.node 35 (.leaf ty34) (.leaf ty35))))))) (.node 54 (.node 45 (.node 40 (.node 38 (.node 37 (.leaf ty36) (.leaf ty37)) (.node 39 (.leaf ty38) (.leaf ty39))) (.node 42 (.node 41 (.leaf ty40) (.leaf ty41)) (.node 43 (.leaf ty42) (.node 44 (.leaf ty43) (.leaf ty44))))) (.node 49 (.node 47 (.node 46 (.leaf ty45) (.leaf ty46)) (.node 48 (.leaf ty47) (.leaf ty48))) (.node 51 (.node 50 (.leaf ty49) (.leaf ty50)) (.node 52 (.leaf ty51) (.node 53 (.leaf ty52) (.leaf ty53)))))) (.node 63 (.node 58 (.node 56 (.node 55 (.leaf ty54) (.leaf ty55)) (.node 57 (.leaf ty56) (.leaf ty57))) (.node 60 (.node 59 (.leaf ty58) (.leaf ty59)) (.node 61 (.leaf ty60) (.node 62 (.leaf ty61) (.leaf ty62))))) (.node 67 (.node 65 (.node 64 (.leaf ty63) (.leaf ty64)) (.node 66 (.leaf ty65) (.leaf ty66))) (.node 69 (.node 68 (.leaf ty67) (.leaf ty68)) (.node 70 (.leaf ty69) (.node 71 (.leaf ty70) (.leaf ty71)))))))) (.node 108 (.node 90 (.node 81 (.node 76 (.node 74 (.node 73 (.leaf ty72) (.leaf ty73)) (.node 75 (.leaf ty74) (.leaf ty75))) (.node 78 (.node 77 (.leaf ty76) (.leaf ty77)) (.node 79 (.leaf ty78) (.node 80 (.leaf ty79) (.leaf ty80))))) (.node 85 (.node 83 (.node 82 (.leaf ty81) (.leaf ty82)) (.node 84 (.leaf ty83) (.leaf ty84))) (.node 87 (.node 86 (.leaf ty85) (.leaf ty86)) (.node 88 (.leaf ty87) (.node 89 (.leaf ty88) (.leaf ty89)))))) (.node 99 (.node 94 (.node 92 (.node 91 (.leaf ty90) (.leaf ty91)) (.node 93 (.leaf ty92) (.leaf ty93))) (.node 96 (.node 95 (.leaf ty94) (.leaf ty95)) (.node 97 (.leaf ty96) (.node 98 (.leaf ty97) (.leaf ty98))))) (.node 103 (.node 101 (.node 100 (.leaf ty99) (.leaf ty100)) (.node 102 (.leaf ty101) (.leaf ty102))) (.node 105 (.node 104 (.leaf ty103) (.leaf ty104)) (.node 106 (.leaf ty105) (.node 107 (.leaf ty106) (.leaf ty107))))))) (.node 126 (.node 117 (.node 112 (.node 110 (.node 109 (.leaf ty108) (.leaf ty109)) (.node 111 (.leaf ty110) (.leaf ty111))) (.node 114 (.node 113 (.leaf ty112) (.leaf ty113)) (.node 115 (.leaf ty114) (.node 116 (.leaf ty115) (.leaf ty116))))) (.node 121 (.node 119 (.node 118 (.leaf ty117) (.leaf ty118)) (.node 120 (.leaf ty119) (.leaf ty120))) (.node 123 (.node 122 (.leaf ty121) (.leaf ty122)) (.node 124 (.leaf ty123) (.node 125 (.leaf ty124) (.leaf ty125)))))) (.node 135 (.node 130 (.node 128 (.node 127 (.leaf ty126) (.leaf ty127)) (.node 129 (.leaf ty128) (.leaf ty129))) (.node 132 (.node 131 (.leaf ty130) (.leaf ty131)) (.node 133 (.leaf ty132) (.node 134 (.leaf ty133) (.leaf ty134))))) (.node 139 (.node 137 (.node 136 (.leaf ty135) (.leaf ty136)) (.node 138 (.leaf ty137) (.leaf ty138))) (.node 141 (.node 140 (.leaf ty139) (.leaf ty140)) (.node 142 (.leaf ty141) (.node 143 (.leaf ty142) (.leaf ty143))))))))), funcs := (.node 56 (.node 29 (.node 15 (.node 8 (.node 5 (.node 3 (.leaf fu2) (.node 4 (.leaf fu3) (.leaf fu4))) (.node 6 (.leaf fu5) (.node 7 (.leaf fu6) (.leaf fu7)))) (.node 11 (.node 9 (.leaf fu8) (.node 10 (.leaf fu9) (.leaf fu10))) (.node 13 (.node 12 (.leaf fu11) (.leaf fu12)) (.node 14 (.leaf fu13) (.leaf fu14))))) (.node 22 (.node 18 (.node 16 (.leaf fu15) (.node 17 (.leaf fu16) (.leaf fu17))) (.node 20 (.node 19 (.leaf fu18) (.leaf fu19)) (.node 21 (.leaf fu20) (.leaf fu21)))) (.node 25 (.node 23 (.leaf fu22) (.node 24 (.leaf fu23) (.leaf fu24))) (.node 27 (.node 26 (.leaf fu25) (.leaf fu26)) (.node 28 (.leaf fu27) (.leaf fu28)))))) (.node 42 (.node 35 (.node 32 (.node 30 (.leaf fu29) (.node 31 (.leaf fu30) (.leaf fu31))) (.node 33 (.leaf fu32) (.node 34 (.leaf fu33) (.leaf fu34)))) (.node 38 (.node 36 (.leaf fu35) (.node 37 (.leaf fu36) (.leaf fu37))) (.node 40 (.node 39 (.leaf fu38) (.leaf fu39)) (.node 41 (.leaf fu40) (.leaf fu41))))) (.node 49 (.node 45 (.node 43 (.leaf fu42) (.node 44 (.leaf fu43) (.leaf fu44))) (.node 47 (.node 46 (.leaf fu45) (.leaf fu46)) (.node 48 (.leaf fu47) (.leaf fu48)))) (.node 52 (.node 50 (.leaf fu49) (.node 51 (.leaf fu50) (.leaf fu51))) (.node 54 (.node 53 (.leaf fu52) (.leaf fu53)) (.node 55 (.leaf fu54) (.leaf fu55))))))) (.node 83 (.node 69 (.node 62 (.node 59 (.node 57 (.leaf fu56) (.node 58 (.leaf fu57) (.leaf fu58))) (.node 60 (.leaf fu59) (.node 61 (.leaf fu60) (.leaf fu61)))) (.node 65 (.node 63 (.leaf fu62) (.node 64 (.leaf fu63) (.leaf fu64))) (.node 67 (.node 66 (.leaf fu65) (.leaf fu66)) (.node 68 (.leaf fu67) (.leaf fu68))))) (.node 76 (.node 72 (.node 70 (.leaf fu69) (.node 71 (.leaf fu70) (.leaf fu71))) (.node 74 (.node 73 (.leaf fu72) (.leaf fu73)) (.node 75 (.leaf fu74) (.leaf fu75)))) (.node 79 (.node 77 (.leaf fu76) (.node 78 (.leaf fu77) (.leaf fu78))) (.node 81 (.node 80 (.leaf fu79) (.leaf fu80)) (.node 82 (.leaf fu81) (.leaf fu82)))))) (.node 97 (.node 90 (.node 86 (.node 84 (.leaf fu83) (.node 85 (.leaf fu84) (.leaf fu85))) (.node 88 (.node 87 (.leaf fu86) (.leaf fu87)) (.node 89 (.leaf fu88) (.leaf fu89)))) (.node 93 (.node 91 (.leaf fu90) (.node 92 (.leaf fu91) (.leaf fu92))) (.node 95 (.node 94 (.leaf fu93) (.leaf fu94)) (.node 96 (.leaf fu95) (.leaf fu96))))) (.node 104 (.node 100 (.node 98 (.leaf fu97) (.node 99 (.leaf fu98) (.leaf fu99))) (.node 102 (.node 101 (.leaf fu100) (.leaf fu101)) (.node 103 (.leaf fu102) (.leaf fu103)))) (.node 107 (.node 105 (.leaf fu104) (.node 106 (.leaf fu105) (.leaf fu106))) (.node 109 (.node 108 (.leaf fu107) (.leaf fu108)) (.node 110 (.leaf fu109) (.leaf fu110)))))))), hooks := [], eqs := eqs }
theorem ti0 : ti env 0 = M.pure ⟨Go.TypeDesc.tuple #[], 1, 0, .tup []⟩ := rfl
theorem ti1 : ti env 1 = M.pure ⟨Go.TypeDesc.func #[] #[] false, 1, 8, .nilf⟩ := rfl
theorem ti2 : ti env 2 = M.pure ⟨Go.TypeDesc.int (Go.IntKind.i64), 1, 8, .int .i64 (0)⟩ := rfl
theorem ti3 : ti env 3 = M.pure ⟨Go.TypeDesc.int (Go.IntKind.i64), 1, 8, .int .i64 (0)⟩ := rfl
theorem ti4 : ti env 4 = M.pure ⟨Go.TypeDesc.bool, 1, 1, .bool false⟩ := rfl
theorem ti5 : ti env 5 = M.pure ⟨Go.TypeDesc.int (Go.IntKind.u8), 1, 1, .int .u8 (0)⟩ := rfl
theorem ti6 : ti env 6 = M.pure ⟨Go.TypeDesc.int (Go.IntKind.u8), 1, 1, .int .u8 (0)⟩ := rfl
theorem ti7 : ti env 7 = M.pure ⟨Go.TypeDesc.struct #[{ name := "x", type := 2, offset := 0, embedded := false, tag := "", pkgPath := "runtime", byteOffset := 0 }, { name := "y", type := 3, offset := 1, embedded := false, tag := "", pkgPath := "runtime", byteOffset := 8 }, { name := "signed", type := 4, offset := 2, embedded := false, tag := "", pkgPath := "runtime", byteOffset := 16 }, { name := "code", type := 6, offset := 3, embedded := false, tag := "", pkgPath := "runtime", byteOffset := 17 }], 4, 24, .agg [.int .i64 (0), .int .i64 (0), .bool false, .int .u8 (0)]⟩ := rfl
theorem ti8 : ti env 8 = M.pure ⟨Go.TypeDesc.struct #[{ name := "x", type := 2, offset := 0, embedded := false, tag := "", pkgPath := "runtime", byteOffset := 0 }, { name := "y", type := 3, offset := 1, embedded := false, tag := "", pkgPath := "runtime", byteOffset := 8 }, { name := "signed", type := 4, offset := 2, embedded := false, tag := "", pkgPath := "runtime", byteOffset := 16 }, { name := "code", type := 6, offset := 3, embedded := false, tag := "", pkgPath := "runtime", byteOffset := 17 }], 4, 24, .agg [.int .i64 (0), .int .i64 (0), .bool false, .int .u8 (0)]⟩ := rfl
theorem ti9 : ti env 9 = M.pure ⟨Go.TypeDesc.string, 1, 16, .str []⟩ := rfl
theorem ti10 : ti env 10 = M.pure ⟨Go.TypeDesc.string, 1, 16, .str []⟩ := rfl
theorem ti11 : ti env 11 = M.pure ⟨Go.TypeDesc.string, 1, 16, .str []⟩ := rfl
theorem ti12 : ti env 12 = M.pure ⟨Go.TypeDesc.int (Go.IntKind.u64), 1, 8, .int .u64 (0)⟩ := rfl
theorem ti13 : ti env 13 = M.pure ⟨Go.TypeDesc.struct #[{ name := "msg", type := 9, offset := 0, embedded := false, tag := "", pkgPath := "runtime", byteOffset := 0 }, { name := "addr", type := 12, offset := 1, embedded := false, tag := "", pkgPath := "runtime", byteOffset := 16 }], 2, 24, .agg [.str [], .int .u64 (0)]⟩ := rfl
theorem ti14 : ti env 14 = M.pure ⟨Go.TypeDesc.struct #[{ name := "msg", type := 9, offset := 0, embedded := false, tag := "", pkgPath := "runtime", byteOffset := 0 }, { name := "addr", type := 12, offset := 1, embedded := false, tag := "", pkgPath := "runtime", byteOffset := 16 }], 2, 24, .agg [.str [], .int .u64 (0)]⟩ := rfl
theorem ti15 : ti env 15 = M.pure ⟨Go.TypeDesc.pointer 130, 1, 8, .nilp⟩ := rfl
theorem ti16 : ti env 16 = M.pure ⟨Go.TypeDesc.pointer 133, 1, 8, .nilp⟩ := rfl
theorem ti17 : ti env 17 = M.pure ⟨Go.TypeDesc.pointer 142, 1, 8, .nilp⟩ := rfl
theorem ti18 : ti env 18 = M.pure ⟨Go.TypeDesc.struct #[{ name := "typ", type := 17, offset := 0, embedded := false, tag := "", pkgPath := "internal/runtime/maps", byteOffset := 0 }], 1, 8, .agg [.nilp]⟩ := rfl
theorem ti19 : ti env 19 = M.pure ⟨Go.TypeDesc.struct #[{ name := "typ", type := 17, offset := 0, embedded := false, tag := "", pkgPath := "internal/runtime/maps", byteOffset := 0 }], 1, 8, .agg [.nilp]⟩ := rfl
theorem ti20 : ti env 20 = M.pure ⟨Go.TypeDesc.interface #[], 1, 16, .nili⟩ := rfl
theorem ti21 : ti env 21 = M.pure ⟨Go.TypeDesc.int (Go.IntKind.i32), 1, 4, .int .i32 (0)⟩ := rfl
theorem ti22 : ti env 22 = M.pure ⟨Go.TypeDesc.slice 5, 1, 24, .nils⟩ := rfl
theorem ti23 : ti env 23 = M.pure ⟨Go.TypeDesc.func #[] #[4] false, 1, 8, .nilf⟩ := rfl
theorem ti24 : ti env 24 = M.pure ⟨Go.TypeDesc.int (Go.IntKind.i64), 1, 8, .int .i64 (0)⟩ := rfl
theorem ti25 : ti env 25 = M.pure ⟨Go.TypeDesc.tuple #[22, 24], 1, 0, .tup [.nils, .int .i64 (0)]⟩ := rfl
theorem ti26 : ti env 26 = M.pure ⟨Go.TypeDesc.func #[2] #[22, 24] false, 1, 8, .nilf⟩ := rfl
theorem ti27 : ti env 27 = M.pure ⟨Go.TypeDesc.tuple #[2, 24], 1, 0, .tup [.int .i64 (0), .int .i64 (0)]⟩ := rfl
theorem ti28 : ti env 28 = M.pure ⟨Go.TypeDesc.func #[22] #[2, 24] false, 1, 8, .nilf⟩ := rfl
theorem ti29 : ti env 29 = M.pure ⟨Go.TypeDesc.func #[22] #[4] false, 1, 8, .nilf⟩ := rfl
theorem ti30 : ti env 30 = M.pure ⟨Go.TypeDesc.func #[2, 22] #[4] false, 1, 8, .nilf⟩ := rfl
theorem ti31 : ti env 31 = M.pure ⟨Go.TypeDesc.tuple #[22, 3], 1, 0, .tup [.nils, .int .i64 (0)]⟩ := rfl
theorem ti32 : ti env 32 = M.pure ⟨Go.TypeDesc.func #[2] #[22, 3] false, 1, 8, .nilf⟩ := rfl
theorem ti33 : ti env 33 = M.pure ⟨Go.TypeDesc.tuple #[2, 3], 1, 0, .tup [.int .i64 (0), .int .i64 (0)]⟩ := rfl
theorem ti34 : ti env 34 = M.pure ⟨Go.TypeDesc.func #[22] #[2, 3] false, 1, 8, .nilf⟩ := rfl
theorem ti35 : ti env 35 = M.pure ⟨Go.TypeDesc.func #[4] #[22] false, 1, 8, .nilf⟩ := rfl
theorem ti36 : ti env 36 = M.pure ⟨Go.TypeDesc.func #[2, 22, 4] #[4] false, 1, 8, .nilf⟩ := rfl
theorem ti37 : ti env 37 = M.pure ⟨Go.TypeDesc.func #[5, 2] #[2, 24] false, 1, 8, .nilf⟩ := rfl
theorem ti38 : ti env 38 = M.pure ⟨Go.TypeDesc.func #[5, 2] #[2, 3] false, 1, 8, .nilf⟩ := rfl
theorem ti39 : ti env 39 = M.pure ⟨Go.TypeDesc.func #[5, 2, 2] #[2, 24] false, 1, 8, .nilf⟩ := rfl
theorem ti40 : ti env 40 = M.pure ⟨Go.TypeDesc.func #[5, 2, 2] #[2, 3] false, 1, 8, .nilf⟩ := rfl
theorem ti41 : ti env 41 = M.pure ⟨Go.TypeDesc.func #[2, 2, 2] #[4] false, 1, 8, .nilf⟩ := rfl
theorem ti42 : ti env 42 = M.pure ⟨Go.TypeDesc.func #[5] #[3] false, 1, 8, .nilf⟩ := rfl
theorem ti43 : ti env 43 = M.pure ⟨Go.TypeDesc.func #[5, 2, 2, 2] #[4] false, 1, 8, .nilf⟩ := rfl
theorem ti44 : ti env 44 = M.pure ⟨Go.TypeDesc.array 8 2, 8, 64, .agg [.int .i64 (0), .int .i64 (0), .int .i64 (0), .int .i64 (0), .int .i64 (0), .int .i64 (0), .int .i64 (0), .int .i64 (0)]⟩ := rfl
theorem ti45 : ti env 45 = M.pure ⟨Go.TypeDesc.func #[2, 2] #[4] false, 1, 8, .nilf⟩ := rfl
theorem ti46 : ti env 46 = M.pure ⟨Go.TypeDesc.func #[5, 2, 2] #[4] false, 1, 8, .nilf⟩ := rfl
theorem ti47 : ti env 47 = M.pure ⟨Go.TypeDesc.func #[9, 4] #[4] false, 1, 8, .nilf⟩ := rfl
theorem ti48 : ti env 48 = M.pure ⟨Go.TypeDesc.func #[2, 9] #[4] false, 1, 8, .nilf⟩ := rfl
theorem ti49 : ti env 49 = M.pure ⟨Go.TypeDesc.struct #[{ name := "code", type := 5, offset := 0, embedded := false, tag := "", pkgPath := "purser/purserlaw11", byteOffset := 0 }, { name := "a", type := 2, offset := 1, embedded := false, tag := "", pkgPath := "purser/purserlaw11", byteOffset := 8 }, { name := "want", type := 2, offset := 2, embedded := false, tag := "", pkgPath := "purser/purserlaw11", byteOffset := 16 }], 3, 24, .agg [.int .u8 (0), .int .i64 (0), .int .i64 (0)]⟩ := rfl
theorem ti50 : ti env 50 = M.pure ⟨Go.TypeDesc.slice 49, 1, 24, .nils⟩ := rfl
theorem ti51 : ti env 51 = M.pure ⟨Go.TypeDesc.struct #[{ name := "code", type := 5, offset := 0, embedded := false, tag := "", pkgPath := "purser/purserlaw11", byteOffset := 0 }, { name := "a", type := 2, offset := 1, embedded := false, tag := "", pkgPath := "purser/purserlaw11", byteOffset := 8 }, { name := "b", type := 2, offset := 2, embedded := false, tag := "", pkgPath := "purser/purserlaw11", byteOffset := 16 }, { name := "want", type := 2, offset := 3, embedded := false, tag := "", pkgPath := "purser/purserlaw11", byteOffset := 24 }], 4, 32, .agg [.int .u8 (0), .int .i64 (0), .int .i64 (0), .int .i64 (0)]⟩ := rfl
theorem ti52 : ti env 52 = M.pure ⟨Go.TypeDesc.slice 51, 1, 24, .nils⟩ := rfl
theorem ti53 : ti env 53 = M.pure ⟨Go.TypeDesc.slice 22, 1, 24, .nils⟩ := rfl
theorem ti54 : ti env 54 = M.pure ⟨Go.TypeDesc.func #[53, 70] #[4] false, 1, 8, .nilf⟩ := rfl
theorem ti55 : ti env 55 = M.pure ⟨Go.TypeDesc.pointer 95, 1, 8, .nilp⟩ := rfl
theorem ti56 : ti env 56 = M.pure ⟨Go.TypeDesc.tuple #[55, 24], 1, 0, .tup [.nilp, .int .i64 (0)]⟩ := rfl
theorem ti57 : ti env 57 = M.pure ⟨Go.TypeDesc.func #[53] #[55, 24] true, 1, 8, .nilf⟩ := rfl
theorem ti58 : ti env 58 = M.pure ⟨Go.TypeDesc.func #[5] #[24] false, 1, 8, .nilf⟩ := rfl
theorem ti59 : ti env 59 = M.pure ⟨Go.TypeDesc.func #[53, 53] #[4] false, 1, 8, .nilf⟩ := rfl
theorem ti60 : ti env 60 = M.pure ⟨Go.TypeDesc.func #[] #[53] false, 1, 8, .nilf⟩ := rfl
theorem ti61 : ti env 61 = M.pure ⟨Go.TypeDesc.func #[53, 5] #[4] false, 1, 8, .nilf⟩ := rfl
theorem ti62 : ti env 62 = M.pure ⟨Go.TypeDesc.map 5 3, 1, 8, .nilm⟩ := rfl
theorem ti63 : ti env 63 = M.pure ⟨Go.TypeDesc.func #[] #[3] false, 1, 8, .nilf⟩ := rfl
theorem ti64 : ti env 64 = M.pure ⟨Go.TypeDesc.func #[3] #[22, 24] false, 1, 8, .nilf⟩ := rfl
theorem ti65 : ti env 65 = M.pure ⟨Go.TypeDesc.func #[5] #[4] false, 1, 8, .nilf⟩ := rfl
theorem ti66 : ti env 66 = M.pure ⟨Go.TypeDesc.func #[53, 22] #[4] false, 1, 8, .nilf⟩ := rfl
theorem ti67 : ti env 67 = M.pure ⟨Go.TypeDesc.func #[22] #[24] false, 1, 8, .nilf⟩ := rfl
theorem ti68 : ti env 68 = M.pure ⟨Go.TypeDesc.func #[53, 2] #[4] false, 1, 8, .nilf⟩ := rfl
theorem ti69 : ti env 69 = M.pure ⟨Go.TypeDesc.func #[] #[22, 24] false, 1, 8, .nilf⟩ := rfl
theorem ti70 : ti env 70 = M.pure ⟨Go.TypeDesc.slice 76, 1, 24, .nils⟩ := rfl
theorem ti71 : ti env 71 = M.pure ⟨Go.TypeDesc.pointer 78, 1, 8, .nilp⟩ := rfl
theorem ti72 : ti env 72 = M.pure ⟨Go.TypeDesc.tuple #[71, 3], 1, 0, .tup [.nilp, .int .i64 (0)]⟩ := rfl
theorem ti73 : ti env 73 = M.pure ⟨Go.TypeDesc.func #[53] #[71, 3] false, 1, 8, .nilf⟩ := rfl
theorem ti74 : ti env 74 = M.pure ⟨Go.TypeDesc.func #[55, 71, 76] #[4] false, 1, 8, .nilf⟩ := rfl
theorem ti75 : ti env 75 = M.pure ⟨Go.TypeDesc.struct #[{ name := "Kind", type := 3, offset := 0, embedded := false, tag := "", pkgPath := "", byteOffset := 0 }, { name := "Code", type := 5, offset := 1, embedded := false, tag := "", pkgPath := "", byteOffset := 8 }, { name := "B", type := 22, offset := 2, embedded := false, tag := "", pkgPath := "", byteOffset := 16 }, { name := "N", type := 3, offset := 3, embedded := false, tag := "", pkgPath := "", byteOffset := 40 }], 4, 48, .agg [.int .i64 (0), .int .u8 (0), .nils, .int .i64 (0)]⟩ := rfl
theorem ti76 : ti env 76 = M.pure ⟨Go.TypeDesc.struct #[{ name := "Kind", type := 3, offset := 0, embedded := false, tag := "", pkgPath := "", byteOffset := 0 }, { name := "Code", type := 5, offset := 1, embedded := false, tag := "", pkgPath := "", byteOffset := 8 }, { name := "B", type := 22, offset := 2, embedded := false, tag := "", pkgPath := "", byteOffset := 16 }, { name := "N", type := 3, offset := 3, embedded := false, tag := "", pkgPath := "", byteOffset := 40 }], 4, 48, .agg [.int .i64 (0), .int .u8 (0), .nils, .int .i64 (0)]⟩ := rfl
theorem ti77 : ti env 77 = M.pure ⟨Go.TypeDesc.struct #[{ name := "L", type := 53, offset := 0, embedded := false, tag := "", pkgPath := "", byteOffset := 0 }, { name := "O", type := 53, offset := 1, embedded := false, tag := "", pkgPath := "", byteOffset := 24 }], 2, 48, .agg [.nils, .nils]⟩ := rfl
theorem ti78 : ti env 78 = M.pure ⟨Go.TypeDesc.struct #[{ name := "L", type := 53, offset := 0, embedded := false, tag := "", pkgPath := "", byteOffset := 0 }, { name := "O", type := 53, offset := 1, embedded := false, tag := "", pkgPath := "", byteOffset := 24 }], 2, 48, .agg [.nils, .nils]⟩ := rfl
theorem ti79 : ti env 79 = M.pure ⟨Go.TypeDesc.func #[9, 9, 22] #[4] true, 1, 8, .nilf⟩ := rfl
theorem ti80 : ti env 80 = M.pure ⟨Go.TypeDesc.func #[9] #[55] false, 1, 8, .nilf⟩ := rfl
theorem ti81 : ti env 81 = M.pure ⟨Go.TypeDesc.func #[55] #[9] false, 1, 8, .nilf⟩ := rfl
theorem ti82 : ti env 82 = M.pure ⟨Go.TypeDesc.func #[] #[2, 24] false, 1, 8, .nilf⟩ := rfl
theorem ti83 : ti env 83 = M.pure ⟨Go.TypeDesc.func #[2] #[22] false, 1, 8, .nilf⟩ := rfl
theorem ti84 : ti env 84 = M.pure ⟨Go.TypeDesc.func #[22, 22] #[4] false, 1, 8, .nilf⟩ := rfl
theorem ti85 : ti env 85 = M.pure ⟨Go.TypeDesc.func #[4] #[2] false, 1, 8, .nilf⟩ := rfl
theorem ti86 : ti env 86 = M.pure ⟨Go.TypeDesc.func #[89] #[2] false, 1, 8, .nilf⟩ := rfl
theorem ti87 : ti env 87 = M.pure ⟨Go.TypeDesc.func #[5] #[86] false, 1, 8, .nilf⟩ := rfl
theorem ti88 : ti env 88 = M.pure ⟨Go.TypeDesc.func #[2] #[4] false, 1, 8, .nilf⟩ := rfl
theorem ti89 : ti env 89 = M.pure ⟨Go.TypeDesc.int (Go.IntKind.i64), 1, 8, .int .i64 (0)⟩ := rfl
theorem ti90 : ti env 90 = M.pure ⟨Go.TypeDesc.func #[89, 89] #[2] false, 1, 8, .nilf⟩ := rfl
theorem ti91 : ti env 91 = M.pure ⟨Go.TypeDesc.func #[5] #[90] false, 1, 8, .nilf⟩ := rfl
theorem ti92 : ti env 92 = M.pure ⟨Go.TypeDesc.struct #[{ name := "l", type := 53, offset := 0, embedded := false, tag := "", pkgPath := "purser/stack", byteOffset := 0 }], 1, 24, .agg [.nils]⟩ := rfl
theorem ti93 : ti env 93 = M.pure ⟨Go.TypeDesc.struct #[{ name := "l", type := 53, offset := 0, embedded := false, tag := "", pkgPath := "purser/stack", byteOffset := 0 }], 1, 24, .agg [.nils]⟩ := rfl
theorem ti94 : ti env 94 = M.pure ⟨Go.TypeDesc.struct #[{ name := "pile", type := 93, offset := 0, embedded := true, tag := "", pkgPath := "purser/stack", byteOffset := 0 }, { name := "other", type := 93, offset := 1, embedded := false, tag := "", pkgPath := "purser/stack", byteOffset := 24 }], 2, 48, .agg [.nils, .nils]⟩ := rfl
theorem ti95 : ti env 95 = M.pure ⟨Go.TypeDesc.struct #[{ name := "pile", type := 93, offset := 0, embedded := true, tag := "", pkgPath := "purser/stack", byteOffset := 0 }, { name := "other", type := 93, offset := 1, embedded := false, tag := "", pkgPath := "purser/stack", byteOffset := 24 }], 2, 48, .agg [.nils, .nils]⟩ := rfl
theorem ti96 : ti env 96 = M.pure ⟨Go.TypeDesc.func #[53] #[] true, 1, 8, .nilf⟩ := rfl
theorem ti97 : ti env 97 = M.pure ⟨Go.TypeDesc.func #[22] #[22] false, 1, 8, .nilf⟩ := rfl
theorem ti98 : ti env 98 = M.pure ⟨Go.TypeDesc.func #[53] #[53] false, 1, 8, .nilf⟩ := rfl
theorem ti99 : ti env 99 = M.pure ⟨Go.TypeDesc.func #[3] #[22] false, 1, 8, .nilf⟩ := rfl
theorem ti100 : ti env 100 = M.pure ⟨Go.TypeDesc.func #[3] #[53] false, 1, 8, .nilf⟩ := rfl
theorem ti101 : ti env 101 = M.pure ⟨Go.TypeDesc.func #[22] #[3] false, 1, 8, .nilf⟩ := rfl
theorem ti102 : ti env 102 = M.pure ⟨Go.TypeDesc.func #[] #[22, 3] false, 1, 8, .nilf⟩ := rfl
theorem ti103 : ti env 103 = M.pure ⟨Go.TypeDesc.func #[3] #[22, 3] false, 1, 8, .nilf⟩ := rfl
theorem ti104 : ti env 104 = M.pure ⟨Go.TypeDesc.func #[] #[2, 3] false, 1, 8, .nilf⟩ := rfl
theorem ti105 : ti env 105 = M.pure ⟨Go.TypeDesc.tuple #[9, 9], 1, 0, .tup [.str [], .str []]⟩ := rfl
theorem ti106 : ti env 106 = M.pure ⟨Go.TypeDesc.func #[5] #[9, 9] false, 1, 8, .nilf⟩ := rfl
theorem ti107 : ti env 107 = M.pure ⟨Go.TypeDesc.func #[123] #[] false, 1, 8, .nilf⟩ := rfl
theorem ti108 : ti env 108 = M.pure ⟨Go.TypeDesc.func #[123] #[] false, 1, 8, .nilf⟩ := rfl
theorem ti109 : ti env 109 = M.pure ⟨Go.TypeDesc.func #[110] #[108] false, 1, 8, .nilf⟩ := rfl
theorem ti110 : ti env 110 = M.pure ⟨Go.TypeDesc.int (Go.IntKind.u64), 1, 8, .int .u64 (0)⟩ := rfl
theorem ti111 : ti env 111 = M.pure ⟨Go.TypeDesc.func #[2] #[110] false, 1, 8, .nilf⟩ := rfl
theorem ti112 : ti env 112 = M.pure ⟨Go.TypeDesc.func #[] #[2] false, 1, 8, .nilf⟩ := rfl
theorem ti113 : ti env 113 = M.pure ⟨Go.TypeDesc.pointer 93, 1, 8, .nilp⟩ := rfl
theorem ti114 : ti env 114 = M.pure ⟨Go.TypeDesc.slice 3, 1, 24, .nils⟩ := rfl
theorem ti115 : ti env 115 = M.pure ⟨Go.TypeDesc.tuple #[114, 4], 1, 0, .tup [.nils, .bool false]⟩ := rfl
theorem ti116 : ti env 116 = M.pure ⟨Go.TypeDesc.func #[5] #[114, 4] false, 1, 8, .nilf⟩ := rfl
theorem ti117 : ti env 117 = M.pure ⟨Go.TypeDesc.func #[3] #[] false, 1, 8, .nilf⟩ := rfl
theorem ti118 : ti env 118 = M.pure ⟨Go.TypeDesc.func #[4] #[24] false, 1, 8, .nilf⟩ := rfl
theorem ti119 : ti env 119 = M.pure ⟨Go.TypeDesc.func #[126] #[] false, 1, 8, .nilf⟩ := rfl
theorem ti120 : ti env 120 = M.pure ⟨Go.TypeDesc.func #[126] #[] false, 1, 8, .nilf⟩ := rfl
theorem ti121 : ti env 121 = M.pure ⟨Go.TypeDesc.func #[] #[120] false, 1, 8, .nilf⟩ := rfl
theorem ti122 : ti env 122 = M.pure ⟨Go.TypeDesc.func #[5] #[71, 3] false, 1, 8, .nilf⟩ := rfl
theorem ti123 : ti env 123 = M.pure ⟨Go.TypeDesc.func #[5, 4] #[4] false, 1, 8, .nilf⟩ := rfl
theorem ti124 : ti env 124 = M.pure ⟨Go.TypeDesc.int (Go.IntKind.u64), 1, 8, .int .u64 (0)⟩ := rfl
theorem ti125 : ti env 125 = M.pure ⟨Go.TypeDesc.func #[53, 3, 3] #[53] false, 1, 8, .nilf⟩ := rfl
theorem ti126 : ti env 126 = M.pure ⟨Go.TypeDesc.func #[3, 22] #[4] false, 1, 8, .nilf⟩ := rfl
theorem ti127 : ti env 127 = M.pure ⟨Go.TypeDesc.func #[53] #[120] false, 1, 8, .nilf⟩ := rfl
theorem ti128 : ti env 128 = M.pure ⟨Go.TypeDesc.func #[] #[9] false, 1, 8, .nilf⟩ := rfl
theorem ti129 : ti env 129 = M.pure ⟨Go.TypeDesc.struct #[{ name := "_interface", type := 17, offset := 0, embedded := false, tag := "", pkgPath := "runtime", byteOffset := 0 }, { name := "concrete", type := 17, offset := 1, embedded := false, tag := "", pkgPath := "runtime", byteOffset := 8 }, { name := "asserted", type := 17, offset := 2, embedded := false, tag := "", pkgPath := "runtime", byteOffset := 16 }, { name := "missingMethod", type := 9, offset := 3, embedded := false, tag := "", pkgPath := "runtime", byteOffset := 24 }], 4, 40, .agg [.nilp, .nilp, .nilp, .str []]⟩ := rfl
theorem ti130 : ti env 130 = M.pure ⟨Go.TypeDesc.struct #[{ name := "_interface", type := 17, offset := 0, embedded := false, tag := "", pkgPath := "runtime", byteOffset := 0 }, { name := "concrete", type := 17, offset := 1, embedded := false, tag := "", pkgPath := "runtime", byteOffset := 8 }, { name := "asserted", type := 17, offset := 2, embedded := false, tag := "", pkgPath := "runtime", byteOffset := 16 }, { name := "missingMethod", type := 9, offset := 3, embedded := false, tag := "", pkgPath := "runtime", byteOffset := 24 }], 4, 40, .agg [.nilp, .nilp, .nilp, .str []]⟩ := rfl
theorem ti131 : ti env 131 = M.pure ⟨Go.TypeDesc.array 0 16, 0, 0, .agg []⟩ := rfl
theorem ti132 : ti env 132 = M.pure ⟨Go.TypeDesc.struct #[{ name := "_", type := 131, offset := 0, embedded := false, tag := "", pkgPath := "runtime", byteOffset := 0 }], 0, 0, .agg []⟩ := rfl
theorem ti133 : ti env 133 = M.pure ⟨Go.TypeDesc.struct #[{ name := "_", type := 131, offset := 0, embedded := false, tag := "", pkgPath := "runtime", byteOffset := 0 }], 0, 0, .agg []⟩ := rfl
theorem ti134 : ti env 134 = M.pure ⟨Go.TypeDesc.int (Go.IntKind.u32), 1, 4, .int .u32 (0)⟩ := rfl
theorem ti135 : ti env 135 = M.pure ⟨Go.TypeDesc.int (Go.IntKind.u8), 1, 1, .int .u8 (0)⟩ := rfl
theorem ti136 : ti env 136 = M.pure ⟨Go.TypeDesc.int (Go.IntKind.u8), 1, 1, .int .u8 (0)⟩ := rfl
theorem ti137 : ti env 137 = M.pure ⟨Go.TypeDesc.func #[143, 143] #[4] false, 1, 8, .nilf⟩ := rfl
theorem ti138 : ti env 138 = M.pure ⟨Go.TypeDesc.pointer 5, 1, 8, .nilp⟩ := rfl
theorem ti139 : ti env 139 = M.pure ⟨Go.TypeDesc.int (Go.IntKind.i32), 1, 4, .int .i32 (0)⟩ := rfl
theorem ti140 : ti env 140 = M.pure ⟨Go.TypeDesc.int (Go.IntKind.i32), 1, 4, .int .i32 (0)⟩ := rfl
theorem ti141 : ti env 141 = M.pure ⟨Go.TypeDesc.struct #[{ name := "Size_", type := 12, offset := 0, embedded := false, tag := "", pkgPath := "", byteOffset := 0 }, { name := "PtrBytes", type := 12, offset := 1, embedded := false, tag := "", pkgPath := "", byteOffset := 8 }, { name := "Hash", type := 134, offset := 2, embedded := false, tag := "", pkgPath := "", byteOffset := 16 }, { name := "TFlag", type := 135, offset := 3, embedded := false, tag := "", pkgPath := "", byteOffset := 20 }, { name := "Align_", type := 5, offset := 4, embedded := false, tag := "", pkgPath := "", byteOffset := 21 }, { name := "FieldAlign_", type := 5, offset := 5, embedded := false, tag := "", pkgPath := "", byteOffset := 22 }, { name := "Kind_", type := 136, offset := 6, embedded := false, tag := "", pkgPath := "", byteOffset := 23 }, { name := "Equal", type := 137, offset := 7, embedded := false, tag := "", pkgPath := "", byteOffset := 24 }, { name := "GCData", type := 138, offset := 8, embedded := false, tag := "", pkgPath := "", byteOffset := 32 }, { name := "Str", type := 139, offset := 9, embedded := false, tag := "", pkgPath := "", byteOffset := 40 }, { name := "PtrToThis", type := 140, offset := 10, embedded := false, tag := "", pkgPath := "", byteOffset := 44 }], 11, 48, .agg [.int .u64 (0), .int .u64 (0), .int .u32 (0), .int .u8 (0), .int .u8 (0), .int .u8 (0), .int .u8 (0), .nilf, .nilp, .int .i32 (0), .int .i32 (0)]⟩ := rfl
theorem ti142 : ti env 142 = M.pure ⟨Go.TypeDesc.struct #[{ name := "Size_", type := 12, offset := 0, embedded := false, tag := "", pkgPath := "", byteOffset := 0 }, { name := "PtrBytes", type := 12, offset := 1, embedded := false, tag := "", pkgPath := "", byteOffset := 8 }, { name := "Hash", type := 134, offset := 2, embedded := false, tag := "", pkgPath := "", byteOffset := 16 }, { name := "TFlag", type := 135, offset := 3, embedded := false, tag := "", pkgPath := "", byteOffset := 20 }, { name := "Align_", type := 5, offset := 4, embedded := false, tag := "", pkgPath := "", byteOffset := 21 }, { name := "FieldAlign_", type := 5, offset := 5, embedded := false, tag := "", pkgPath := "", byteOffset := 22 }, { name := "Kind_", type := 136, offset := 6, embedded := false, tag := "", pkgPath := "", byteOffset := 23 }, { name := "Equal", type := 137, offset := 7, embedded := false, tag := "", pkgPath := "", byteOffset := 24 }, { name := "GCData", type := 138, offset := 8, embedded := false, tag := "", pkgPath := "", byteOffset := 32 }, { name := "Str", type := 139, offset := 9, embedded := false, tag := "", pkgPath := "", byteOffset := 40 }, { name := "PtrToThis", type := 140, offset := 10, embedded := false, tag := "", pkgPath := "", byteOffset := 44 }], 11, 48, .agg [.int .u64 (0), .int .u64 (0), .int .u32 (0), .int .u8 (0), .int .u8 (0), .int .u8 (0), .int .u8 (0), .nilf, .nilp, .int .i32 (0), .int .i32 (0)]⟩ := rfl
theorem ti143 : ti env 143 = M.pure ⟨Go.TypeDesc.unsafePointer, 1, 8, .nilp⟩ := rfl
theorem fi2 : (env.funcs.find 2).i = fu2.i := rfl
theorem ff2 : (env.funcs.find 2).f.beq 2 = true := rfl
theorem hk2 : ∀ args : List AVal, callF env (evalW env) 2 args = callI env (evalW env) 2 args := fun _ => rfl
theorem fg2 : ∀ tm : List AVal, forget env 2 tm = forgetL [false] tm := fun _ => rfl
theorem fi3 : (env.funcs.find 3).i = fu3.i := rfl
theorem ff3 : (env.funcs.find 3).f.beq 3 = true := rfl
theorem hk3 : ∀ args : List AVal, callF env (evalW env) 3 args = callI env (evalW env) 3 args := fun _ => rfl
theorem fg3 : ∀ tm : List AVal, forget env 3 tm = forgetL [true, true, false, false, true, true, true, true, true, true, true, true, true, true, true, false, false, false, false, false, false, false, true, false, false, false, false, false, false, false, true, false, false, false, false, false, false, false, false, false, false, false, false, false, false, false, false, false, false, false, false, false, false, false, false, false, false, false, false, false, false, false, false, false, false, false, false, false, false, false, false, false, false, true, false, false, false, false, false, false, true, false, false, false, false, false, false, false, false, false, false, false, false, false, false, false, false, false, false, false, false, false, false, false, false, false, false, false, false, false, false, false, false, false] tm := fun _ => rfl
theorem fi4 : (env.funcs.find 4).i = fu4.i := rfl
theorem ff4 : (env.funcs.find 4).f.beq 4 = true := rfl
theorem hk4 : ∀ args : List AVal, callF env (evalW env) 4 args = callI env (evalW env) 4 args := fun _ => rfl
theorem fg4 : ∀ tm : List AVal, forget env 4 tm = forgetL [true, true, true, false, false, false, true, true, true, true, true, true, true, true, true, true, false, false, true, false, false, false, false, false, false, false, false, false, false, false, false, false, false, false, false, false, false, false, false, false, false, false, false, false, false, false, false, false, false, false, false, false, false, false, false, false, false, false, false, false, false, false, false, false, false, false, false, false, false, false, false, false, false, false, false, false, false, false, false, false, false, false, false, false, false, false, false, false, false, false, false, false, false, false] tm := fun _ => rfl
theorem fi5 : (env.funcs.find 5).i = fu5.i := rfl
theorem ff5 : (env.funcs.find 5).f.beq 5 = true := rfl
theorem hk5 : ∀ args : List AVal, callF env (evalW env) 5 args = callI env (evalW env) 5 args := fun _ => rfl
theorem fg5 : ∀ tm : List AVal, forget env 5 tm = forgetL [true, true, true, true, false, false, false, false, true, true, true, true, true, true, true, true, true, false, false, false, false, false, false, false, false, false, false, false, false, false, false, false, false, false, false, false, false, false, false, false, false, false, false, false, false, false, false, false, false, false, false, false, false, false, false, false, false, false, false, false, false, false, false, false, false, false, false, false, false, false, false, false, false, false, false, false, false, false, false] tm := fun _ => rfl
theorem fi6 : (env.funcs.find 6).i = fu6.i := rfl
theorem ff6 : (env.funcs.find 6).f.beq 6 = true := rfl
theorem hk6 : ∀ args : List AVal, callF env (evalW env) 6 args = callI env (evalW env) 6 args := fun _ => rfl
theorem fg6 : ∀ tm : List AVal, forget env 6 tm = forgetL [true, true, true, false, false, false, true, true, true, true, true, true, true, true, true, true, true, false, false, false, false, false, false, false, true, true, true, true, false, false, false, false, false, false, false, false, false, false, false, true, false, false, false, false, false, false, false, false, false, false, false, false, false, false, false, false, false, false, false, false, false, false, false, false, false, false, false, false, false, false, false, false, false, false, false, false, false, false, false, false, false, false, false, false, false, false, false, false, false, false, false, false, false, false, false, false, false, false, false, false, false, false, false, false, false, false, false, false, false, false, false, false, false, false, false, false, false, false, false, false, false, false, false, false, false, false, false, false, false] tm := fun _ => rfl
theorem fi7 : (env.funcs.find 7).i = fu7.i := rfl
theorem ff7 : (env.funcs.find 7).f.beq 7 = true := rfl
theorem hk7 : ∀ args : List AVal, callF env (evalW env) 7 args = callI env (evalW env) 7 args := fun _ => rfl
theorem fg7 : ∀ tm : List AVal, forget env 7 tm = forgetL [true, true, false, false, true, true, true, true, true, true, true, true, true, true, true, true, true, true, true, true, false, false, false, false, false, false, false, false, false, false, false, false, false, false, false, false, false, false, false, false, false, false, false, false, false, false, false, false, false, false, false, false, false, false, false, false, false, false, false, false, false, false, false, false, false, false, false, false, false, false, false, false, false, false, false, false, false, false, false, false, false, false, false, false, false, false, false, false, false, false, false, false, false, false, false, false, false, false, false, false, false, false, false, false, false, false, false, false, false, false, false, false, false, false, false, false, false, false, false, false, false, false, false, false, false, false, false, false, false, false, false, false, true, false] tm := fun _ => rfl
theorem fi8 : (env.funcs.find 8).i = fu8.i := rfl
theorem ff8 : (env.funcs.find 8).f.beq 8 = true := rfl
theorem hk8 : ∀ args : List AVal, callF env (evalW env) 8 args = callI env (evalW env) 8 args := fun _ => rfl
theorem fg8 : ∀ tm : List AVal, forget env 8 tm = forgetL [true, true, true, false, false, false, true, true, true, true, true, true, true, true, false, false, false, false, false, false, false, false, false, false, false, false, false, true, false, false, false, false, false, false, false, false, false, false, false, false, false, false, true, false, false, false, false, false, false, false, false, false, false, false, false, false, false, false, false, false, false, false, false, false, false, false, false, false, false, false, false, false, false, false, true, false, false, false, false, false, false, false, false, false, false, false, false, false, false, false, false, false, false, false, false, false, false, false, false, false, false, false, false, false, false, false, false, false, false, false, false] tm := fun _ => rfl
theorem fi9 : (env.funcs.find 9).i = fu9.i := rfl
theorem ff9 : (env.funcs.find 9).f.beq 9 = true := rfl
theorem hk9 : ∀ args : List AVal, callF env (evalW env) 9 args = callI env (evalW env) 9 args := fun _ => rfl
theorem fg9 : ∀ tm : List AVal, forget env 9 tm = forgetL [true, true, true, true, false, true, false, true, true, true, true, true, false, true, true, true, false, true, true, true, false, true, false, true, false, true, false, true, false, true, false, false, false, false, false, false, false, false, false, false, false, false, false, false, false, false, false, false, false, false, false, false, false, false, false, false, false, false, false, false, false, false, false, false, false, false, false, false, false, false, false, false, false, false, false, false, false, false, false, false, false, false, false, false, false, false, false, false, false, false, false, false, false, false, false, false, false, false, false, false, false, false, false, false, false, false, false, false, false, false, false, false, false, false, false, false, false, false, false, false, false, false, false, true, true, true, true, false, false, false, false, false, false, false, false, false, false, false, false, false, false, false, false, false, false, false, false, false, false, false, false, false, false, false, false, false, false, false, false, false, false, false, false, false, false, false, false, false, false, false, true, true, true, true, false, false, false, false, false, false, false, false, false, false, false, false, false, false, false, false, false, false, false, false, false, false, false, false, false, false, false, false, false, false, false, false, false, false, false, false, false, false, false, false, false, false, false, false, false, false, false, false, false, false, false, false, false, false, false, false, false, false, false, false, false, false, false, false, false, false, false, false, false, false, false, false, false, false, false, false, false, false, false, false, false, false, false, false, false, false, false, false, false, false, false, false, false, false, false, false, false] tm := fun _ => rfl
theorem fi10 : (env.funcs.find 10).i = fu10.i := rfl
theorem ff10 : (env.funcs.find 10).f.beq 10 = true := rfl
theorem hk10 : ∀ args : List AVal, callF env (evalW env) 10 args = callI env (evalW env) 10 args := fun _ => rfl
theorem fg10 : ∀ tm : List AVal, forget env 10 tm = forgetL [true, true, false, false, true, true, true, true, true, true, true, true, true, false, false, false, false, false, false, false, false, false, false, false, true, false, false, false, false, false, false, false, false, false, false, false, false, false, false, false, false, false, false, false, true, false, false, false, false, false, false, false, false, false, false, false, false, false, true, true, true, true, false, false, false, false, false, false, false, true, false, false, false, false, false, false, false, false, false, false, false, false, false, false, false, false, false, false, false, false, false, false, false, false, false, false, false, false, false] tm := fun _ => rfl
theorem fi11 : (env.funcs.find 11).i = fu11.i := rfl
theorem ff11 : (env.funcs.find 11).f.beq 11 = true := rfl
theorem hk11 : ∀ args : List AVal, callF env (evalW env) 11 args = callI env (evalW env) 11 args := fun _ => rfl
theorem fg11 : ∀ tm : List AVal, forget env 11 tm = forgetL [true, true, false, false, true, true, true, true, true, false, true, true, true, true, true, true, true, true, false, false, false, false, false, false, false, false, false, false, false, false, false, false, false, false, true, false, false, false, false, false, false, false, true, false, false, false, false, false, false, false, true, true, true, true, false, false, false, false, false, false, false, false, false, false, false, false, false, false, false, false, false, false, false, false, false, false, false, false, true, false, false, false, false, true, false, false, false, false, false, false, false, false, false, false, false, false, false, false, false, false, false, true, false, true, false, true, false, false, false, false, false, false, false, false, false, false, false, false, false, false, false, false, false, false, false, false, false, false, false, true, false, false] tm := fun _ => rfl
theorem fi12 : (env.funcs.find 12).i = fu12.i := rfl
theorem ff12 : (env.funcs.find 12).f.beq 12 = true := rfl
theorem hk12 : ∀ args : List AVal, callF env (evalW env) 12 args = callI env (evalW env) 12 args := fun _ => rfl
theorem fg12 : ∀ tm : List AVal, forget env 12 tm = forgetL [true, true, false, false, true, true, true, true, true, true, true, true, true, true, true, true, true, false, false, false, false, false, false, false, false, false, false, false, true, false, false, false, false, false, false, false, false, false, false, false, false, false, false, false, false, false, false, false, false, false, false, false, false, false, false, false, false, false, false, false, false, false, false, false, false, false, true, false, false, false, false, false, false, false, false, false, false, false, false, false, false, false, false, false, false, false, false, true, false, false, false, false, false, false, false, false, false, false, false, false, false, false, false, false, false, false, false, false, false, false, false, false, false, false, false, false, false, false, false, false, false, false, false, false, false, false, false, false, false, false, false, false, false, false, false, false, false, false, false, false, false, false, false, false, false, false, false, false, false, false, false, false, false, false, false] tm := fun _ => rfl
theorem fi13 : (env.funcs.find 13).i = fu13.i := rfl
theorem ff13 : (env.funcs.find 13).f.beq 13 = true := rfl
theorem hk13 : ∀ args : List AVal, callF env (evalW env) 13 args = callI env (evalW env) 13 args := fun _ => rfl
theorem fg13 : ∀ tm : List AVal, forget env 13 tm = forgetL [true, true, false, false, true, true, true, true, true, true, true, true, true, true, true, false, false, false, false, false, false, false, false, false, false, false, false, false, false, false, false, false, false, false, false, true, false, false, false, false, false, false, false, true, false, false, false, false, false, false, true, true, true, false, false, false, false, false, false, false, true, false, false, false, false, false, false, false, false, false, false, false, false, true, false, false, false, false, false, false, false, false, false, false, false, false, false, false, false, false, false, false, false, false, false, false, false, false, false, false, false, false, false, false, false, false, false, false, true, false, false, false, false, false, false, false] tm := fun _ => rfl
theorem fi14 : (env.funcs.find 14).i = fu14.i := rfl
theorem ff14 : (env.funcs.find 14).f.beq 14 = true := rfl
theorem hk14 : ∀ args : List AVal, callF env (evalW env) 14 args = callI env (evalW env) 14 args := fun _ => rfl
theorem fg14 : ∀ tm : List AVal, forget env 14 tm = forgetL [true, true, false, false, true, true, true, true, true, true, true, true, true, true, false, false, true, false, false, false, false, false, false, false, false, false, false, false, false, false, false, false, false, false, false, false, true, false, true, false, true, true, true, false, false, false, false, false, false, false, false, true, false, false, false, false, false, false, false, false, false, false, false, false, false, false, false, false, false, false, false, false, false, false, false, false, false, false, false, false, false, false, false, false, false, false, false, false, false, false, false, false, false, false, false, false, true, false, true, true, true, false, false, false, false, false, true, true, true, false, false, false, false, false, false, false, false, false, false, false, false, false, false, false, false, false, false, false, false, false, false, false, false, false, false, false, false, false] tm := fun _ => rfl
theorem fi15 : (env.funcs.find 15).i = fu15.i := rfl
theorem ff15 : (env.funcs.find 15).f.beq 15 = true := rfl
theorem hk15 : ∀ args : List AVal, callF env (evalW env) 15 args = callI env (evalW env) 15 args := fun _ => rfl
theorem fg15 : ∀ tm : List AVal, forget env 15 tm = forgetL [true, true, true, true, true, true, true, true, true, true, true, true, true, false, true, false, true, false, true, true, true, true, false, true, false, true, true, true, true, true, true, true, false, true, false, true, true, false, false, false, false, false, false, false, false, false, false, false, false, false, false, false, false, false, false, false, false, false, false, false, false, false, false, false, false, false, false, false, false, false, false, false, false, false, false, false, false, false, false, false, false, false, false, false, false, false, false, false, false, false, false, false, false, false, false, false, false, false, false, false, false, false, false, false, false, false, false, false, false, false, false, false, true, false, false, false, false, false, false, false, false, false, false, false, false, false, false, false, false, false, false, false, false, false, false, false, false, false, false, false, false, false, false, false, false, false, false, false, false, false, false, false, false, false, false, false, false, false, false, false, false, false, false, false, false, false, false, false, false, false, false, false, false, false, false, false, false, false, false, false, false, false, false, false, false, false, false, false, false, false, false, false, false, false, false, false, false, false, false, false, false, false, false, false, false, false, false, false, false, false, false, false, false, false, false, false, false, false, false, false, false, false, false, false, false, false, false, false, false, false, false, false, false, false, false, false, false, false, false, false, false, false, false, false, false, false, false, false, false, false, false, false, false, false, false, false, false, false, false, false, false, false, false, false, false, false, false, false, false, false, false, false, false, false, false, false, false, false, false, false, false, false, false, false, false, false, false, false, false, false, false, false, false, false, false, false, false, false, false, false, false, false, false, false, false, false, false, false, false, false, false, false, false, false, false, false, false, false, false, false, false, false, false, false, false, false, false, false, false, false, false, false, false, false, false, false, false, false] tm := fun _ => rfl
theorem fi16 : (env.funcs.find 16).i = fu16.i := rfl
theorem ff16 : (env.funcs.find 16).f.beq 16 = true := rfl
theorem hk16 : ∀ args : List AVal, callF env (evalW env) 16 args = callI env (evalW env) 16 args := fun _ => rfl
theorem fg16 : ∀ tm : List AVal, forget env 16 tm = forgetL [true, false, false, false, false, false, false, false, false, false, false, false, false, false, false, false, false, false, false, false, false, false, false, false, false, false] tm := fun _ => rfl
theorem fi17 : (env.funcs.find 17).i = fu17.i := rfl
theorem ff17 : (env.funcs.find 17).f.beq 17 = true := rfl
theorem hk17 : ∀ args : List AVal, callF env (evalW env) 17 args = callI env (evalW env) 17 args := fun _ => rfl
theorem fg17 : ∀ tm : List AVal, forget env 17 tm = forgetL [true, false, true, true, false, false, false, false, false, true, false, false] tm := fun _ => rfl
theorem fi18 : (env.funcs.find 18).i = fu18.i := rfl
theorem ff18 : (env.funcs.find 18).f.beq 18 = true := rfl
theorem hk18 : ∀ args : List AVal, callF env (evalW env) 18 args = callI env (evalW env) 18 args := fun _ => rfl
theorem fg18 : ∀ tm : List AVal, forget env 18 tm = forgetL [true, false, true, true, true, true, true, true, false, false, true, true, true, true, true, false, false, false, false, false, false, false, false, false, false, false, false, true, false, false, false, false, false, false, false, false, false, false, false, false, false, false, false, false, false, true, false] tm := fun _ => rfl
theorem fi19 : (env.funcs.find 19).i = fu19.i := rfl
theorem ff19 : (env.funcs.find 19).f.beq 19 = true := rfl
theorem hk19 : ∀ args : List AVal, callF env (evalW env) 19 args = callI env (evalW env) 19 args := fun _ => rfl
theorem fg19 : ∀ tm : List AVal, forget env 19 tm = forgetL [true, false, true, true, true, true, true, true, true, false, false, false, false, false, false, false, false, false, false, false, false, false, false, false, true, false] tm := fun _ => rfl
theorem fi20 : (env.funcs.find 20).i = fu20.i := rfl
theorem ff20 : (env.funcs.find 20).f.beq 20 = true := rfl
theorem hk20 : ∀ args : List AVal, callF env (evalW env) 20 args = callI env (evalW env) 20 args := fun _ => rfl
theorem fg20 : ∀ tm : List AVal, forget env 20 tm = forgetL [true, false, true, true, false, false, false, false, false, true, false, false] tm := fun _ => rfl
theorem fi21 : (env.funcs.find 21).i = fu21.i := rfl
theorem ff21 : (env.funcs.find 21).f.beq 21 = true := rfl
theorem hk21 : ∀ args : List AVal, callF env (evalW env) 21 args = callI env (evalW env) 21 args := fun _ => rfl
theorem fg21 : ∀ tm : List AVal, forget env 21 tm = forgetL [true, false, true, true, true, true, true, true, true, false, false, true, false, false, false, true, false, false, false, false, false, false, false, false, false, false, false, false, false, false, false, true, false, false, false, false, false, false, false, false, false, true, false, false, false, false, false, false, false, true, false] tm := fun _ => rfl
theorem fi22 : (env.funcs.find 22).i = fu22.i := rfl
theorem ff22 : (env.funcs.find 22).f.beq 22 = true := rfl
theorem hk22 : ∀ args : List AVal, callF env (evalW env) 22 args = callI env (evalW env) 22 args := fun _ => rfl
theorem fg22 : ∀ tm : List AVal, forget env 22 tm = forgetL [true, false, true, true, false, false, false, true, false, false, false, false, false, false, false, false, false, false, false, false, false, true, false, false, false, false, true] tm := fun _ => rfl
theorem fi23 : (env.funcs.find 23).i = fu23.i := rfl
theorem ff23 : (env.funcs.find 23).f.beq 23 = true := rfl
theorem hk23 : ∀ args : List AVal, callF env (evalW env) 23 args = callI env (evalW env) 23 args := fun _ => rfl
theorem fg23 : ∀ tm : List AVal, forget env 23 tm = forgetL [true, false, true, false, false, false] tm := fun _ => rfl
theorem fi24 : (env.funcs.find 24).i = fu24.i := rfl
theorem ff24 : (env.funcs.find 24).f.beq 24 = true := rfl
theorem hk24 : ∀ args : List AVal, callF env (evalW env) 24 args = callI env (evalW env) 24 args := fun _ => rfl
theorem fg24 : ∀ tm : List AVal, forget env 24 tm = forgetL [true, false, true, false, false, false] tm := fun _ => rfl
theorem fi25 : (env.funcs.find 25).i = fu25.i := rfl
theorem ff25 : (env.funcs.find 25).f.beq 25 = true := rfl
theorem hk25 : ∀ args : List AVal, callF env (evalW env) 25 args = callI env (evalW env) 25 args := fun _ => rfl
theorem fg25 : ∀ tm : List AVal, forget env 25 tm = forgetL [true, true, false, false, true, true, true, false, false, true, false, false, true, false, false, false, false, false, false] tm := fun _ => rfl
theorem fi26 : (env.funcs.find 26).i = fu26.i := rfl
theorem ff26 : (env.funcs.find 26).f.beq 26 = true := rfl
theorem hk26 : ∀ args : List AVal, callF env (evalW env) 26 args = callI env (evalW env) 26 args := fun _ => rfl
theorem fg26 : ∀ tm : List AVal, forget env 26 tm = forgetL [true, true, false, false, true, true, true, false, false, true, false, false, false, true, true, true, false, false, false, true, false, false, false, true, false, false, false, true, false, false, true, false, false, false, true, false, false, false, false, false, false, false] tm := fun _ => rfl
theorem fi27 : (env.funcs.find 27).i = fu27.i := rfl
theorem ff27 : (env.funcs.find 27).f.beq 27 = true := rfl
theorem hk27 : ∀ args : List AVal, callF env (evalW env) 27 args = callI env (evalW env) 27 args := fun _ => rfl
theorem fg27 : ∀ tm : List AVal, forget env 27 tm = forgetL [true, true, true, false, false, false, true, true, true, false, false, true, false, false, true, false, false, false, false, false, false, false, false, false, false, false, false] tm := fun _ => rfl
theorem fi28 : (env.funcs.find 28).i = fu28.i := rfl
theorem ff28 : (env.funcs.find 28).f.beq 28 = true := rfl
theorem hk28 : ∀ args : List AVal, callF env (evalW env) 28 args = callI env (evalW env) 28 args := fun _ => rfl
theorem fg28 : ∀ tm : List AVal, forget env 28 tm = forgetL [true, true, true, false, false, false, true, true, true, true, false, false, true, false, false, false, false, false, false, false, false, false, true, true, true, false, false, false, false, true, false, false, false, false, true, false, false, false, false, false, false, false, false, true, false, false, false, false, false, false, false, false, true, false, false, false, false, false, false, true, false, false, false, false, false, true, false, false, false, false, false, true, false, false, false, false, false, true, false, false, false, false, false, true, false, false, false, false, false, true, false, false, false, true, false, false, false, false, true, false, false] tm := fun _ => rfl
theorem fi29 : (env.funcs.find 29).i = fu29.i := rfl
theorem ff29 : (env.funcs.find 29).f.beq 29 = true := rfl
theorem hk29 : ∀ args : List AVal, callF env (evalW env) 29 args = callI env (evalW env) 29 args := fun _ => rfl
theorem fg29 : ∀ tm : List AVal, forget env 29 tm = forgetL [true, true, true, false, false, false, true, false, false, false, false, false, false, false, false] tm := fun _ => rfl
theorem fi30 : (env.funcs.find 30).i = fu30.i := rfl
theorem ff30 : (env.funcs.find 30).f.beq 30 = true := rfl
theorem hk30 : ∀ args : List AVal, callF env (evalW env) 30 args = callI env (evalW env) 30 args := fun _ => rfl
theorem fg30 : ∀ tm : List AVal, forget env 30 tm = forgetL [true, true, true, false, false, false, true, false, false, false, false, false, false, false, false] tm := fun _ => rfl
theorem fi31 : (env.funcs.find 31).i = fu31.i := rfl
theorem ff31 : (env.funcs.find 31).f.beq 31 = true := rfl
theorem hk31 : ∀ args : List AVal, callF env (evalW env) 31 args = callI env (evalW env) 31 args := fun _ => rfl
theorem fg31 : ∀ tm : List AVal, forget env 31 tm = forgetL [true, false, true, true, false, false, false, true, false, false, false, true, false, false] tm := fun _ => rfl
theorem fi32 : (env.funcs.find 32).i = fu32.i := rfl
theorem ff32 : (env.funcs.find 32).f.beq 32 = true := rfl
theorem hk32 : ∀ args : List AVal, callF env (evalW env) 32 args = callI env (evalW env) 32 args := fun _ => rfl
theorem fg32 : ∀ tm : List AVal, forget env 32 tm = forgetL [true, false, true, true, true, false, false, false, false, false, false, true, false, false, false, false, false, false, false, false, false, false, false, false, false, true, false] tm := fun _ => rfl
theorem fi33 : (env.funcs.find 33).i = fu33.i := rfl
theorem ff33 : (env.funcs.find 33).f.beq 33 = true := rfl
theorem hk33 : ∀ args : List AVal, callF env (evalW env) 33 args = callI env (evalW env) 33 args := fun _ => rfl
theorem fg33 : ∀ tm : List AVal, forget env 33 tm = forgetL [true, true, false, false, true, true, true, false, false, false, false, false, false, false, false, false, false, false, false, false, false, false, false, false, false, false] tm := fun _ => rfl
theorem fi34 : (env.funcs.find 34).i = fu34.i := rfl
theorem ff34 : (env.funcs.find 34).f.beq 34 = true := rfl
theorem hk34 : ∀ args : List AVal, callF env (evalW env) 34 args = callI env (evalW env) 34 args := fun _ => rfl
theorem fg34 : ∀ tm : List AVal, forget env 34 tm = forgetL [true, true, false, false, true, true, true, true, true, false, false, false, false, false, false, false, false, false, false, false, false, false, false, false, false, false, false, false, false, false, false, false, false, false, false, false, false] tm := fun _ => rfl
theorem fi35 : (env.funcs.find 35).i = fu35.i := rfl
theorem ff35 : (env.funcs.find 35).f.beq 35 = true := rfl
theorem hk35 : ∀ args : List AVal, callF env (evalW env) 35 args = callI env (evalW env) 35 args := fun _ => rfl
theorem fg35 : ∀ tm : List AVal, forget env 35 tm = forgetL [true, false, false, false, false, false, false, false, false, false, false] tm := fun _ => rfl
theorem fi36 : (env.funcs.find 36).i = fu36.i := rfl
theorem ff36 : (env.funcs.find 36).f.beq 36 = true := rfl
theorem hk36 : ∀ args : List AVal, callF env (evalW env) 36 args = callI env (evalW env) 36 args := fun _ => rfl
theorem fg36 : ∀ tm : List AVal, forget env 36 tm = forgetL [true, true, false, false, true, true, true, false, true, true, true, false, false, false, false, false, false, true, false, false, true, true, true, false, false, false, false, false, false, false, true, false, false, false, false, false, false, false, false, false] tm := fun _ => rfl
theorem fi37 : (env.funcs.find 37).i = fu37.i := rfl
theorem ff37 : (env.funcs.find 37).f.beq 37 = true := rfl
theorem hk37 : ∀ args : List AVal, callF env (evalW env) 37 args = callI env (evalW env) 37 args := fun _ => rfl
theorem fg37 : ∀ tm : List AVal, forget env 37 tm = forgetL [true, false, true, true, true, false, true, false, false, true, true, true, true, false, false, false, false, true, false, false, false, false, false, false, false, false, false, false, true, false] tm := fun _ => rfl
theorem fi38 : (env.funcs.find 38).i = fu38.i := rfl
theorem ff38 : (env.funcs.find 38).f.beq 38 = true := rfl
theorem hk38 : ∀ args : List AVal, callF env (evalW env) 38 args = callI env (evalW env) 38 args := fun _ => rfl
theorem fg38 : ∀ tm : List AVal, forget env 38 tm = forgetL [true, true, false, false, true, true, true, true, false, false, true, false, false, false, true, false, false, false, false, false, false, false, false, false, false, false, false, false, false, false, false, false, false, false, false, false, false, false, false, false, false, false, true, false, false, false, true, false, false, false, false, false] tm := fun _ => rfl
theorem fi39 : (env.funcs.find 39).i = fu39.i := rfl
theorem ff39 : (env.funcs.find 39).f.beq 39 = true := rfl
theorem hk39 : ∀ args : List AVal, callF env (evalW env) 39 args = callI env (evalW env) 39 args := fun _ => rfl
theorem fg39 : ∀ tm : List AVal, forget env 39 tm = forgetL [true, true, false, false, true, true, false, false, false, false, true, false, false, false, true, false, false, false, false, false, false, false, false, false, false, false, false, true] tm := fun _ => rfl
theorem fi40 : (env.funcs.find 40).i = fu40.i := rfl
theorem ff40 : (env.funcs.find 40).f.beq 40 = true := rfl
theorem hk40 : ∀ args : List AVal, callF env (evalW env) 40 args = callI env (evalW env) 40 args := fun _ => rfl
theorem fg40 : ∀ tm : List AVal, forget env 40 tm = forgetL [true, false, true, false, true, false, false, false, false, false, false] tm := fun _ => rfl
theorem fi41 : (env.funcs.find 41).i = fu41.i := rfl
theorem ff41 : (env.funcs.find 41).f.beq 41 = true := rfl
theorem hk41 : ∀ args : List AVal, callF env (evalW env) 41 args = callI env (evalW env) 41 args := fun _ => rfl
theorem fg41 : ∀ tm : List AVal, forget env 41 tm = forgetL [true, false, true, false, true, false, false, false, false, false, false] tm := fun _ => rfl
theorem fi42 : (env.funcs.find 42).i = fu42.i := rfl
theorem ff42 : (env.funcs.find 42).f.beq 42 = true := rfl
theorem hk42 : ∀ args : List AVal, callF env (evalW env) 42 args = callI env (evalW env) 42 args := fun _ => rfl
theorem fg42 : ∀ tm : List AVal, forget env 42 tm = forgetL [true, false, true, false, true, false, false, false, false] tm := fun _ => rfl
theorem fi43 : (env.funcs.find 43).i = fu43.i := rfl
theorem ff43 : (env.funcs.find 43).f.beq 43 = true := rfl
theorem hk43 : ∀ args : List AVal, callF env (evalW env) 43 args = callI env (evalW env) 43 args := fun _ => rfl
theorem fg43 : ∀ tm : List AVal, forget env 43 tm = forgetL [true, true, false, false, true, true, true, false, false, true, false, false, false, false, false, false, false, false, false, false, false, false, false, false, false, false] tm := fun _ => rfl
theorem fi44 : (env.funcs.find 44).i = fu44.i := rfl
theorem ff44 : (env.funcs.find 44).f.beq 44 = true := rfl
theorem hk44 : ∀ args : List AVal, callF env (evalW env) 44 args = callI env (evalW env) 44 args := fun _ => rfl
theorem fg44 : ∀ tm : List AVal, forget env 44 tm = forgetL [true, false, true, false, false, false] tm := fun _ => rfl
theorem fi45 : (env.funcs.find 45).i = fu45.i := rfl
theorem ff45 : (env.funcs.find 45).f.beq 45 = true := rfl
theorem hk45 : ∀ args : List AVal, callF env (evalW env) 45 args = callI env (evalW env) 45 args := fun _ => rfl
theorem fg45 : ∀ tm : List AVal, forget env 45 tm = forgetL [true, true, false, false, true, true, false, false, true, false, false, false, true, false, false, false, false, false, false, false, false, false, false] tm := fun _ => rfl
theorem fi46 : (env.funcs.find 46).i = fu46.i := rfl
theorem ff46 : (env.funcs.find 46).f.beq 46 = true := rfl
theorem hk46 : ∀ args : List AVal, callF env (evalW env) 46 args = callI env (evalW env) 46 args := fun _ => rfl
theorem fg46 : ∀ tm : List AVal, forget env 46 tm = forgetL [true, false, true, true, true, true, false, false, false, false, false, false, true, false, false, false, false, false, false] tm := fun _ => rfl
theorem fi47 : (env.funcs.find 47).i = fu47.i := rfl
theorem ff47 : (env.funcs.find 47).f.beq 47 = true := rfl
theorem hk47 : ∀ args : List AVal, callF env (evalW env) 47 args = callI env (evalW env) 47 args := fun _ => rfl
theorem fg47 : ∀ tm : List AVal, forget env 47 tm = forgetL [true, false, true, true, true, true, false, false, false, false, false, true, false, false, false, false, false, false, false, true, false, false, false, false, false, false, false, false, false, false, false, false, false, false, false, false, true, false] tm := fun _ => rfl
theorem fi48 : (env.funcs.find 48).i = fu48.i := rfl
theorem ff48 : (env.funcs.find 48).f.beq 48 = true := rfl
theorem hk48 : ∀ args : List AVal, callF env (evalW env) 48 args = callI env (evalW env) 48 args := fun _ => rfl
theorem fg48 : ∀ tm : List AVal, forget env 48 tm = forgetL [true, true, true, false, false, true, true, true, true, true, true, true, true, true, true, true, true, true, true, true, true, true, true, true, false, true, true, false, false, false, false, false, false, false, false, false, false, true, false, false, false, false, false, false, false, false, false, false, false, false, false, false, false, false, false, false, false, false, false, false, true, true, true, false, false, false, false, false, false, false, false, false, true, false, false, false, false, false, false, false, false, false, false, false, false, false, false, false, false, false, false, false, false, false, true, false, false, false, false, false, false, false, false, false, false, false, false, false, false, false, false, false, false, false, false, false, false, false, false, false, false, true, true, true, false, false, false, false, false, false, false, false, false, true, false, false, false, false, false, false, false, false, false, false, false, false, false, false, false, false, false, false, false] tm := fun _ => rfl
theorem fi49 : (env.funcs.find 49).i = fu49.i := rfl
theorem ff49 : (env.funcs.find 49).f.beq 49 = true := rfl
theorem hk49 : ∀ args : List AVal, callF env (evalW env) 49 args = callI env (evalW env) 49 args := fun _ => rfl
theorem fg49 : ∀ tm : List AVal, forget env 49 tm = forgetL [true, false, true, true, false, false, false, false, false, false, false, false, false, false, false, false, false, false, false, false, false, false, false, false, false, false, false, false, false, false, false, false, false, false, false, false, false, false, false, false] tm := fun _ => rfl
theorem fi50 : (env.funcs.find 50).i = fu50.i := rfl
theorem ff50 : (env.funcs.find 50).f.beq 50 = true := rfl
theorem hk50 : ∀ args : List AVal, callF env (evalW env) 50 args = callI env (evalW env) 50 args := fun _ => rfl
theorem fg50 : ∀ tm : List AVal, forget env 50 tm = forgetL [true, true, true, false, false, false, true, true, false, true, false, false, true, true, true, true, false, false, false, false, false, true, false, false, false, false, false] tm := fun _ => rfl
theorem fi51 : (env.funcs.find 51).i = fu51.i := rfl
theorem ff51 : (env.funcs.find 51).f.beq 51 = true := rfl
theorem hk51 : ∀ args : List AVal, callF env (evalW env) 51 args = callI env (evalW env) 51 args := fun _ => rfl
theorem fg51 : ∀ tm : List AVal, forget env 51 tm = forgetL [true, false, true, true, true, true, true, false, true, true, true, false, false, false, false, false, false, false, false, false, false, false, false, false, false, false, false, true, false] tm := fun _ => rfl
theorem fi52 : (env.funcs.find 52).i = fu52.i := rfl
theorem ff52 : (env.funcs.find 52).f.beq 52 = true := rfl
theorem hk52 : ∀ args : List AVal, callF env (evalW env) 52 args = callI env (evalW env) 52 args := fun _ => rfl
theorem fg52 : ∀ tm : List AVal, forget env 52 tm = forgetL [true, false, true, true, false, true, false, true, true, true, true, false, false, false, false, false, false, false, false] tm := fun _ => rfl
theorem fi53 : (env.funcs.find 53).i = fu53.i := rfl
theorem ff53 : (env.funcs.find 53).f.beq 53 = true := rfl
theorem hk53 : ∀ args : List AVal, callF env (evalW env) 53 args = callI env (evalW env) 53 args := fun _ => rfl
theorem fg53 : ∀ tm : List AVal, forget env 53 tm = forgetL [true, false, true, true, true, true, true, false, false, false, false, false, false, true, false, false, false, false, false, false, false, true, false, false, false, false, false, false] tm := fun _ => rfl
theorem fi54 : (env.funcs.find 54).i = fu54.i := rfl
theorem ff54 : (env.funcs.find 54).f.beq 54 = true := rfl
theorem hk54 : ∀ args : List AVal, callF env (evalW env) 54 args = callI env (evalW env) 54 args := fun _ => rfl
theorem fg54 : ∀ tm : List AVal, forget env 54 tm = forgetL [true, false, true, true, true, true, true, false, true, false, false, true, true, true, false, true, false, false, false, false, false, false, true, false, false, false, false, false, false, false, false, false, false, false, false] tm := fun _ => rfl
theorem fi55 : (env.funcs.find 55).i = fu55.i := rfl
theorem ff55 : (env.funcs.find 55).f.beq 55 = true := rfl
theorem hk55 : ∀ args : List AVal, callF env (evalW env) 55 args = callI env (evalW env) 55 args := fun _ => rfl
theorem fg55 : ∀ tm : List AVal, forget env 55 tm = forgetL [true, true, false, false, true, false, false, false, false, false] tm := fun _ => rfl
theorem fi56 : (env.funcs.find 56).i = fu56.i := rfl
theorem ff56 : (env.funcs.find 56).f.beq 56 = true := rfl
theorem hk56 : ∀ args : List AVal, callF env (evalW env) 56 args = callI env (evalW env) 56 args := fun _ => rfl
theorem fg56 : ∀ tm : List AVal, forget env 56 tm = forgetL [true, false, true, true, true, true, false, false, true, false, false, false, true, false, false, false, false, false, false, false, false, false, false, true, false, false, false, false, false, false, false, true, false, false, false, false, false, true, false, false, false, false, false, false, false, false, false] tm := fun _ => rfl
theorem fi57 : (env.funcs.find 57).i = fu57.i := rfl
theorem ff57 : (env.funcs.find 57).f.beq 57 = true := rfl
theorem hk57 : ∀ args : List AVal, callF env (evalW env) 57 args = callI env (evalW env) 57 args := fun _ => rfl
theorem fg57 : ∀ tm : List AVal, forget env 57 tm = forgetL [true, false, true, true] tm := fun _ => rfl
theorem fi58 : (env.funcs.find 58).i = fu58.i := rfl
theorem ff58 : (env.funcs.find 58).f.beq 58 = true := rfl
theorem hk58 : ∀ args : List AVal, callF env (evalW env) 58 args = callI env (evalW env) 58 args := fun _ => rfl
theorem fg58 : ∀ tm : List AVal, forget env 58 tm = forgetL [true, false, true, true] tm := fun _ => rfl
theorem fi59 : (env.funcs.find 59).i = fu59.i := rfl
theorem ff59 : (env.funcs.find 59).f.beq 59 = true := rfl
theorem hk59 : ∀ args : List AVal, callF env (evalW env) 59 args = callI env (evalW env) 59 args := fun _ => rfl
theorem fg59 : ∀ tm : List AVal, forget env 59 tm = forgetL [true, false, true, true, true, false, true, false, true, false, true, false, true, false, true, false] tm := fun _ => rfl
theorem fi60 : (env.funcs.find 60).i = fu60.i := rfl
theorem ff60 : (env.funcs.find 60).f.beq 60 = true := rfl
theorem hk60 : ∀ args : List AVal, callF env (evalW env) 60 args = callI env (evalW env) 60 args := fun _ => rfl
theorem fg60 : ∀ tm : List AVal, forget env 60 tm = forgetL [true, false, true, false, false, false, false, false, false] tm := fun _ => rfl
theorem fi61 : (env.funcs.find 61).i = fu61.i := rfl
theorem ff61 : (env.funcs.find 61).f.beq 61 = true := rfl
theorem hk61 : ∀ args : List AVal, callF env (evalW env) 61 args = callI env (evalW env) 61 args := fun _ => rfl
theorem fg61 : ∀ tm : List AVal, forget env 61 tm = forgetL [true, false, true, false, false, false, false, false, false] tm := fun _ => rfl
theorem fi62 : (env.funcs.find 62).i = fu62.i := rfl
theorem ff62 : (env.funcs.find 62).f.beq 62 = true := rfl
theorem hk62 : ∀ args : List AVal, callF env (evalW env) 62 args = callI env (evalW env) 62 args := fun _ => rfl
theorem fg62 : ∀ tm : List AVal, forget env 62 tm = forgetL [true, false, true, true, true, false, true, false, true, false, true, false, true, false, false, true, false, true, false, true, false, true, false, true, false, true, false, true, false] tm := fun _ => rfl
theorem fi63 : (env.funcs.find 63).i = fu63.i := rfl
theorem ff63 : (env.funcs.find 63).f.beq 63 = true := rfl
theorem hk63 : ∀ args : List AVal, callF env (evalW env) 63 args = callI env (evalW env) 63 args := fun _ => rfl
theorem fg63 : ∀ tm : List AVal, forget env 63 tm = forgetL [true, true, false, false, false, false, false, false, false, false, false, false, false] tm := fun _ => rfl
theorem fi64 : (env.funcs.find 64).i = fu64.i := rfl
theorem ff64 : (env.funcs.find 64).f.beq 64 = true := rfl
theorem hk64 : ∀ args : List AVal, callF env (evalW env) 64 args = callI env (evalW env) 64 args := fun _ => rfl
theorem fg64 : ∀ tm : List AVal, forget env 64 tm = forgetL [true, false, true, false, true, false, false, false] tm := fun _ => rfl
theorem fi65 : (env.funcs.find 65).i = fu65.i := rfl
theorem ff65 : (env.funcs.find 65).f.beq 65 = true := rfl
theorem hk65 : ∀ args : List AVal, callF env (evalW env) 65 args = callI env (evalW env) 65 args := fun _ => rfl
theorem fg65 : ∀ tm : List AVal, forget env 65 tm = forgetL [true, false, true, false, false, false, false, false, false, false, false, false] tm := fun _ => rfl
theorem fi66 : (env.funcs.find 66).i = fu66.i := rfl
theorem ff66 : (env.funcs.find 66).f.beq 66 = true := rfl
theorem hk66 : ∀ args : List AVal, callF env (evalW env) 66 args = callI env (evalW env) 66 args := fun _ => rfl
theorem fg66 : ∀ tm : List AVal, forget env 66 tm = forgetL [true, false, true, false, false, false, false, false] tm := fun _ => rfl
theorem fi67 : (env.funcs.find 67).i = fu67.i := rfl
theorem ff67 : (env.funcs.find 67).f.beq 67 = true := rfl
theorem hk67 : ∀ args : List AVal, callF env (evalW env) 67 args = callI env (evalW env) 67 args := fun _ => rfl
theorem fg67 : ∀ tm : List AVal, forget env 67 tm = forgetL [true, false, true, true, true, false, false, true, false, false, false, false, false, false, false, true, false, false, false, false, false, false, true, false, false, true, false, false, true, false] tm := fun _ => rfl
theorem fi68 : (env.funcs.find 68).i = fu68.i := rfl
theorem ff68 : (env.funcs.find 68).f.beq 68 = true := rfl
theorem hk68 : ∀ args : List AVal, callF env (evalW env) 68 args = callI env (evalW env) 68 args := fun _ => rfl
theorem fg68 : ∀ tm : List AVal, forget env 68 tm = forgetL [true, false, true, false, true, false, false, false] tm := fun _ => rfl
theorem fi69 : (env.funcs.find 69).i = fu69.i := rfl
theorem ff69 : (env.funcs.find 69).f.beq 69 = true := rfl
theorem hk69 : ∀ args : List AVal, callF env (evalW env) 69 args = callI env (evalW env) 69 args := fun _ => rfl
theorem fg69 : ∀ tm : List AVal, forget env 69 tm = forgetL [true, true, false, false, true, true, true, true, false, true, false, false, false, false, false, true, false, false, false, false, false, false, true, true, true, true, false, false, false, false, false, false, false, false, false, false, false, false, true, false, false, false, false, true, false, false, false, false, false, false, false, false, false, true, false, false, false, false, false, true, false, false, false, false, false, false, false, false, true, false, false, false, false, false, true, false, false, false, false, false, false, false, false, false, true, false, false, false, false, false, false, false, true, false, false, false, false, false, false, false, false] tm := fun _ => rfl
theorem fi70 : (env.funcs.find 70).i = fu70.i := rfl
theorem ff70 : (env.funcs.find 70).f.beq 70 = true := rfl
theorem hk70 : ∀ args : List AVal, callF env (evalW env) 70 args = callI env (evalW env) 70 args := fun _ => rfl
theorem fg70 : ∀ tm : List AVal, forget env 70 tm = forgetL [true, false, true, true, false, true, true, true, true, true, false, false, false, false, false, false, false, false, false] tm := fun _ => rfl
theorem fi71 : (env.funcs.find 71).i = fu71.i := rfl
theorem ff71 : (env.funcs.find 71).f.beq 71 = true := rfl
theorem hk71 : ∀ args : List AVal, callF env (evalW env) 71 args = callI env (evalW env) 71 args := fun _ => rfl
theorem fg71 : ∀ tm : List AVal, forget env 71 tm = forgetL [true, true, false, true, true, true, true, true, false, true, true, true, false, false, true, false, false] tm := fun _ => rfl
theorem fi72 : (env.funcs.find 72).i = fu72.i := rfl
theorem ff72 : (env.funcs.find 72).f.beq 72 = true := rfl
theorem hk72 : ∀ args : List AVal, callF env (evalW env) 72 args = callI env (evalW env) 72 args := fun _ => rfl
theorem fg72 : ∀ tm : List AVal, forget env 72 tm = forgetL [true, true, false, false, true, true, true, false, false, false, false, false, false, false, false, false, false, false, false, false, false, false, false, false, false, false, false, false, false, false, false, false] tm := fun _ => rfl
theorem fi73 : (env.funcs.find 73).i = fu73.i := rfl
theorem ff73 : (env.funcs.find 73).f.beq 73 = true := rfl
theorem hk73 : ∀ args : List AVal, callF env (evalW env) 73 args = callI env (evalW env) 73 args := fun _ => rfl
theorem fg73 : ∀ tm : List AVal, forget env 73 tm = forgetL [true, false, true, true, false, false, false] tm := fun _ => rfl
theorem fi74 : (env.funcs.find 74).i = fu74.i := rfl
theorem ff74 : (env.funcs.find 74).f.beq 74 = true := rfl
theorem hk74 : ∀ args : List AVal, callF env (evalW env) 74 args = callI env (evalW env) 74 args := fun _ => rfl
theorem fg74 : ∀ tm : List AVal, forget env 74 tm = forgetL [true, true, false, false, true, true, true, true, false, false, false, true, false, false, false, false, false, false, false, true, false, false, false, false, false, false, false, false, false, false, false, false, true, false, false, false, false, false, false, false, false, false, false, false, false, false, false] tm := fun _ => rfl
theorem fi75 : (env.funcs.find 75).i = fu75.i := rfl
theorem ff75 : (env.funcs.find 75).f.beq 75 = true := rfl
theorem hk75 : ∀ args : List AVal, callF env (evalW env) 75 args = callI env (evalW env) 75 args := fun _ => rfl
theorem fg75 : ∀ tm : List AVal, forget env 75 tm = forgetL [true, true, false, false, true, false, false, true, false, false, false, false, false, false, false, false, false, false, false, true, false, false, false, false, false, false, false, false, false, false, false] tm := fun _ => rfl
theorem fi76 : (env.funcs.find 76).i = fu76.i := rfl
theorem ff76 : (env.funcs.find 76).f.beq 76 = true := rfl
theorem hk76 : ∀ args : List AVal, callF env (evalW env) 76 args = callI env (evalW env) 76 args := fun _ => rfl
theorem fg76 : ∀ tm : List AVal, forget env 76 tm = forgetL [true, false, true, true, true, true, false, false, false, false, false, false, true, false, false, false, false, false, false, false, false, false, false, false, false, false, false, false, false] tm := fun _ => rfl
theorem fi77 : (env.funcs.find 77).i = fu77.i := rfl
theorem ff77 : (env.funcs.find 77).f.beq 77 = true := rfl
theorem hk77 : ∀ args : List AVal, callF env (evalW env) 77 args = callI env (evalW env) 77 args := fun _ => rfl
theorem fg77 : ∀ tm : List AVal, forget env 77 tm = forgetL [true, true, false, false, true, true, false, false, false, false, false, false, false, false, false, false, true, false, false, false, false, false, false, false, false, false, false, false, false, false, false, false] tm := fun _ => rfl
theorem fi78 : (env.funcs.find 78).i = fu78.i := rfl
theorem ff78 : (env.funcs.find 78).f.beq 78 = true := rfl
theorem hk78 : ∀ args : List AVal, callF env (evalW env) 78 args = callI env (evalW env) 78 args := fun _ => rfl
theorem fg78 : ∀ tm : List AVal, forget env 78 tm = forgetL [true, false, true, true, true, true, true, true, false, false, false, false, false, false, true, false, false, false, false, false, false, false, true, false, false, false, false, false, false, false, false, false, false, false, false, false, false, false, false] tm := fun _ => rfl
theorem fi79 : (env.funcs.find 79).i = fu79.i := rfl
theorem ff79 : (env.funcs.find 79).f.beq 79 = true := rfl
theorem hk79 : ∀ args : List AVal, callF env (evalW env) 79 args = callI env (evalW env) 79 args := fun _ => rfl
theorem fg79 : ∀ tm : List AVal, forget env 79 tm = forgetL [true, false, true, true, true, true, false, true, false, true, false, true, false, true, false, true, false, true, false, true, false, true, false, true, false, true, false, true, false, true, false] tm := fun _ => rfl
theorem fi80 : (env.funcs.find 80).i = fu80.i := rfl
theorem ff80 : (env.funcs.find 80).f.beq 80 = true := rfl
theorem hk80 : ∀ args : List AVal, callF env (evalW env) 80 args = callI env (evalW env) 80 args := fun _ => rfl
theorem fg80 : ∀ tm : List AVal, forget env 80 tm = forgetL [true, true, true, false] tm := fun _ => rfl
theorem fi81 : (env.funcs.find 81).i = fu81.i := rfl
theorem ff81 : (env.funcs.find 81).f.beq 81 = true := rfl
theorem hk81 : ∀ args : List AVal, callF env (evalW env) 81 args = callI env (evalW env) 81 args := fun _ => rfl
theorem fg81 : ∀ tm : List AVal, forget env 81 tm = forgetL [true, false, true, false, true, false, false, false, false, false] tm := fun _ => rfl
theorem fi82 : (env.funcs.find 82).i = fu82.i := rfl
theorem ff82 : (env.funcs.find 82).f.beq 82 = true := rfl
theorem hk82 : ∀ args : List AVal, callF env (evalW env) 82 args = callI env (evalW env) 82 args := fun _ => rfl
theorem fg82 : ∀ tm : List AVal, forget env 82 tm = forgetL [true, false, true, false, false] tm := fun _ => rfl
theorem fi83 : (env.funcs.find 83).i = fu83.i := rfl
theorem ff83 : (env.funcs.find 83).f.beq 83 = true := rfl
theorem hk83 : ∀ args : List AVal, callF env (evalW env) 83 args = callI env (evalW env) 83 args := fun _ => rfl
theorem fg83 : ∀ tm : List AVal, forget env 83 tm = forgetL [true, false, true, false, false] tm := fun _ => rfl
theorem fi84 : (env.funcs.find 84).i = fu84.i := rfl
theorem ff84 : (env.funcs.find 84).f.beq 84 = true := rfl
theorem hk84 : ∀ args : List AVal, callF env (evalW env) 84 args = callI env (evalW env) 84 args := fun _ => rfl
theorem fg84 : ∀ tm : List AVal, forget env 84 tm = forgetL [true, false, true, false, false] tm := fun _ => rfl
theorem fi85 : (env.funcs.find 85).i = fu85.i := rfl
theorem ff85 : (env.funcs.find 85).f.beq 85 = true := rfl
theorem hk85 : ∀ args : List AVal, callF env (evalW env) 85 args = callI env (evalW env) 85 args := fun _ => rfl
theorem fg85 : ∀ tm : List AVal, forget env 85 tm = forgetL [true, false, true, false, false, false] tm := fun _ => rfl
theorem fi86 : (env.funcs.find 86).i = fu86.i := rfl
theorem ff86 : (env.funcs.find 86).f.beq 86 = true := rfl
theorem hk86 : ∀ args : List AVal, callF env (evalW env) 86 args = callI env (evalW env) 86 args := fun _ => rfl
theorem fg86 : ∀ tm : List AVal, forget env 86 tm = forgetL [true, false, true, false, false, false] tm := fun _ => rfl
theorem fi87 : (env.funcs.find 87).i = fu87.i := rfl
theorem ff87 : (env.funcs.find 87).f.beq 87 = true := rfl
theorem hk87 : ∀ args : List AVal, callF env (evalW env) 87 args = callI env (evalW env) 87 args := fun _ => rfl
theorem fg87 : ∀ tm : List AVal, forget env 87 tm = forgetL [true, false, true, false, false, false] tm := fun _ => rfl
theorem fi88 : (env.funcs.find 88).i = fu88.i := rfl
theorem ff88 : (env.funcs.find 88).f.beq 88 = true := rfl
theorem hk88 : ∀ args : List AVal, callF env (evalW env) 88 args = callI env (evalW env) 88 args := fun _ => rfl
theorem fg88 : ∀ tm : List AVal, forget env 88 tm = forgetL [true, true, false, false, true, false, false, false] tm := fun _ => rfl
theorem fi89 : (env.funcs.find 89).i = fu89.i := rfl
theorem ff89 : (env.funcs.find 89).f.beq 89 = true := rfl
theorem hk89 : ∀ args : List AVal, callF env (evalW env) 89 args = callI env (evalW env) 89 args := fun _ => rfl
theorem fg89 : ∀ tm : List AVal, forget env 89 tm = forgetL [true, true, false, false, true, false, false, false] tm := fun _ => rfl
theorem fi90 : (env.funcs.find 90).i = fu90.i := rfl
theorem ff90 : (env.funcs.find 90).f.beq 90 = true := rfl
theorem hk90 : ∀ args : List AVal, callF env (evalW env) 90 args = callI env (evalW env) 90 args := fun _ => rfl
theorem fg90 : ∀ tm : List AVal, forget env 90 tm = forgetL [true, true, false, false, true, false, false, false, false, false] tm := fun _ => rfl
theorem fi91 : (env.funcs.find 91).i = fu91.i := rfl
theorem ff91 : (env.funcs.find 91).f.beq 91 = true := rfl
theorem hk91 : ∀ args : List AVal, callF env (evalW env) 91 args = callI env (evalW env) 91 args := fun _ => rfl
theorem fg91 : ∀ tm : List AVal, forget env 91 tm = forgetL [true, true, false, false, true, false, false, false, false, false] tm := fun _ => rfl
theorem fi92 : (env.funcs.find 92).i = fu92.i := rfl
theorem ff92 : (env.funcs.find 92).f.beq 92 = true := rfl
theorem hk92 : ∀ args : List AVal, callF env (evalW env) 92 args = callI env (evalW env) 92 args := fun _ => rfl
theorem fg92 : ∀ tm : List AVal, forget env 92 tm = forgetL [true, true, false, false, true, false, false, false, false] tm := fun _ => rfl
theorem fi93 : (env.funcs.find 93).i = fu93.i := rfl
theorem ff93 : (env.funcs.find 93).f.beq 93 = true := rfl
theorem hk93 : ∀ args : List AVal, callF env (evalW env) 93 args = callI env (evalW env) 93 args := fun _ => rfl
theorem fg93 : ∀ tm : List AVal, forget env 93 tm = forgetL [true, true, false, false, true, false, false, false, false] tm := fun _ => rfl
theorem fi94 : (env.funcs.find 94).i = fu94.i := rfl
theorem ff94 : (env.funcs.find 94).f.beq 94 = true := rfl
theorem hk94 : ∀ args : List AVal, callF env (evalW env) 94 args = callI env (evalW env) 94 args := fun _ => rfl
theorem fg94 : ∀ tm : List AVal, forget env 94 tm = forgetL [true, true, false, false, true, false, false, false, false] tm := fun _ => rfl
theorem fi95 : (env.funcs.find 95).i = fu95.i := rfl
theorem ff95 : (env.funcs.find 95).f.beq 95 = true := rfl
theorem hk95 : ∀ args : List AVal, callF env (evalW env) 95 args = callI env (evalW env) 95 args := fun _ => rfl
theorem fg95 : ∀ tm : List AVal, forget env 95 tm = forgetL [true, true, false, false, true, false, false, false, false] tm := fun _ => rfl
theorem fi96 : (env.funcs.find 96).i = fu96.i := rfl
theorem ff96 : (env.funcs.find 96).f.beq 96 = true := rfl
theorem hk96 : ∀ args : List AVal, callF env (evalW env) 96 args = callI env (evalW env) 96 args := fun _ => rfl
theorem fg96 : ∀ tm : List AVal, forget env 96 tm = forgetL [true, true, false, false, true, false, false, false, false] tm := fun _ => rfl
theorem fi97 : (env.funcs.find 97).i = fu97.i := rfl
theorem ff97 : (env.funcs.find 97).f.beq 97 = true := rfl
theorem hk97 : ∀ args : List AVal, callF env (evalW env) 97 args = callI env (evalW env) 97 args := fun _ => rfl
theorem fg97 : ∀ tm : List AVal, forget env 97 tm = forgetL [true, true, false, false, true, false, false, false, false] tm := fun _ => rfl
theorem fi98 : (env.funcs.find 98).i = fu98.i := rfl
theorem ff98 : (env.funcs.find 98).f.beq 98 = true := rfl
theorem hk98 : ∀ args : List AVal, callF env (evalW env) 98 args = callI env (evalW env) 98 args := fun _ => rfl
theorem fg98 : ∀ tm : List AVal, forget env 98 tm = forgetL [true, true, false, false, true, false, false, false] tm := fun _ => rfl
theorem fi99 : (env.funcs.find 99).i = fu99.i := rfl
theorem ff99 : (env.funcs.find 99).f.beq 99 = true := rfl
theorem hk99 : ∀ args : List AVal, callF env (evalW env) 99 args = callI env (evalW env) 99 args := fun _ => rfl
theorem fg99 : ∀ tm : List AVal, forget env 99 tm = forgetL [true, true, false, false, true, false, false, false] tm := fun _ => rfl
theorem fi100 : (env.funcs.find 100).i = fu100.i := rfl
theorem ff100 : (env.funcs.find 100).f.beq 100 = true := rfl
theorem hk100 : ∀ args : List AVal, callF env (evalW env) 100 args = callI env (evalW env) 100 args := fun _ => rfl
theorem fg100 : ∀ tm : List AVal, forget env 100 tm = forgetL [true, false, true, true, true, true, false, false, true, false, false, true, false, false, true, false, false, true, false, false, true, false, false, true, false, false, true, false, false, true, false, false, true, false, false, true, false, false, true, false, false] tm := fun _ => rfl
theorem fi101 : (env.funcs.find 101).i = fu101.i := rfl
theorem ff101 : (env.funcs.find 101).f.beq 101 = true := rfl
theorem hk101 : ∀ args : List AVal, callF env (evalW env) 101 args = callI env (evalW env) 101 args := fun _ => rfl
theorem fg101 : ∀ tm : List AVal, forget env 101 tm = forgetL [true, true, false, false, true, false, false, false, false, false, false, false, false, false, false, false, false] tm := fun _ => rfl
theorem fi102 : (env.funcs.find 102).i = fu102.i := rfl
theorem ff102 : (env.funcs.find 102).f.beq 102 = true := rfl
theorem hk102 : ∀ args : List AVal, callF env (evalW env) 102 args = callI env (evalW env) 102 args := fun _ => rfl
theorem fg102 : ∀ tm : List AVal, forget env 102 tm = forgetL [true, true, false, false, true, true, true, true, true, false, false, false, false, false, false, true, false, false, false, false, false, false, false, false, false, false, true, false, false, false, false, false, true, false, false, false, false, false, false, false, false, false, false, false, false, false, false, false, false, false, false, false, false, false, false, false, false, false, false, false] tm := fun _ => rfl
theorem fi103 : (env.funcs.find 103).i = fu103.i := rfl
theorem ff103 : (env.funcs.find 103).f.beq 103 = true := rfl
theorem hk103 : ∀ args : List AVal, callF env (evalW env) 103 args = callI env (evalW env) 103 args := fun _ => rfl
theorem fg103 : ∀ tm : List AVal, forget env 103 tm = forgetL [true, true, true, false] tm := fun _ => rfl
theorem fi104 : (env.funcs.find 104).i = fu104.i := rfl
theorem ff104 : (env.funcs.find 104).f.beq 104 = true := rfl
theorem hk104 : ∀ args : List AVal, callF env (evalW env) 104 args = callI env (evalW env) 104 args := fun _ => rfl
theorem fg104 : ∀ tm : List AVal, forget env 104 tm = forgetL [true, true, false, false, true, true, true, true, true, true, true, true, true, true, true, true, true, false, false, false, false, false, false, false, false, false, false, false, false, false, false, false, false, false, false, false, false, false, false, false, true, false, false, false, true, false, false, false, false, false, false, false, false, false, false, false, false, false, false, false, false, false, false, false, false, false, false, false, false, false, true, false, false, false, false, false, false, false, false, false, false, false, false, false, false, false, false, false, false, false, false, false, true, false, false, false, false, false, false, false, false, false, false, false, false, false, true, false, false, false, false, false, true, false, false, false, false, false, false, false, false, false, false, false, false, false, false, false, false, false, false, false, false, false, false, false, false, false, false, false, false, false, false, false, false, false, false, false, false, false, true, false, false, false, false, false, false, false, false, true, false, false, false, false, false, false, true, false, false, false, false, false, false, false, false, false, false, false, true, false, false, false, false, false, false, false, false, false, false, false, false, false, false, false, false, true, false, false, false, false, false, false, false, false, false, false, false, false, false, false, false, false, false, false, false, false, false, false, false, false, false, false, false, false, true, false, false, false, false, false, false, false, false, false, false, false, false, false, false, false, false, false, false, false, false, false, true, false, false, true, false, false, false, false, false, false, false, false, false, false, true, false, false, false, false, false, false, false, false, false, false, false, false, false, false] tm := fun _ => rfl
theorem fi105 : (env.funcs.find 105).i = fu105.i := rfl
theorem ff105 : (env.funcs.find 105).f.beq 105 = true := rfl
theorem hk105 : ∀ args : List AVal, callF env (evalW env) 105 args = callI env (evalW env) 105 args := fun _ => rfl
theorem fg105 : ∀ tm : List AVal, forget env 105 tm = forgetL [true, true, false, true, false, true, false, false, false, false, false, false, false, false, false, true] tm := fun _ => rfl
theorem fi106 : (env.funcs.find 106).i = fu106.i := rfl
theorem ff106 : (env.funcs.find 106).f.beq 106 = true := rfl
theorem hk106 : ∀ args : List AVal, callF env (evalW env) 106 args = callI env (evalW env) 106 args := fun _ => rfl
theorem fg106 : ∀ tm : List AVal, forget env 106 tm = forgetL [true, true, true, false, false, false, true, true, false, false, false, false, false, false, false, false, true, false, false, false, false, false, false, false, false, false, false, false, false, false, false, false, false] tm := fun _ => rfl
theorem fi107 : (env.funcs.find 107).i = fu107.i := rfl
theorem ff107 : (env.funcs.find 107).f.beq 107 = true := rfl
theorem hk107 : ∀ args : List AVal, callF env (evalW env) 107 args = callI env (evalW env) 107 args := fun _ => rfl
theorem fg107 : ∀ tm : List AVal, forget env 107 tm = forgetL [true, true, true, true, true, false, false, false, false, true, true, true, false, false, false, false, false, false, false, false, false, false, false, true] tm := fun _ => rfl
theorem fi108 : (env.funcs.find 108).i = fu108.i := rfl
theorem ff108 : (env.funcs.find 108).f.beq 108 = true := rfl
theorem hk108 : ∀ args : List AVal, callF env (evalW env) 108 args = callI env (evalW env) 108 args := fun _ => rfl
theorem fg108 : ∀ tm : List AVal, forget env 108 tm = forgetL [true, true, true, false] tm := fun _ => rfl
theorem fi109 : (env.funcs.find 109).i = fu109.i := rfl
theorem ff109 : (env.funcs.find 109).f.beq 109 = true := rfl
theorem hk109 : ∀ args : List AVal, callF env (evalW env) 109 args = callI env (evalW env) 109 args := fun _ => rfl
theorem fg109 : ∀ tm : List AVal, forget env 109 tm = forgetL [true, false, true, true, false, false, false] tm := fun _ => rfl
theorem fi110 : (env.funcs.find 110).i = fu110.i := rfl
theorem ff110 : (env.funcs.find 110).f.beq 110 = true := rfl
theorem hk110 : ∀ args : List AVal, callF env (evalW env) 110 args = callI env (evalW env) 110 args := fun _ => rfl
theorem fg110 : ∀ tm : List AVal, forget env 110 tm = forgetL [true, true, false, true, false, false, false, false, true, false, false, false, false, false, false, false, false, false, true] tm := fun _ => rfl
theorem bl9s : ∀ ts l, bLen env (9 :: ts) (.str l) = M.pure (.int .i64 (l.length : Nat)) := fun _ _ => rfl
theorem bl10s : ∀ ts l, bLen env (10 :: ts) (.str l) = M.pure (.int .i64 (l.length : Nat)) := fun _ _ => rfl
theorem bl11s : ∀ ts l, bLen env (11 :: ts) (.str l) = M.pure (.int .i64 (l.length : Nat)) := fun _ _ => rfl
theorem bl22a : ∀ ts id off len cap sz, bLen env (22 :: ts) (.sl id off len cap sz) = M.pure (.int .i64 (len : Nat)) := fun _ _ _ _ _ _ => rfl
theorem bl22b : ∀ ts g sz off len, bLen env (22 :: ts) (.isl g sz off len) = M.pure (.int .i64 (len : Nat)) := fun _ _ _ _ _ => rfl
theorem bl22c : ∀ ts, bLen env (22 :: ts) .nils = M.pure (.int .i64 0) := fun _ => rfl
theorem bl22d : ∀ ts, bLen env (22 :: ts) .emp = M.pure (.int .i64 0) := fun _ => rfl
theorem bl44r : ∀ ts v, bLen env (44 :: ts) v = M.pure (.int .i64 8) := fun _ _ => rfl
theorem bl50a : ∀ ts id off len cap sz, bLen env (50 :: ts) (.sl id off len cap sz) = M.pure (.int .i64 (len : Nat)) := fun _ _ _ _ _ _ => rfl
theorem bl50b : ∀ ts g sz off len, bLen env (50 :: ts) (.isl g sz off len) = M.pure (.int .i64 (len : Nat)) := fun _ _ _ _ _ => rfl
theorem bl50c : ∀ ts, bLen env (50 :: ts) .nils = M.pure (.int .i64 0) := fun _ => rfl
theorem bl50d : ∀ ts, bLen env (50 :: ts) .emp = M.pure (.int .i64 0) := fun _ => rfl
theorem bl52a : ∀ ts id off len cap sz, bLen env (52 :: ts) (.sl id off len cap sz) = M.pure (.int .i64 (len : Nat)) := fun _ _ _ _ _ _ => rfl
theorem bl52b : ∀ ts g sz off len, bLen env (52 :: ts) (.isl g sz off len) = M.pure (.int .i64 (len : Nat)) := fun _ _ _ _ _ => rfl
theorem bl52c : ∀ ts, bLen env (52 :: ts) .nils = M.pure (.int .i64 0) := fun _ => rfl
theorem bl52d : ∀ ts, bLen env (52 :: ts) .emp = M.pure (.int .i64 0) := fun _ => rfl
theorem bl53a : ∀ ts id off len cap sz, bLen env (53 :: ts) (.sl id off len cap sz) = M.pure (.int .i64 (len : Nat)) := fun _ _ _ _ _ _ => rfl
theorem bl53b : ∀ ts g sz off len, bLen env (53 :: ts) (.isl g sz off len) = M.pure (.int .i64 (len : Nat)) := fun _ _ _ _ _ => rfl
theorem bl53c : ∀ ts, bLen env (53 :: ts) .nils = M.pure (.int .i64 0) := fun _ => rfl
theorem bl53d : ∀ ts, bLen env (53 :: ts) .emp = M.pure (.int .i64 0) := fun _ => rfl
theorem bl70a : ∀ ts id off len cap sz, bLen env (70 :: ts) (.sl id off len cap sz) = M.pure (.int .i64 (len : Nat)) := fun _ _ _ _ _ _ => rfl
theorem bl70b : ∀ ts g sz off len, bLen env (70 :: ts) (.isl g sz off len) = M.pure (.int .i64 (len : Nat)) := fun _ _ _ _ _ => rfl
theorem bl70c : ∀ ts, bLen env (70 :: ts) .nils = M.pure (.int .i64 0) := fun _ => rfl
theorem bl70d : ∀ ts, bLen env (70 :: ts) .emp = M.pure (.int .i64 0) := fun _ => rfl
theorem bl114a : ∀ ts id off len cap sz, bLen env (114 :: ts) (.sl id off len cap sz) = M.pure (.int .i64 (len : Nat)) := fun _ _ _ _ _ _ => rfl
theorem bl114b : ∀ ts g sz off len, bLen env (114 :: ts) (.isl g sz off len) = M.pure (.int .i64 (len : Nat)) := fun _ _ _ _ _ => rfl
theorem bl114c : ∀ ts, bLen env (114 :: ts) .nils = M.pure (.int .i64 0) := fun _ => rfl
theorem bl114d : ∀ ts, bLen env (114 :: ts) .emp = M.pure (.int .i64 0) := fun _ => rfl
theorem bl131r : ∀ ts v, bLen env (131 :: ts) v = M.pure (.int .i64 0) := fun _ _ => rfl
noncomputable def lp6_0 : Code := (loopsOf (Try.f6.body.getD .skip)).getD 0 .skip
noncomputable def lp9_0 : Code := (loopsOf (Try.f9.body.getD .skip)).getD 0 .skip
noncomputable def lp9_1 : Code := (loopsOf (Try.f9.body.getD .skip)).getD 1 .skip
noncomputable def lp10_0 : Code := (loopsOf (Try.f10.body.getD .skip)).getD 0 .skip
noncomputable def lp11_0 : Code := (loopsOf (Try.f11.body.getD .skip)).getD 0 .skip
noncomputable def lp13_0 : Code := (loopsOf (Try.f13.body.getD .skip)).getD 0 .skip
noncomputable def lp13_1 : Code := (loopsOf (Try.f13.body.getD .skip)).getD 1 .skip
noncomputable def lp14_0 : Code := (loopsOf (Try.f14.body.getD .skip)).getD 0 .skip
noncomputable def lp14_1 : Code := (loopsOf (Try.f14.body.getD .skip)).getD 1 .skip
noncomputable def lp14_2 : Code := (loopsOf (Try.f14.body.getD .skip)).getD 2 .skip
noncomputable def lp18_0 : Code := (loopsOf (Try.f18.body.getD .skip)).getD 0 .skip
noncomputable def lp19_0 : Code := (loopsOf (Try.f19.body.getD .skip)).getD 0 .skip
noncomputable def lp21_0 : Code := (loopsOf (Try.f21.body.getD .skip)).getD 0 .skip
noncomputable def lp22_0 : Code := (loopsOf (Try.f22.body.getD .skip)).getD 0 .skip
noncomputable def lp36_0 : Code := (loopsOf (Try.f36.body.getD .skip)).getD 0 .skip
noncomputable def lp36_1 : Code := (loopsOf (Try.f36.body.getD .skip)).getD 1 .skip
noncomputable def lp37_0 : Code := (loopsOf (Try.f37.body.getD .skip)).getD 0 .skip
noncomputable def lp39_0 : Code := (loopsOf (Try.f39.body.getD .skip)).getD 0 .skip
noncomputable def lp47_0 : Code := (loopsOf (Try.f47.body.getD .skip)).getD 0 .skip
noncomputable def lp48_0 : Code := (loopsOf (Try.f48.body.getD .skip)).getD 0 .skip
noncomputable def lp48_1 : Code := (loopsOf (Try.f48.body.getD .skip)).getD 1 .skip
noncomputable def lp50_0 : Code := (loopsOf (Try.f50.body.getD .skip)).getD 0 .skip
noncomputable def lp51_0 : Code := (loopsOf (Try.f51.body.getD .skip)).getD 0 .skip
noncomputable def lp52_0 : Code := (loopsOf (Try.f52.body.getD .skip)).getD 0 .skip
noncomputable def ra54_0 : Code := ((rangesOf (Try.f54.body.getD .skip)).getD 0 (.skip, .skip)).1
noncomputable def rb54_0 : Code := ((rangesOf (Try.f54.body.getD .skip)).getD 0 (.skip, .skip)).2
noncomputable def lp56_0 : Code := (loopsOf (Try.f56.body.getD .skip)).getD 0 .skip
noncomputable def lp69_0 : Code := (loopsOf (Try.f69.body.getD .skip)).getD 0 .skip
noncomputable def lp70_0 : Code := (loopsOf (Try.f70.body.getD .skip)).getD 0 .skip
noncomputable def ra71_0 : Code := ((rangesOf (Try.f71.body.getD .skip)).getD 0 (.skip, .skip)).1
noncomputable def rb71_0 : Code := ((rangesOf (Try.f71.body.getD .skip)).getD 0 (.skip, .skip)).2
noncomputable def lp104_0 : Code := (loopsOf (Try.f104.body.getD .skip)).getD 0 .skip
noncomputable def lp105_0 : Code := (loopsOf (Try.f105.body.getD .skip)).getD 0 .skip
noncomputable def ra107_0 : Code := ((rangesOf (Try.f107.body.getD .skip)).getD 0 (.skip, .skip)).1
noncomputable def rb107_0 : Code := ((rangesOf (Try.f107.body.getD .skip)).getD 0 (.skip, .skip)).2
noncomputable def lp110_0 : Code := (loopsOf (Try.f110.body.getD .skip)).getD 0 .skip
def tyr := (And.intro ti0 (And.intro ti1 (And.intro ti2 (And.intro ti3 (And.intro ti4 (And.intro ti5 (And.intro ti6 (And.intro ti7 (And.intro ti8 (And.intro ti9 (And.intro ti10 (And.intro ti11 (And.intro ti12 (And.intro ti13 (And.intro ti14 (And.intro ti15 (And.intro ti16 (And.intro ti17 (And.intro ti18 (And.intro ti19 (And.intro ti20 (And.intro ti21 (And.intro ti22 (And.intro ti23 (And.intro ti24 (And.intro ti25 (And.intro ti26 (And.intro ti27 (And.intro ti28 (And.intro ti29 (And.intro ti30 (And.intro ti31 (And.intro ti32 (And.intro ti33 (And.intro ti34 (And.intro ti35 (And.intro ti36 (And.intro ti37 (And.intro ti38 (And.intro ti39 (And.intro ti40 (And.intro ti41 (And.intro ti42 (And.intro ti43 (And.intro ti44 (And.intro ti45 (And.intro ti46 (And.intro ti47 (And.intro ti48 (And.intro ti49 (And.intro ti50 (And.intro ti51 (And.intro ti52 (And.intro ti53 (And.intro ti54 (And.intro ti55 (And.intro ti56 (And.intro ti57 (And.intro ti58 (And.intro ti59 (And.intro ti60 (And.intro ti61 (And.intro ti62 (And.intro ti63 (And.intro ti64 (And.intro ti65 (And.intro ti66 (And.intro ti67 (And.intro ti68 (And.intro ti69 (And.intro ti70 (And.intro ti71 (And.intro ti72 (And.intro ti73 (And.intro ti74 (And.intro ti75 (And.intro ti76 (And.intro ti77 (And.intro ti78 (And.intro ti79 (And.intro ti80 (And.intro ti81 (And.intro ti82 (And.intro ti83 (And.intro ti84 (And.intro ti85 (And.intro ti86 (And.intro ti87 (And.intro ti88 (And.intro ti89 (And.intro ti90 (And.intro ti91 (And.intro ti92 (And.intro ti93 (And.intro ti94 (And.intro ti95 (And.intro ti96 (And.intro ti97 (And.intro ti98 (And.intro ti99 (And.intro ti100 (And.intro ti101 (And.intro ti102 (And.intro ti103 (And.intro ti104 (And.intro ti105 (And.intro ti106 (And.intro ti107 (And.intro ti108 (And.intro ti109 (And.intro ti110 (And.intro ti111 (And.intro ti112 (And.intro ti113 (And.intro ti114 (And.intro ti115 (And.intro ti116 (And.intro ti117 (And.intro ti118 (And.intro ti119 (And.intro ti120 (And.intro ti121 (And.intro ti122 (And.intro ti123 (And.intro ti124 (And.intro ti125 (And.intro ti126 (And.intro ti127 (And.intro ti128 (And.intro ti129 (And.intro ti130 (And.intro ti131 (And.intro ti132 (And.intro ti133 (And.intro ti134 (And.intro ti135 (And.intro ti136 (And.intro ti137 (And.intro ti138 (And.intro ti139 (And.intro ti140 (And.intro ti141 (And.intro ti142 ti143)))))))))))))))))))))))))))))))))))))))))))))))))))))))))))))))))))))))))))))))))))))))))))))))))))))))))))))))))))))))))))))))))))))))))))))))
def blr := (And.intro bl9s (And.intro bl10s (And.intro bl11s (And.intro bl22a (And.intro bl22b (And.intro bl22c (And.intro bl22d (And.intro bl44r (And.intro bl50a (And.intro bl50b (And.intro bl50c (And.intro bl50d (And.intro bl52a (And.intro bl52b (And.intro bl52c (And.intro bl52d (And.intro bl53a (And.intro bl53b (And.intro bl53c (And.intro bl53d (And.intro bl70a (And.intro bl70b (And.intro bl70c (And.intro bl70d (And.intro bl114a (And.intro bl114b (And.intro bl114c (And.intro bl114d bl131r))))))))))))))))))))))))))))
def fgr := (And.intro fg2 (And.intro fg3 (And.intro fg4 (And.intro fg5 (And.intro fg6 (And.intro fg7 (And.intro fg8 (And.intro fg9 (And.intro fg10 (And.intro fg11 (And.intro fg12 (And.intro fg13 (And.intro fg14 (And.intro fg15 (And.intro fg16 (And.intro fg17 (And.intro fg18 (And.intro fg19 (And.intro fg20 (And.intro fg21 (And.intro fg22 (And.intro fg23 (And.intro fg24 (And.intro fg25 (And.intro fg26 (And.intro fg27 (And.intro fg28 (And.intro fg29 (And.intro fg30 (And.intro fg31 (And.intro fg32 (And.intro fg33 (And.intro fg34 (And.intro fg35 (And.intro fg36 (And.intro fg37 (And.intro fg38 (And.intro fg39 (And.intro fg40 (And.intro fg41 (And.intro fg42 (And.intro fg43 (And.intro fg44 (And.intro fg45 (And.intro fg46 (And.intro fg47 (And.intro fg48 (And.intro fg49 (And.intro fg50 (And.intro fg51 (And.intro fg52 (And.intro fg53 (And.intro fg54 (And.intro fg55 (And.intro fg56 (And.intro fg57 (And.intro fg58 (And.intro fg59 (And.intro fg60 (And.intro fg61 (And.intro fg62 (And.intro fg63 (And.intro fg64 (And.intro fg65 (And.intro fg66 (And.intro fg67 (And.intro fg68 (And.intro fg69 (And.intro fg70 (And.intro fg71 (And.intro fg72 (And.intro fg73 (And.intro fg74 (And.intro fg75 (And.intro fg76 (And.intro fg77 (And.intro fg78 (And.intro fg79 (And.intro fg80 (And.intro fg81 (And.intro fg82 (And.intro fg83 (And.intro fg84 (And.intro fg85 (And.intro fg86 (And.intro fg87 (And.intro fg88 (And.intro fg89 (And.intro fg90 (And.intro fg91 (And.intro fg92 (And.intro fg93 (And.intro fg94 (And.intro fg95 (And.intro fg96 (And.intro fg97 (And.intro fg98 (And.intro fg99 (And.intro fg100 (And.intro fg101 (And.intro fg102 (And.intro fg103 (And.intro fg104 (And.intro fg105 (And.intro fg106 (And.intro fg107 (And.intro fg108 (And.intro fg109 fg110))))))))))))))))))))))))))))))))))))))))))))))))))))))))))))))))))))))))))))))))))))))))))))))))))))))))))))
def hkr := (And.intro hk2 (And.intro hk3 (And.intro hk4 (And.intro hk5 (And.intro hk6 (And.intro hk7 (And.intro hk8 (And.intro hk9 (And.intro hk10 (And.intro hk11 (And.intro hk12 (And.intro hk13 (And.intro hk14 (And.intro hk15 (And.intro hk16 (And.intro hk17 (And.intro hk18 (And.intro hk19 (And.intro hk20 (And.intro hk21 (And.intro hk22 (And.intro hk23 (And.intro hk24 (And.intro hk25 (And.intro hk26 (And.intro hk27 (And.intro hk28 (And.intro hk29 (And.intro hk30 (And.intro hk31 (And.intro hk32 (And.intro hk33 (And.intro hk34 (And.intro hk35 (And.intro hk36 (And.intro hk37 (And.intro hk38 (And.intro hk39 (And.intro hk40 (And.intro hk41 (And.intro hk42 (And.intro hk43 (And.intro hk44 (And.intro hk45 (And.intro hk46 (And.intro hk47 (And.intro hk48 (And.intro hk49 (And.intro hk50 (And.intro hk51 (And.intro hk52 (And.intro hk53 (And.intro hk54 (And.intro hk55 (And.intro hk56 (And.intro hk57 (And.intro hk58 (And.intro hk59 (And.intro hk60 (And.intro hk61 (And.intro hk62 (And.intro hk63 (And.intro hk64 (And.intro hk65 (And.intro hk66 (And.intro hk67 (And.intro hk68 (And.intro hk69 (And.intro hk70 (And.intro hk71 (And.intro hk72 (And.intro hk73 (And.intro hk74 (And.intro hk75 (And.intro hk76 (And.intro hk77 (And.intro hk78 (And.intro hk79 (And.intro hk80 (And.intro hk81 (And.intro hk82 (And.intro hk83 (And.intro hk84 (And.intro hk85 (And.intro hk86 (And.intro hk87 (And.intro hk88 (And.intro hk89 (And.intro hk90 (And.intro hk91 (And.intro hk92 (And.intro hk93 (And.intro hk94 (And.intro hk95 (And.intro hk96 (And.intro hk97 (And.intro hk98 (And.intro hk99 (And.intro hk100 (And.intro hk101 (And.intro hk102 (And.intro hk103 (And.intro hk104 (And.intro hk105 (And.intro hk106 (And.intro hk107 (And.intro hk108 (And.intro hk109 hk110))))))))))))))))))))))))))))))))))))))))))))))))))))))))))))))))))))))))))))))))))))))))))))))))))))))))))))
end Go.Am.Ytmoplhbncjicbaa
