import Derived.Test.YtmoplhbncjicbaaAoT
import Derived.KernelRfl
import Derived.Test.YtmoplhbncjicbaaProg
set_option maxRecDepth 100000
set_option linter.defProp false
namespace Go.Am.Ytmoplhbncjicbaa
open Go Go.Am Go.Proofs
noncomputable def ty0 : TE Try.prog := ⟨0, ⟨Try.t0.desc, 1, 0, .tup []⟩, ⟨⟨Try.t0, _, rfl, rfl, rfl, rfl, rfl⟩, rfl, rfl, Try.underlying0⟩⟩
noncomputable def ty1 : TE Try.prog := ⟨1, ⟨Try.t1.desc, 1, 8, .nilf⟩, ⟨⟨Try.t1, _, rfl, rfl, rfl, rfl, rfl⟩, rfl, rfl, Try.underlying1⟩⟩
noncomputable def ty2 : TE Try.prog := ⟨2, ⟨Try.t2.desc, 1, 8, .int .i64 (0)⟩, ⟨⟨Try.t2, _, rfl, rfl, rfl, rfl, rfl⟩, rfl, rfl, Try.underlying2⟩⟩
noncomputable def ty3 : TE Try.prog := ⟨3, ⟨Try.t3.desc, 1, 8, .int .i64 (0)⟩, ⟨⟨Try.t3, _, rfl, rfl, rfl, rfl, rfl⟩, rfl, rfl, Try.underlying3⟩⟩
noncomputable def ty4 : TE Try.prog := ⟨4, ⟨Try.t4.desc, 1, 1, .bool false⟩, ⟨⟨Try.t4, _, rfl, rfl, rfl, rfl, rfl⟩, rfl, rfl, Try.underlying4⟩⟩
noncomputable def ty5 : TE Try.prog := ⟨5, ⟨Try.t5.desc, 1, 1, .int .u8 (0)⟩, ⟨⟨Try.t5, _, rfl, rfl, rfl, rfl, rfl⟩, rfl, rfl, Try.underlying5⟩⟩
noncomputable def ty6 : TE Try.prog := ⟨6, ⟨Try.t5.desc, 1, 1, .int .u8 (0)⟩, ⟨⟨Try.t6, _, rfl, rfl, rfl, rfl, rfl⟩, rfl, rfl, Try.underlying6⟩⟩
noncomputable def ty7 : TE Try.prog := ⟨7, ⟨Try.t7.desc, 4, 24, .agg [.int .i64 (0), .int .i64 (0), .bool false, .int .u8 (0)]⟩, ⟨⟨Try.t7, _, rfl, rfl, rfl, rfl, rfl⟩, rfl, rfl, Try.underlying7⟩⟩
noncomputable def ty8 : TE Try.prog := ⟨8, ⟨Try.t7.desc, 4, 24, .agg [.int .i64 (0), .int .i64 (0), .bool false, .int .u8 (0)]⟩, ⟨⟨Try.t8, _, rfl, rfl, rfl, rfl, rfl⟩, rfl, rfl, Try.underlying8⟩⟩
noncomputable def ty9 : TE Try.prog := ⟨9, ⟨Try.t9.desc, 1, 16, .str []⟩, ⟨⟨Try.t9, _, rfl, rfl, rfl, rfl, rfl⟩, rfl, rfl, Try.underlying9⟩⟩
noncomputable def ty10 : TE Try.prog := ⟨10, ⟨Try.t9.desc, 1, 16, .str []⟩, ⟨⟨Try.t10, _, rfl, rfl, rfl, rfl, rfl⟩, rfl, rfl, Try.underlying10⟩⟩
noncomputable def ty11 : TE Try.prog := ⟨11, ⟨Try.t9.desc, 1, 16, .str []⟩, ⟨⟨Try.t11, _, rfl, rfl, rfl, rfl, rfl⟩, rfl, rfl, Try.underlying11⟩⟩
noncomputable def ty12 : TE Try.prog := ⟨12, ⟨Try.t12.desc, 1, 8, .int .u64 (0)⟩, ⟨⟨Try.t12, _, rfl, rfl, rfl, rfl, rfl⟩, rfl, rfl, Try.underlying12⟩⟩
noncomputable def ty13 : TE Try.prog := ⟨13, ⟨Try.t13.desc, 2, 24, .agg [.str [], .int .u64 (0)]⟩, ⟨⟨Try.t13, _, rfl, rfl, rfl, rfl, rfl⟩, rfl, rfl, Try.underlying13⟩⟩
noncomputable def ty14 : TE Try.prog := ⟨14, ⟨Try.t13.desc, 2, 24, .agg [.str [], .int .u64 (0)]⟩, ⟨⟨Try.t14, _, rfl, rfl, rfl, rfl, rfl⟩, rfl, rfl, Try.underlying14⟩⟩
noncomputable def ty15 : TE Try.prog := ⟨15, ⟨Try.t15.desc, 1, 8, .nilp⟩, ⟨⟨Try.t15, _, rfl, rfl, rfl, rfl, rfl⟩, rfl, rfl, Try.underlying15⟩⟩
noncomputable def ty16 : TE Try.prog := ⟨16, ⟨Try.t16.desc, 1, 8, .nilp⟩, ⟨⟨Try.t16, _, rfl, rfl, rfl, rfl, rfl⟩, rfl, rfl, Try.underlying16⟩⟩
noncomputable def ty17 : TE Try.prog := ⟨17, ⟨Try.t17.desc, 1, 8, .nilp⟩, ⟨⟨Try.t17, _, rfl, rfl, rfl, rfl, rfl⟩, rfl, rfl, Try.underlying17⟩⟩
noncomputable def ty18 : TE Try.prog := ⟨18, ⟨Try.t18.desc, 1, 8, .agg [.nilp]⟩, ⟨⟨Try.t18, _, rfl, rfl, rfl, rfl, rfl⟩, rfl, rfl, Try.underlying18⟩⟩
noncomputable def ty19 : TE Try.prog := ⟨19, ⟨Try.t18.desc, 1, 8, .agg [.nilp]⟩, ⟨⟨Try.t19, _, rfl, rfl, rfl, rfl, rfl⟩, rfl, rfl, Try.underlying19⟩⟩
noncomputable def ty20 : TE Try.prog := ⟨20, ⟨Try.t20.desc, 1, 16, .nili⟩, ⟨⟨Try.t20, _, rfl, rfl, rfl, rfl, rfl⟩, rfl, rfl, Try.underlying20⟩⟩
noncomputable def ty21 : TE Try.prog := ⟨21, ⟨Try.t21.desc, 1, 4, .int .i32 (0)⟩, ⟨⟨Try.t21, _, rfl, rfl, rfl, rfl, rfl⟩, rfl, rfl, Try.underlying21⟩⟩
noncomputable def ty22 : TE Try.prog := ⟨22, ⟨Try.t22.desc, 1, 24, .nils⟩, ⟨⟨Try.t22, _, rfl, rfl, rfl, rfl, rfl⟩, rfl, rfl, Try.underlying22⟩⟩
noncomputable def ty23 : TE Try.prog := ⟨23, ⟨Try.t23.desc, 1, 8, .nilf⟩, ⟨⟨Try.t23, _, rfl, rfl, rfl, rfl, rfl⟩, rfl, rfl, Try.underlying23⟩⟩
noncomputable def ty24 : TE Try.prog := ⟨24, ⟨Try.t3.desc, 1, 8, .int .i64 (0)⟩, ⟨⟨Try.t24, _, rfl, rfl, rfl, rfl, rfl⟩, rfl, rfl, Try.underlying24⟩⟩
noncomputable def ty25 : TE Try.prog := ⟨25, ⟨Try.t25.desc, 1, 0, .tup [.nils, .int .i64 (0)]⟩, ⟨⟨Try.t25, _, rfl, rfl, rfl, rfl, rfl⟩, rfl, rfl, Try.underlying25⟩⟩
noncomputable def ty26 : TE Try.prog := ⟨26, ⟨Try.t26.desc, 1, 8, .nilf⟩, ⟨⟨Try.t26, _, rfl, rfl, rfl, rfl, rfl⟩, rfl, rfl, Try.underlying26⟩⟩
noncomputable def ty27 : TE Try.prog := ⟨27, ⟨Try.t27.desc, 1, 0, .tup [.int .i64 (0), .int .i64 (0)]⟩, ⟨⟨Try.t27, _, rfl, rfl, rfl, rfl, rfl⟩, rfl, rfl, Try.underlying27⟩⟩
noncomputable def ty28 : TE Try.prog := ⟨28, ⟨Try.t28.desc, 1, 8, .nilf⟩, ⟨⟨Try.t28, _, rfl, rfl, rfl, rfl, rfl⟩, rfl, rfl, Try.underlying28⟩⟩
noncomputable def ty29 : TE Try.prog := ⟨29, ⟨Try.t29.desc, 1, 8, .nilf⟩, ⟨⟨Try.t29, _, rfl, rfl, rfl, rfl, rfl⟩, rfl, rfl, Try.underlying29⟩⟩
noncomputable def ty30 : TE Try.prog := ⟨30, ⟨Try.t30.desc, 1, 8, .nilf⟩, ⟨⟨Try.t30, _, rfl, rfl, rfl, rfl, rfl⟩, rfl, rfl, Try.underlying30⟩⟩
noncomputable def ty31 : TE Try.prog := ⟨31, ⟨Try.t31.desc, 1, 0, .tup [.nils, .int .i64 (0)]⟩, ⟨⟨Try.t31, _, rfl, rfl, rfl, rfl, rfl⟩, rfl, rfl, Try.underlying31⟩⟩
noncomputable def ty32 : TE Try.prog := ⟨32, ⟨Try.t32.desc, 1, 8, .nilf⟩, ⟨⟨Try.t32, _, rfl, rfl, rfl, rfl, rfl⟩, rfl, rfl, Try.underlying32⟩⟩
noncomputable def ty33 : TE Try.prog := ⟨33, ⟨Try.t33.desc, 1, 0, .tup [.int .i64 (0), .int .i64 (0)]⟩, ⟨⟨Try.t33, _, rfl, rfl, rfl, rfl, rfl⟩, rfl, rfl, Try.underlying33⟩⟩
noncomputable def ty34 : TE Try.prog := ⟨34, ⟨Try.t34.desc, 1, 8, .nilf⟩, ⟨⟨Try.t34, _, rfl, rfl, rfl, rfl, rfl⟩, rfl, rfl, Try.underlying34⟩⟩
noncomputable def ty35 : TE Try.prog := ⟨35, ⟨Try.t35.desc, 1, 8, .nilf⟩, ⟨⟨Try.t35, _, rfl, rfl, rfl, rfl, rfl⟩, rfl, rfl, Try.underlying35⟩⟩
noncomputable def ty36 : TE Try.prog := ⟨36, ⟨Try.t36.desc, 1, 8, .nilf⟩, ⟨⟨Try.t36, _, rfl, rfl, rfl, rfl, rfl⟩, rfl, rfl, Try.underlying36⟩⟩
noncomputable def ty37 : TE Try.prog := ⟨37, ⟨Try.t37.desc, 1, 8, .nilf⟩, ⟨⟨Try.t37, _, rfl, rfl, rfl, rfl, rfl⟩, rfl, rfl, Try.underlying37⟩⟩
noncomputable def ty38 : TE Try.prog := ⟨38, ⟨Try.t38.desc, 1, 8, .nilf⟩, ⟨⟨Try.t38, _, rfl, rfl, rfl, rfl, rfl⟩, rfl, rfl, Try.underlying38⟩⟩
noncomputable def ty39 : TE Try.prog := ⟨39, ⟨Try.t39.desc, 1, 8, .nilf⟩, ⟨⟨Try.t39, _, rfl, rfl, rfl, rfl, rfl⟩, rfl, rfl, Try.underlying39⟩⟩
noncomputable def ty40 : TE Try.prog := ⟨40, ⟨Try.t40.desc, 1, 8, .nilf⟩, ⟨⟨Try.t40, _, rfl, rfl, rfl, rfl, rfl⟩, rfl, rfl, Try.underlying40⟩⟩
noncomputable def ty41 : TE Try.prog := ⟨41, ⟨Try.t41.desc, 1, 8, .nilf⟩, ⟨⟨Try.t41, _, rfl, rfl, rfl, rfl, rfl⟩, rfl, rfl, Try.underlying41⟩⟩
noncomputable def ty42 : TE Try.prog := ⟨42, ⟨Try.t42.desc, 1, 8, .nilf⟩, ⟨⟨Try.t42, _, rfl, rfl, rfl, rfl, rfl⟩, rfl, rfl, Try.underlying42⟩⟩
noncomputable def ty43 : TE Try.prog := ⟨43, ⟨Try.t43.desc, 1, 8, .nilf⟩, ⟨⟨Try.t43, _, rfl, rfl, rfl, rfl, rfl⟩, rfl, rfl, Try.underlying43⟩⟩
noncomputable def ty44 : TE Try.prog := ⟨44, ⟨Try.t44.desc, 8, 64, .agg [.int .i64 (0), .int .i64 (0), .int .i64 (0), .int .i64 (0), .int .i64 (0), .int .i64 (0), .int .i64 (0), .int .i64 (0)]⟩, ⟨⟨Try.t44, _, rfl, rfl, rfl, rfl, rfl⟩, rfl, rfl, Try.underlying44⟩⟩
noncomputable def ty45 : TE Try.prog := ⟨45, ⟨Try.t45.desc, 1, 8, .nilf⟩, ⟨⟨Try.t45, _, rfl, rfl, rfl, rfl, rfl⟩, rfl, rfl, Try.underlying45⟩⟩
noncomputable def ty46 : TE Try.prog := ⟨46, ⟨Try.t46.desc, 1, 8, .nilf⟩, ⟨⟨Try.t46, _, rfl, rfl, rfl, rfl, rfl⟩, rfl, rfl, Try.underlying46⟩⟩
noncomputable def ty47 : TE Try.prog := ⟨47, ⟨Try.t47.desc, 1, 8, .nilf⟩, ⟨⟨Try.t47, _, rfl, rfl, rfl, rfl, rfl⟩, rfl, rfl, Try.underlying47⟩⟩
noncomputable def ty48 : TE Try.prog := ⟨48, ⟨Try.t48.desc, 1, 8, .nilf⟩, ⟨⟨Try.t48, _, rfl, rfl, rfl, rfl, rfl⟩, rfl, rfl, Try.underlying48⟩⟩
noncomputable def ty49 : TE Try.prog := ⟨49, ⟨Try.t49.desc, 3, 24, .agg [.int .u8 (0), .int .i64 (0), .int .i64 (0)]⟩, ⟨⟨Try.t49, _, rfl, rfl, rfl, rfl, rfl⟩, rfl, rfl, Try.underlying49⟩⟩
noncomputable def ty50 : TE Try.prog := ⟨50, ⟨Try.t50.desc, 1, 24, .nils⟩, ⟨⟨Try.t50, _, rfl, rfl, rfl, rfl, rfl⟩, rfl, rfl, Try.underlying50⟩⟩
noncomputable def ty51 : TE Try.prog := ⟨51, ⟨Try.t51.desc, 4, 32, .agg [.int .u8 (0), .int .i64 (0), .int .i64 (0), .int .i64 (0)]⟩, ⟨⟨Try.t51, _, rfl, rfl, rfl, rfl, rfl⟩, rfl, rfl, Try.underlying51⟩⟩
noncomputable def ty52 : TE Try.prog := ⟨52, ⟨Try.t52.desc, 1, 24, .nils⟩, ⟨⟨Try.t52, _, rfl, rfl, rfl, rfl, rfl⟩, rfl, rfl, Try.underlying52⟩⟩
noncomputable def ty53 : TE Try.prog := ⟨53, ⟨Try.t53.desc, 1, 24, .nils⟩, ⟨⟨Try.t53, _, rfl, rfl, rfl, rfl, rfl⟩, rfl, rfl, Try.underlying53⟩⟩
noncomputable def ty54 : TE Try.prog := ⟨54, ⟨Try.t54.desc, 1, 8, .nilf⟩, ⟨⟨Try.t54, _, rfl, rfl, rfl, rfl, rfl⟩, rfl, rfl, Try.underlying54⟩⟩
noncomputable def ty55 : TE Try.prog := ⟨55, ⟨Try.t55.desc, 1, 8, .nilp⟩, ⟨⟨Try.t55, _, rfl, rfl, rfl, rfl, rfl⟩, rfl, rfl, Try.underlying55⟩⟩
noncomputable def ty56 : TE Try.prog := ⟨56, ⟨Try.t56.desc, 1, 0, .tup [.nilp, .int .i64 (0)]⟩, ⟨⟨Try.t56, _, rfl, rfl, rfl, rfl, rfl⟩, rfl, rfl, Try.underlying56⟩⟩
noncomputable def ty57 : TE Try.prog := ⟨57, ⟨Try.t57.desc, 1, 8, .nilf⟩, ⟨⟨Try.t57, _, rfl, rfl, rfl, rfl, rfl⟩, rfl, rfl, Try.underlying57⟩⟩
noncomputable def ty58 : TE Try.prog := ⟨58, ⟨Try.t58.desc, 1, 8, .nilf⟩, ⟨⟨Try.t58, _, rfl, rfl, rfl, rfl, rfl⟩, rfl, rfl, Try.underlying58⟩⟩
noncomputable def ty59 : TE Try.prog := ⟨59, ⟨Try.t59.desc, 1, 8, .nilf⟩, ⟨⟨Try.t59, _, rfl, rfl, rfl, rfl, rfl⟩, rfl, rfl, Try.underlying59⟩⟩
noncomputable def ty60 : TE Try.prog := ⟨60, ⟨Try.t60.desc, 1, 8, .nilf⟩, ⟨⟨Try.t60, _, rfl, rfl, rfl, rfl, rfl⟩, rfl, rfl, Try.underlying60⟩⟩
noncomputable def ty61 : TE Try.prog := ⟨61, ⟨Try.t61.desc, 1, 8, .nilf⟩, ⟨⟨Try.t61, _, rfl, rfl, rfl, rfl, rfl⟩, rfl, rfl, Try.underlying61⟩⟩
noncomputable def ty62 : TE Try.prog := ⟨62, ⟨Try.t62.desc, 1, 8, .nilm⟩, ⟨⟨Try.t62, _, rfl, rfl, rfl, rfl, rfl⟩, rfl, rfl, Try.underlying62⟩⟩
noncomputable def ty63 : TE Try.prog := ⟨63, ⟨Try.t63.desc, 1, 8, .nilf⟩, ⟨⟨Try.t63, _, rfl, rfl, rfl, rfl, rfl⟩, rfl, rfl, Try.underlying63⟩⟩
noncomputable def ty64 : TE Try.prog := ⟨64, ⟨Try.t64.desc, 1, 8, .nilf⟩, ⟨⟨Try.t64, _, rfl, rfl, rfl, rfl, rfl⟩, rfl, rfl, Try.underlying64⟩⟩
noncomputable def ty65 : TE Try.prog := ⟨65, ⟨Try.t65.desc, 1, 8, .nilf⟩, ⟨⟨Try.t65, _, rfl, rfl, rfl, rfl, rfl⟩, rfl, rfl, Try.underlying65⟩⟩
noncomputable def ty66 : TE Try.prog := ⟨66, ⟨Try.t66.desc, 1, 8, .nilf⟩, ⟨⟨Try.t66, _, rfl, rfl, rfl, rfl, rfl⟩, rfl, rfl, Try.underlying66⟩⟩
noncomputable def ty67 : TE Try.prog := ⟨67, ⟨Try.t67.desc, 1, 8, .nilf⟩, ⟨⟨Try.t67, _, rfl, rfl, rfl, rfl, rfl⟩, rfl, rfl, Try.underlying67⟩⟩
noncomputable def ty68 : TE Try.prog := ⟨68, ⟨Try.t68.desc, 1, 8, .nilf⟩, ⟨⟨Try.t68, _, rfl, rfl, rfl, rfl, rfl⟩, rfl, rfl, Try.underlying68⟩⟩
noncomputable def ty69 : TE Try.prog := ⟨69, ⟨Try.t69.desc, 1, 8, .nilf⟩, ⟨⟨Try.t69, _, rfl, rfl, rfl, rfl, rfl⟩, rfl, rfl, Try.underlying69⟩⟩
noncomputable def ty70 : TE Try.prog := ⟨70, ⟨Try.t70.desc, 1, 24, .nils⟩, ⟨⟨Try.t70, _, rfl, rfl, rfl, rfl, rfl⟩, rfl, rfl, Try.underlying70⟩⟩
noncomputable def ty71 : TE Try.prog := ⟨71, ⟨Try.t71.desc, 1, 8, .nilp⟩, ⟨⟨Try.t71, _, rfl, rfl, rfl, rfl, rfl⟩, rfl, rfl, Try.underlying71⟩⟩
noncomputable def ty72 : TE Try.prog := ⟨72, ⟨Try.t72.desc, 1, 0, .tup [.nilp, .int .i64 (0)]⟩, ⟨⟨Try.t72, _, rfl, rfl, rfl, rfl, rfl⟩, rfl, rfl, Try.underlying72⟩⟩
noncomputable def ty73 : TE Try.prog := ⟨73, ⟨Try.t73.desc, 1, 8, .nilf⟩, ⟨⟨Try.t73, _, rfl, rfl, rfl, rfl, rfl⟩, rfl, rfl, Try.underlying73⟩⟩
noncomputable def ty74 : TE Try.prog := ⟨74, ⟨Try.t74.desc, 1, 8, .nilf⟩, ⟨⟨Try.t74, _, rfl, rfl, rfl, rfl, rfl⟩, rfl, rfl, Try.underlying74⟩⟩
noncomputable def ty75 : TE Try.prog := ⟨75, ⟨Try.t75.desc, 4, 48, .agg [.int .i64 (0), .int .u8 (0), .nils, .int .i64 (0)]⟩, ⟨⟨Try.t75, _, rfl, rfl, rfl, rfl, rfl⟩, rfl, rfl, Try.underlying75⟩⟩
noncomputable def ty76 : TE Try.prog := ⟨76, ⟨Try.t75.desc, 4, 48, .agg [.int .i64 (0), .int .u8 (0), .nils, .int .i64 (0)]⟩, ⟨⟨Try.t76, _, rfl, rfl, rfl, rfl, rfl⟩, rfl, rfl, Try.underlying76⟩⟩
noncomputable def ty77 : TE Try.prog := ⟨77, ⟨Try.t77.desc, 2, 48, .agg [.nils, .nils]⟩, ⟨⟨Try.t77, _, rfl, rfl, rfl, rfl, rfl⟩, rfl, rfl, Try.underlying77⟩⟩
noncomputable def ty78 : TE Try.prog := ⟨78, ⟨Try.t77.desc, 2, 48, .agg [.nils, .nils]⟩, ⟨⟨Try.t78, _, rfl, rfl, rfl, rfl, rfl⟩, rfl, rfl, Try.underlying78⟩⟩
noncomputable def ty79 : TE Try.prog := ⟨79, ⟨Try.t79.desc, 1, 8, .nilf⟩, ⟨⟨Try.t79, _, rfl, rfl, rfl, rfl, rfl⟩, rfl, rfl, Try.underlying79⟩⟩
noncomputable def ty80 : TE Try.prog := ⟨80, ⟨Try.t80.desc, 1, 8, .nilf⟩, ⟨⟨Try.t80, _, rfl, rfl, rfl, rfl, rfl⟩, rfl, rfl, Try.underlying80⟩⟩
noncomputable def ty81 : TE Try.prog := ⟨81, ⟨Try.t81.desc, 1, 8, .nilf⟩, ⟨⟨Try.t81, _, rfl, rfl, rfl, rfl, rfl⟩, rfl, rfl, Try.underlying81⟩⟩
noncomputable def ty82 : TE Try.prog := ⟨82, ⟨Try.t82.desc, 1, 8, .nilf⟩, ⟨⟨Try.t82, _, rfl, rfl, rfl, rfl, rfl⟩, rfl, rfl, Try.underlying82⟩⟩
noncomputable def ty83 : TE Try.prog := ⟨83, ⟨Try.t83.desc, 1, 8, .nilf⟩, ⟨⟨Try.t83, _, rfl, rfl, rfl, rfl, rfl⟩, rfl, rfl, Try.underlying83⟩⟩
noncomputable def ty84 : TE Try.prog := ⟨84, ⟨Try.t84.desc, 1, 8, .nilf⟩, ⟨⟨Try.t84, _, rfl, rfl, rfl, rfl, rfl⟩, rfl, rfl, Try.underlying84⟩⟩
noncomputable def ty85 : TE Try.prog := ⟨85, ⟨Try.t85.desc, 1, 8, .nilf⟩, ⟨⟨Try.t85, _, rfl, rfl, rfl, rfl, rfl⟩, rfl, rfl, Try.underlying85⟩⟩
noncomputable def ty86 : TE Try.prog := ⟨86, ⟨Try.t86.desc, 1, 8, .nilf⟩, ⟨⟨Try.t86, _, rfl, rfl, rfl, rfl, rfl⟩, rfl, rfl, Try.underlying86⟩⟩
noncomputable def ty87 : TE Try.prog := ⟨87, ⟨Try.t87.desc, 1, 8, .nilf⟩, ⟨⟨Try.t87, _, rfl, rfl, rfl, rfl, rfl⟩, rfl, rfl, Try.underlying87⟩⟩
noncomputable def ty88 : TE Try.prog := ⟨88, ⟨Try.t88.desc, 1, 8, .nilf⟩, ⟨⟨Try.t88, _, rfl, rfl, rfl, rfl, rfl⟩, rfl, rfl, Try.underlying88⟩⟩
noncomputable def ty89 : TE Try.prog := ⟨89, ⟨Try.t2.desc, 1, 8, .int .i64 (0)⟩, ⟨⟨Try.t89, _, rfl, rfl, rfl, rfl, rfl⟩, rfl, rfl, Try.underlying89⟩⟩
noncomputable def ty90 : TE Try.prog := ⟨90, ⟨Try.t90.desc, 1, 8, .nilf⟩, ⟨⟨Try.t90, _, rfl, rfl, rfl, rfl, rfl⟩, rfl, rfl, Try.underlying90⟩⟩
noncomputable def ty91 : TE Try.prog := ⟨91, ⟨Try.t91.desc, 1, 8, .nilf⟩, ⟨⟨Try.t91, _, rfl, rfl, rfl, rfl, rfl⟩, rfl, rfl, Try.underlying91⟩⟩
noncomputable def ty92 : TE Try.prog := ⟨92, ⟨Try.t92.desc, 1, 24, .agg [.nils]⟩, ⟨⟨Try.t92, _, rfl, rfl, rfl, rfl, rfl⟩, rfl, rfl, Try.underlying92⟩⟩
noncomputable def ty93 : TE Try.prog := ⟨93, ⟨Try.t92.desc, 1, 24, .agg [.nils]⟩, ⟨⟨Try.t93, _, rfl, rfl, rfl, rfl, rfl⟩, rfl, rfl, Try.underlying93⟩⟩
noncomputable def ty94 : TE Try.prog := ⟨94, ⟨Try.t94.desc, 2, 48, .agg [.nils, .nils]⟩, ⟨⟨Try.t94, _, rfl, rfl, rfl, rfl, rfl⟩, rfl, rfl, Try.underlying94⟩⟩
noncomputable def ty95 : TE Try.prog := ⟨95, ⟨Try.t94.desc, 2, 48, .agg [.nils, .nils]⟩, ⟨⟨Try.t95, _, rfl, rfl, rfl, rfl, rfl⟩, rfl, rfl, Try.underlying95⟩⟩
noncomputable def ty96 : TE Try.prog := ⟨96, ⟨Try.t96.desc, 1, 8, .nilf⟩, ⟨⟨Try.t96, _, rfl, rfl, rfl, rfl, rfl⟩, rfl, rfl, Try.underlying96⟩⟩
noncomputable def ty97 : TE Try.prog := ⟨97, ⟨Try.t97.desc, 1, 8, .nilf⟩, ⟨⟨Try.t97, _, rfl, rfl, rfl, rfl, rfl⟩, rfl, rfl, Try.underlying97⟩⟩
noncomputable def ty98 : TE Try.prog := ⟨98, ⟨Try.t98.desc, 1, 8, .nilf⟩, ⟨⟨Try.t98, _, rfl, rfl, rfl, rfl, rfl⟩, rfl, rfl, Try.underlying98⟩⟩
noncomputable def ty99 : TE Try.prog := ⟨99, ⟨Try.t99.desc, 1, 8, .nilf⟩, ⟨⟨Try.t99, _, rfl, rfl, rfl, rfl, rfl⟩, rfl, rfl, Try.underlying99⟩⟩
noncomputable def ty100 : TE Try.prog := ⟨100, ⟨Try.t100.desc, 1, 8, .nilf⟩, ⟨⟨Try.t100, _, rfl, rfl, rfl, rfl, rfl⟩, rfl, rfl, Try.underlying100⟩⟩
noncomputable def ty101 : TE Try.prog := ⟨101, ⟨Try.t101.desc, 1, 8, .nilf⟩, ⟨⟨Try.t101, _, rfl, rfl, rfl, rfl, rfl⟩, rfl, rfl, Try.underlying101⟩⟩
noncomputable def ty102 : TE Try.prog := ⟨102, ⟨Try.t102.desc, 1, 8, .nilf⟩, ⟨⟨Try.t102, _, rfl, rfl, rfl, rfl, rfl⟩, rfl, rfl, Try.underlying102⟩⟩
noncomputable def ty103 : TE Try.prog := ⟨103, ⟨Try.t103.desc, 1, 8, .nilf⟩, ⟨⟨Try.t103, _, rfl, rfl, rfl, rfl, rfl⟩, rfl, rfl, Try.underlying103⟩⟩
noncomputable def ty104 : TE Try.prog := ⟨104, ⟨Try.t104.desc, 1, 8, .nilf⟩, ⟨⟨Try.t104, _, rfl, rfl, rfl, rfl, rfl⟩, rfl, rfl, Try.underlying104⟩⟩
noncomputable def ty105 : TE Try.prog := ⟨105, ⟨Try.t105.desc, 1, 0, .tup [.str [], .str []]⟩, ⟨⟨Try.t105, _, rfl, rfl, rfl, rfl, rfl⟩, rfl, rfl, Try.underlying105⟩⟩
noncomputable def ty106 : TE Try.prog := ⟨106, ⟨Try.t106.desc, 1, 8, .nilf⟩, ⟨⟨Try.t106, _, rfl, rfl, rfl, rfl, rfl⟩, rfl, rfl, Try.underlying106⟩⟩
noncomputable def ty107 : TE Try.prog := ⟨107, ⟨Try.t107.desc, 1, 8, .nilf⟩, ⟨⟨Try.t107, _, rfl, rfl, rfl, rfl, rfl⟩, rfl, rfl, Try.underlying107⟩⟩
noncomputable def ty108 : TE Try.prog := ⟨108, ⟨Try.t107.desc, 1, 8, .nilf⟩, ⟨⟨Try.t108, _, rfl, rfl, rfl, rfl, rfl⟩, rfl, rfl, Try.underlying108⟩⟩
noncomputable def ty109 : TE Try.prog := ⟨109, ⟨Try.t109.desc, 1, 8, .nilf⟩, ⟨⟨Try.t109, _, rfl, rfl, rfl, rfl, rfl⟩, rfl, rfl, Try.underlying109⟩⟩
noncomputable def ty110 : TE Try.prog := ⟨110, ⟨Try.t110.desc, 1, 8, .int .u64 (0)⟩, ⟨⟨Try.t110, _, rfl, rfl, rfl, rfl, rfl⟩, rfl, rfl, Try.underlying110⟩⟩
noncomputable def ty111 : TE Try.prog := ⟨111, ⟨Try.t111.desc, 1, 8, .nilf⟩, ⟨⟨Try.t111, _, rfl, rfl, rfl, rfl, rfl⟩, rfl, rfl, Try.underlying111⟩⟩
noncomputable def ty112 : TE Try.prog := ⟨112, ⟨Try.t112.desc, 1, 8, .nilf⟩, ⟨⟨Try.t112, _, rfl, rfl, rfl, rfl, rfl⟩, rfl, rfl, Try.underlying112⟩⟩
noncomputable def ty113 : TE Try.prog := ⟨113, ⟨Try.t113.desc, 1, 8, .nilp⟩, ⟨⟨Try.t113, _, rfl, rfl, rfl, rfl, rfl⟩, rfl, rfl, Try.underlying113⟩⟩
noncomputable def ty114 : TE Try.prog := ⟨114, ⟨Try.t114.desc, 1, 24, .nils⟩, ⟨⟨Try.t114, _, rfl, rfl, rfl, rfl, rfl⟩, rfl, rfl, Try.underlying114⟩⟩
noncomputable def ty115 : TE Try.prog := ⟨115, ⟨Try.t115.desc, 1, 0, .tup [.nils, .bool false]⟩, ⟨⟨Try.t115, _, rfl, rfl, rfl, rfl, rfl⟩, rfl, rfl, Try.underlying115⟩⟩
noncomputable def ty116 : TE Try.prog := ⟨116, ⟨Try.t116.desc, 1, 8, .nilf⟩, ⟨⟨Try.t116, _, rfl, rfl, rfl, rfl, rfl⟩, rfl, rfl, Try.underlying116⟩⟩
noncomputable def ty117 : TE Try.prog := ⟨117, ⟨Try.t117.desc, 1, 8, .nilf⟩, ⟨⟨Try.t117, _, rfl, rfl, rfl, rfl, rfl⟩, rfl, rfl, Try.underlying117⟩⟩
noncomputable def ty118 : TE Try.prog := ⟨118, ⟨Try.t118.desc, 1, 8, .nilf⟩, ⟨⟨Try.t118, _, rfl, rfl, rfl, rfl, rfl⟩, rfl, rfl, Try.underlying118⟩⟩
noncomputable def ty119 : TE Try.prog := ⟨119, ⟨Try.t119.desc, 1, 8, .nilf⟩, ⟨⟨Try.t119, _, rfl, rfl, rfl, rfl, rfl⟩, rfl, rfl, Try.underlying119⟩⟩
noncomputable def ty120 : TE Try.prog := ⟨120, ⟨Try.t119.desc, 1, 8, .nilf⟩, ⟨⟨Try.t120, _, rfl, rfl, rfl, rfl, rfl⟩, rfl, rfl, Try.underlying120⟩⟩
noncomputable def ty121 : TE Try.prog := ⟨121, ⟨Try.t121.desc, 1, 8, .nilf⟩, ⟨⟨Try.t121, _, rfl, rfl, rfl, rfl, rfl⟩, rfl, rfl, Try.underlying121⟩⟩
noncomputable def ty122 : TE Try.prog := ⟨122, ⟨Try.t122.desc, 1, 8, .nilf⟩, ⟨⟨Try.t122, _, rfl, rfl, rfl, rfl, rfl⟩, rfl, rfl, Try.underlying122⟩⟩
noncomputable def ty123 : TE Try.prog := ⟨123, ⟨Try.t123.desc, 1, 8, .nilf⟩, ⟨⟨Try.t123, _, rfl, rfl, rfl, rfl, rfl⟩, rfl, rfl, Try.underlying123⟩⟩
noncomputable def ty124 : TE Try.prog := ⟨124, ⟨Try.t124.desc, 1, 8, .int .u64 (0)⟩, ⟨⟨Try.t124, _, rfl, rfl, rfl, rfl, rfl⟩, rfl, rfl, Try.underlying124⟩⟩
noncomputable def ty125 : TE Try.prog := ⟨125, ⟨Try.t125.desc, 1, 8, .nilf⟩, ⟨⟨Try.t125, _, rfl, rfl, rfl, rfl, rfl⟩, rfl, rfl, Try.underlying125⟩⟩
noncomputable def ty126 : TE Try.prog := ⟨126, ⟨Try.t126.desc, 1, 8, .nilf⟩, ⟨⟨Try.t126, _, rfl, rfl, rfl, rfl, rfl⟩, rfl, rfl, Try.underlying126⟩⟩
noncomputable def ty127 : TE Try.prog := ⟨127, ⟨Try.t127.desc, 1, 8, .nilf⟩, ⟨⟨Try.t127, _, rfl, rfl, rfl, rfl, rfl⟩, rfl, rfl, Try.underlying127⟩⟩
noncomputable def ty128 : TE Try.prog := ⟨128, ⟨Try.t128.desc, 1, 8, .nilf⟩, ⟨⟨Try.t128, _, rfl, rfl, rfl, rfl, rfl⟩, rfl, rfl, Try.underlying128⟩⟩
noncomputable def ty129 : TE Try.prog := ⟨129, ⟨Try.t129.desc, 4, 40, .agg [.nilp, .nilp, .nilp, .str []]⟩, ⟨⟨Try.t129, _, rfl, rfl, rfl, rfl, rfl⟩, rfl, rfl, Try.underlying129⟩⟩
noncomputable def ty130 : TE Try.prog := ⟨130, ⟨Try.t129.desc, 4, 40, .agg [.nilp, .nilp, .nilp, .str []]⟩, ⟨⟨Try.t130, _, rfl, rfl, rfl, rfl, rfl⟩, rfl, rfl, Try.underlying130⟩⟩
noncomputable def ty131 : TE Try.prog := ⟨131, ⟨Try.t131.desc, 0, 0, .agg []⟩, ⟨⟨Try.t131, _, rfl, rfl, rfl, rfl, rfl⟩, rfl, rfl, Try.underlying131⟩⟩
noncomputable def ty132 : TE Try.prog := ⟨132, ⟨Try.t132.desc, 0, 0, .agg []⟩, ⟨⟨Try.t132, _, rfl, rfl, rfl, rfl, rfl⟩, rfl, rfl, Try.underlying132⟩⟩
noncomputable def ty133 : TE Try.prog := ⟨133, ⟨Try.t132.desc, 0, 0, .agg []⟩, ⟨⟨Try.t133, _, rfl, rfl, rfl, rfl, rfl⟩, rfl, rfl, Try.underlying133⟩⟩
noncomputable def ty134 : TE Try.prog := ⟨134, ⟨Try.t134.desc, 1, 4, .int .u32 (0)⟩, ⟨⟨Try.t134, _, rfl, rfl, rfl, rfl, rfl⟩, rfl, rfl, Try.underlying134⟩⟩
noncomputable def ty135 : TE Try.prog := ⟨135, ⟨Try.t5.desc, 1, 1, .int .u8 (0)⟩, ⟨⟨Try.t135, _, rfl, rfl, rfl, rfl, rfl⟩, rfl, rfl, Try.underlying135⟩⟩
noncomputable def ty136 : TE Try.prog := ⟨136, ⟨Try.t5.desc, 1, 1, .int .u8 (0)⟩, ⟨⟨Try.t136, _, rfl, rfl, rfl, rfl, rfl⟩, rfl, rfl, Try.underlying136⟩⟩
noncomputable def ty137 : TE Try.prog := ⟨137, ⟨Try.t137.desc, 1, 8, .nilf⟩, ⟨⟨Try.t137, _, rfl, rfl, rfl, rfl, rfl⟩, rfl, rfl, Try.underlying137⟩⟩
noncomputable def ty138 : TE Try.prog := ⟨138, ⟨Try.t138.desc, 1, 8, .nilp⟩, ⟨⟨Try.t138, _, rfl, rfl, rfl, rfl, rfl⟩, rfl, rfl, Try.underlying138⟩⟩
noncomputable def ty139 : TE Try.prog := ⟨139, ⟨Try.t21.desc, 1, 4, .int .i32 (0)⟩, ⟨⟨Try.t139, _, rfl, rfl, rfl, rfl, rfl⟩, rfl, rfl, Try.underlying139⟩⟩
noncomputable def ty140 : TE Try.prog := ⟨140, ⟨Try.t21.desc, 1, 4, .int .i32 (0)⟩, ⟨⟨Try.t140, _, rfl, rfl, rfl, rfl, rfl⟩, rfl, rfl, Try.underlying140⟩⟩
noncomputable def ty141 : TE Try.prog := ⟨141, ⟨Try.t141.desc, 11, 48, .agg [.int .u64 (0), .int .u64 (0), .int .u32 (0), .int .u8 (0), .int .u8 (0), .int .u8 (0), .int .u8 (0), .nilf, .nilp, .int .i32 (0), .int .i32 (0)]⟩, ⟨⟨Try.t141, _, rfl, rfl, rfl, rfl, rfl⟩, rfl, rfl, Try.underlying141⟩⟩
noncomputable def ty142 : TE Try.prog := ⟨142, ⟨Try.t141.desc, 11, 48, .agg [.int .u64 (0), .int .u64 (0), .int .u32 (0), .int .u8 (0), .int .u8 (0), .int .u8 (0), .int .u8 (0), .nilf, .nilp, .int .i32 (0), .int .i32 (0)]⟩, ⟨⟨Try.t142, _, rfl, rfl, rfl, rfl, rfl⟩, rfl, rfl, Try.underlying142⟩⟩
noncomputable def ty143 : TE Try.prog := ⟨143, ⟨Try.t143.desc, 1, 8, .nilp⟩, ⟨⟨Try.t143, _, rfl, rfl, rfl, rfl, rfl⟩, rfl, rfl, Try.underlying143⟩⟩
noncomputable def fu2 : FE Try.prog := ⟨2, ⟨Try.f2.body.getD .skip, 1, [], some (rle true [0, 1])⟩, ⟨⟨Try.f2, Try.func2, rfl, rfl, rfl⟩, Try.call2⟩⟩
noncomputable def fu3 : FE Try.prog := ⟨3, ⟨Try.f3.body.getD .skip, 114, [.tmp 4], some (rle true [2, 2, 11, 7, 1, 7, 1, 42, 1, 6, 1, 33])⟩, ⟨⟨Try.f3, Try.func3, rfl, rfl, rfl⟩, Try.call3⟩⟩
noncomputable def fu4 : FE Try.prog := ⟨4, ⟨Try.f4.body.getD .skip, 94, [.tmp 6], some (rle true [3, 3, 10, 2, 1, 75])⟩, ⟨⟨Try.f4, Try.func4, rfl, rfl, rfl⟩, Try.call4⟩⟩
noncomputable def fu5 : FE Try.prog := ⟨5, ⟨Try.f5.body.getD .skip, 79, [.tmp 8], some (rle true [4, 4, 9, 62])⟩, ⟨⟨Try.f5, Try.func5, rfl, rfl, rfl⟩, Try.call5⟩⟩
noncomputable def fu6 : FE Try.prog := ⟨6, ⟨Try.f6.body.getD .skip, 129, [.tmp 6], some (rle true [3, 3, 11, 7, 4, 11, 1, 89])⟩, ⟨⟨Try.f6, Try.func6, rfl, rfl, rfl⟩, Try.call6⟩⟩
noncomputable def fu7 : FE Try.prog := ⟨7, ⟨Try.f7.body.getD .skip, 134, [.tmp 4], some (rle true [2, 2, 16, 112, 1, 1])⟩, ⟨⟨Try.f7, Try.func7, rfl, rfl, rfl⟩, Try.call7⟩⟩
noncomputable def fu8 : FE Try.prog := ⟨8, ⟨Try.f8.body.getD .skip, 111, [.tmp 6], some (rle true [3, 3, 8, 13, 1, 14, 1, 31, 1, 36])⟩, ⟨⟨Try.f8, Try.func8, rfl, rfl, rfl⟩, Try.call8⟩⟩
noncomputable def fu9 : FE Try.prog := ⟨9, ⟨Try.f9.body.getD .skip, 271, [.tmp 0], some (rle true [4, 1, 1, 1, 5, 1, 3, 1, 3, 1, 1, 1, 1, 1, 1, 1, 1, 1, 1, 93, 4, 43, 4, 97])⟩, ⟨⟨Try.f9, Try.func9, rfl, rfl, rfl⟩, Try.call9⟩⟩
noncomputable def fu10 : FE Try.prog := ⟨10, ⟨Try.f10.body.getD .skip, 99, [.tmp 4], some (rle true [2, 2, 9, 11, 1, 19, 1, 13, 4, 7, 1, 29])⟩, ⟨⟨Try.f10, Try.func10, rfl, rfl, rfl⟩, Try.call10⟩⟩
noncomputable def fu11 : FE Try.prog := ⟨11, ⟨Try.f11.body.getD .skip, 132, [.tmp 4], some (rle true [2, 2, 5, 1, 8, 16, 1, 7, 1, 7, 4, 24, 1, 4, 1, 17, 1, 1, 1, 1, 1, 23, 1, 2])⟩, ⟨⟨Try.f11, Try.func11, rfl, rfl, rfl⟩, Try.call11⟩⟩
noncomputable def fu12 : FE Try.prog := ⟨12, ⟨Try.f12.body.getD .skip, 155, [.tmp 4], some (rle true [2, 2, 13, 11, 1, 37, 1, 20, 1, 67])⟩, ⟨⟨Try.f12, Try.func12, rfl, rfl, rfl⟩, Try.call12⟩⟩
noncomputable def fu13 : FE Try.prog := ⟨13, ⟨Try.f13.body.getD .skip, 116, [.tmp 4], some (rle true [2, 2, 11, 20, 1, 7, 1, 6, 3, 7, 1, 12, 1, 34, 1, 7])⟩, ⟨⟨Try.f13, Try.func13, rfl, rfl, rfl⟩, Try.call13⟩⟩
noncomputable def fu14 : FE Try.prog := ⟨14, ⟨Try.f14.body.getD .skip, 138, [.tmp 4], some (rle true [2, 2, 10, 2, 1, 19, 1, 1, 1, 1, 3, 8, 1, 44, 1, 1, 3, 5, 3, 29])⟩, ⟨⟨Try.f14, Try.func14, rfl, rfl, rfl⟩, Try.call14⟩⟩
noncomputable def fu15 : FE Try.prog := ⟨15, ⟨Try.f15.body.getD .skip, 338, [.tmp 0], some (rle true [13, 1, 1, 1, 1, 1, 4, 1, 1, 1, 7, 1, 1, 1, 2, 75, 1, 225])⟩, ⟨⟨Try.f15, Try.func15, rfl, rfl, rfl⟩, Try.call15⟩⟩
noncomputable def fu16 : FE Try.prog := ⟨16, ⟨Try.f16.body.getD .skip, 26, [.tmp 0], some (rle true [1, 25])⟩, ⟨⟨Try.f16, Try.func16, rfl, rfl, rfl⟩, Try.call16⟩⟩
noncomputable def fu17 : FE Try.prog := ⟨17, ⟨Try.f17.body.getD .skip, 12, [.tmp 2, .tmp 3], some (rle true [1, 1, 2, 5, 1, 2])⟩, ⟨⟨Try.f17, Try.func17, rfl, rfl, rfl⟩, Try.call17⟩⟩
noncomputable def fu18 : FE Try.prog := ⟨18, ⟨Try.f18.body.getD .skip, 47, [.tmp 2, .tmp 3], some (rle true [1, 1, 6, 2, 5, 12, 1, 17, 1, 1])⟩, ⟨⟨Try.f18, Try.func18, rfl, rfl, rfl⟩, Try.call18⟩⟩
noncomputable def fu19 : FE Try.prog := ⟨19, ⟨Try.f19.body.getD .skip, 26, [.tmp 2], some (rle true [1, 1, 7, 15, 1, 1])⟩, ⟨⟨Try.f19, Try.func19, rfl, rfl, rfl⟩, Try.call19⟩⟩
noncomputable def fu20 : FE Try.prog := ⟨20, ⟨Try.f20.body.getD .skip, 12, [.tmp 2, .tmp 3], some (rle true [1, 1, 2, 5, 1, 2])⟩, ⟨⟨Try.f20, Try.func20, rfl, rfl, rfl⟩, Try.call20⟩⟩
noncomputable def fu21 : FE Try.prog := ⟨21, ⟨Try.f21.body.getD .skip, 51, [.tmp 2, .tmp 3], some (rle true [1, 1, 7, 2, 1, 3, 1, 15, 1, 9, 1, 7, 1, 1])⟩, ⟨⟨Try.f21, Try.func21, rfl, rfl, rfl⟩, Try.call21⟩⟩
noncomputable def fu22 : FE Try.prog := ⟨22, ⟨Try.f22.body.getD .skip, 27, [.tmp 2], some (rle true [1, 1, 2, 3, 1, 13, 1, 4, 1])⟩, ⟨⟨Try.f22, Try.func22, rfl, rfl, rfl⟩, Try.call22⟩⟩
noncomputable def fu23 : FE Try.prog := ⟨23, ⟨Try.f23.body.getD .skip, 6, [.tmp 2], some (rle true [1, 1, 1, 3])⟩, ⟨⟨Try.f23, Try.func23, rfl, rfl, rfl⟩, Try.call23⟩⟩
noncomputable def fu24 : FE Try.prog := ⟨24, ⟨Try.f24.body.getD .skip, 6, [.tmp 2], some (rle true [1, 1, 1, 3])⟩, ⟨⟨Try.f24, Try.func24, rfl, rfl, rfl⟩, Try.call24⟩⟩
noncomputable def fu25 : FE Try.prog := ⟨25, ⟨Try.f25.body.getD .skip, 19, [.tmp 4, .tmp 5], some (rle true [2, 2, 3, 2, 1, 2, 1, 6])⟩, ⟨⟨Try.f25, Try.func25, rfl, rfl, rfl⟩, Try.call25⟩⟩
noncomputable def fu26 : FE Try.prog := ⟨26, ⟨Try.f26.body.getD .skip, 42, [.tmp 4, .tmp 5], some (rle true [2, 2, 3, 2, 1, 3, 3, 3, 1, 3, 1, 3, 1, 2, 1, 3, 1, 7])⟩, ⟨⟨Try.f26, Try.func26, rfl, rfl, rfl⟩, Try.call26⟩⟩
noncomputable def fu27 : FE Try.prog := ⟨27, ⟨Try.f27.body.getD .skip, 27, [.tmp 6, .tmp 7], some (rle true [3, 3, 3, 2, 1, 2, 1, 12])⟩, ⟨⟨Try.f27, Try.func27, rfl, rfl, rfl⟩, Try.call27⟩⟩
noncomputable def fu28 : FE Try.prog := ⟨28, ⟨Try.f28.body.getD .skip, 101, [.tmp 6, .tmp 7], some (rle true [3, 3, 4, 2, 1, 9, 3, 4, 1, 4, 1, 8, 1, 8, 1, 6, 1, 5, 1, 5, 1, 5, 1, 5, 1, 5, 1, 3, 1, 4, 1, 2])⟩, ⟨⟨Try.f28, Try.func28, rfl, rfl, rfl⟩, Try.call28⟩⟩
noncomputable def fu29 : FE Try.prog := ⟨29, ⟨Try.f29.body.getD .skip, 15, [.tmp 6], some (rle true [3, 3, 1, 8])⟩, ⟨⟨Try.f29, Try.func29, rfl, rfl, rfl⟩, Try.call29⟩⟩
noncomputable def fu30 : FE Try.prog := ⟨30, ⟨Try.f30.body.getD .skip, 15, [.tmp 6], some (rle true [3, 3, 1, 8])⟩, ⟨⟨Try.f30, Try.func30, rfl, rfl, rfl⟩, Try.call30⟩⟩
noncomputable def fu31 : FE Try.prog := ⟨31, ⟨Try.f31.body.getD .skip, 14, [.tmp 2], some (rle true [1, 1, 2, 3, 1, 3, 1, 2])⟩, ⟨⟨Try.f31, Try.func31, rfl, rfl, rfl⟩, Try.call31⟩⟩
noncomputable def fu32 : FE Try.prog := ⟨32, ⟨Try.f32.body.getD .skip, 27, [.tmp 2], some (rle true [1, 1, 3, 6, 1, 13, 1, 1])⟩, ⟨⟨Try.f32, Try.func32, rfl, rfl, rfl⟩, Try.call32⟩⟩
noncomputable def fu33 : FE Try.prog := ⟨33, ⟨Try.f33.body.getD .skip, 26, [.tmp 4], some (rle true [2, 2, 3, 19])⟩, ⟨⟨Try.f33, Try.func33, rfl, rfl, rfl⟩, Try.call33⟩⟩
noncomputable def fu34 : FE Try.prog := ⟨34, ⟨Try.f34.body.getD .skip, 37, [.tmp 4], some (rle true [2, 2, 5, 28])⟩, ⟨⟨Try.f34, Try.func34, rfl, rfl, rfl⟩, Try.call34⟩⟩
noncomputable def fu35 : FE Try.prog := ⟨35, ⟨Try.f35.body.getD .skip, 11, [.tmp 0], some (rle true [1, 10])⟩, ⟨⟨Try.f35, Try.func35, rfl, rfl, rfl⟩, Try.call35⟩⟩
noncomputable def fu36 : FE Try.prog := ⟨36, ⟨Try.f36.body.getD .skip, 40, [.tmp 4], some (rle true [2, 2, 3, 1, 3, 6, 1, 2, 3, 7, 1, 9])⟩, ⟨⟨Try.f36, Try.func36, rfl, rfl, rfl⟩, Try.call36⟩⟩
noncomputable def fu37 : FE Try.prog := ⟨37, ⟨Try.f37.body.getD .skip, 30, [.tmp 2, .tmp 3], some (rle true [1, 1, 3, 1, 1, 2, 4, 4, 1, 10, 1, 1])⟩, ⟨⟨Try.f37, Try.func37, rfl, rfl, rfl⟩, Try.call37⟩⟩
noncomputable def fu38 : FE Try.prog := ⟨38, ⟨Try.f38.body.getD .skip, 52, [.tmp 4], some (rle true [2, 2, 4, 2, 1, 3, 1, 27, 1, 3, 1, 5])⟩, ⟨⟨Try.f38, Try.func38, rfl, rfl, rfl⟩, Try.call38⟩⟩
noncomputable def fu39 : FE Try.prog := ⟨39, ⟨Try.f39.body.getD .skip, 28, [.tmp 4], some (rle true [2, 2, 2, 4, 1, 3, 1, 12, 1])⟩, ⟨⟨Try.f39, Try.func39, rfl, rfl, rfl⟩, Try.call39⟩⟩
noncomputable def fu40 : FE Try.prog := ⟨40, ⟨Try.f40.body.getD .skip, 11, [.tmp 2], some (rle true [1, 1, 1, 1, 1, 6])⟩, ⟨⟨Try.f40, Try.func40, rfl, rfl, rfl⟩, Try.call40⟩⟩
noncomputable def fu41 : FE Try.prog := ⟨41, ⟨Try.f41.body.getD .skip, 11, [.tmp 2], some (rle true [1, 1, 1, 1, 1, 6])⟩, ⟨⟨Try.f41, Try.func41, rfl, rfl, rfl⟩, Try.call41⟩⟩
noncomputable def fu42 : FE Try.prog := ⟨42, ⟨Try.f42.body.getD .skip, 9, [.tmp 2], some (rle true [1, 1, 1, 1, 1, 4])⟩, ⟨⟨Try.f42, Try.func42, rfl, rfl, rfl⟩, Try.call42⟩⟩
noncomputable def fu43 : FE Try.prog := ⟨43, ⟨Try.f43.body.getD .skip, 26, [.tmp 4, .tmp 5], some (rle true [2, 2, 3, 2, 1, 16])⟩, ⟨⟨Try.f43, Try.func43, rfl, rfl, rfl⟩, Try.call43⟩⟩
noncomputable def fu44 : FE Try.prog := ⟨44, ⟨Try.f44.body.getD .skip, 6, [.tmp 2], some (rle true [1, 1, 1, 3])⟩, ⟨⟨Try.f44, Try.func44, rfl, rfl, rfl⟩, Try.call44⟩⟩
noncomputable def fu45 : FE Try.prog := ⟨45, ⟨Try.f45.body.getD .skip, 23, [.tmp 4], some (rle true [2, 2, 2, 2, 1, 3, 1, 10])⟩, ⟨⟨Try.f45, Try.func45, rfl, rfl, rfl⟩, Try.call45⟩⟩
noncomputable def fu46 : FE Try.prog := ⟨46, ⟨Try.f46.body.getD .skip, 19, [.tmp 2, .tmp 3], some (rle true [1, 1, 4, 6, 1, 6])⟩, ⟨⟨Try.f46, Try.func46, rfl, rfl, rfl⟩, Try.call46⟩⟩
noncomputable def fu47 : FE Try.prog := ⟨47, ⟨Try.f47.body.getD .skip, 38, [.tmp 2, .tmp 3], some (rle true [1, 1, 4, 5, 1, 7, 1, 16, 1, 1])⟩, ⟨⟨Try.f47, Try.func47, rfl, rfl, rfl⟩, Try.call47⟩⟩
noncomputable def fu48 : FE Try.prog := ⟨48, ⟨Try.f48.body.getD .skip, 153, [.tmp 6], some (rle true [3, 2, 19, 1, 2, 10, 1, 22, 3, 9, 1, 21, 1, 26, 3, 9, 1, 19])⟩, ⟨⟨Try.f48, Try.func48, rfl, rfl, rfl⟩, Try.call48⟩⟩
noncomputable def fu49 : FE Try.prog := ⟨49, ⟨Try.f49.body.getD .skip, 40, [.tmp 2], some (rle true [1, 1, 2, 36])⟩, ⟨⟨Try.f49, Try.func49, rfl, rfl, rfl⟩, Try.call49⟩⟩
noncomputable def fu50 : FE Try.prog := ⟨50, ⟨Try.f50.body.getD .skip, 27, [.tmp 6], some (rle true [3, 3, 2, 1, 1, 2, 4, 5, 1, 5])⟩, ⟨⟨Try.f50, Try.func50, rfl, rfl, rfl⟩, Try.call50⟩⟩
noncomputable def fu51 : FE Try.prog := ⟨51, ⟨Try.f51.body.getD .skip, 29, [.tmp 2], some (rle true [1, 1, 5, 1, 3, 16, 1, 1])⟩, ⟨⟨Try.f51, Try.func51, rfl, rfl, rfl⟩, Try.call51⟩⟩
noncomputable def fu52 : FE Try.prog := ⟨52, ⟨Try.f52.body.getD .skip, 19, [.tmp 2], some (rle true [1, 1, 2, 1, 1, 1, 4, 8])⟩, ⟨⟨Try.f52, Try.func52, rfl, rfl, rfl⟩, Try.call52⟩⟩
noncomputable def fu53 : FE Try.prog := ⟨53, ⟨Try.f53.body.getD .skip, 28, [.tmp 2, .tmp 3], some (rle true [1, 1, 5, 6, 1, 7, 1, 6])⟩, ⟨⟨Try.f53, Try.func53, rfl, rfl, rfl⟩, Try.call53⟩⟩
noncomputable def fu54 : FE Try.prog := ⟨54, ⟨Try.f54.body.getD .skip, 35, [.tmp 2], some (rle true [1, 1, 5, 1, 1, 2, 3, 1, 1, 6, 1, 12])⟩, ⟨⟨Try.f54, Try.func54, rfl, rfl, rfl⟩, Try.call54⟩⟩
noncomputable def fu55 : FE Try.prog := ⟨55, ⟨Try.f55.body.getD .skip, 10, [.tmp 4], some (rle true [2, 2, 1, 5])⟩, ⟨⟨Try.f55, Try.func55, rfl, rfl, rfl⟩, Try.call55⟩⟩
noncomputable def fu56 : FE Try.prog := ⟨56, ⟨Try.f56.body.getD .skip, 47, [.tmp 2], some (rle true [1, 1, 4, 2, 1, 3, 1, 10, 1, 7, 1, 5, 1, 9])⟩, ⟨⟨Try.f56, Try.func56, rfl, rfl, rfl⟩, Try.call56⟩⟩
noncomputable def fu57 : FE Try.prog := ⟨57, ⟨Try.f57.body.getD .skip, 4, [.tmp 2], some (rle true [1, 1, 2])⟩, ⟨⟨Try.f57, Try.func57, rfl, rfl, rfl⟩, Try.call57⟩⟩
noncomputable def fu58 : FE Try.prog := ⟨58, ⟨Try.f58.body.getD .skip, 4, [.tmp 2], some (rle true [1, 1, 2])⟩, ⟨⟨Try.f58, Try.func58, rfl, rfl, rfl⟩, Try.call58⟩⟩
noncomputable def fu59 : FE Try.prog := ⟨59, ⟨Try.f59.body.getD .skip, 16, [.tmp 2], some (rle true [1, 1, 3, 1, 1, 1, 1, 1, 1, 1, 1, 1, 1, 1])⟩, ⟨⟨Try.f59, Try.func59, rfl, rfl, rfl⟩, Try.call59⟩⟩
noncomputable def fu60 : FE Try.prog := ⟨60, ⟨Try.f60.body.getD .skip, 9, [.tmp 2], some (rle true [1, 1, 1, 6])⟩, ⟨⟨Try.f60, Try.func60, rfl, rfl, rfl⟩, Try.call60⟩⟩
noncomputable def fu61 : FE Try.prog := ⟨61, ⟨Try.f61.body.getD .skip, 9, [.tmp 2], some (rle true [1, 1, 1, 6])⟩, ⟨⟨Try.f61, Try.func61, rfl, rfl, rfl⟩, Try.call61⟩⟩
noncomputable def fu62 : FE Try.prog := ⟨62, ⟨Try.f62.body.getD .skip, 29, [.tmp 2], some (rle true [1, 1, 3, 1, 1, 1, 1, 1, 1, 1, 1, 2, 1, 1, 1, 1, 1, 1, 1, 1, 1, 1, 1, 1, 1, 1])⟩, ⟨⟨Try.f62, Try.func62, rfl, rfl, rfl⟩, Try.call62⟩⟩
noncomputable def fu63 : FE Try.prog := ⟨63, ⟨Try.f63.body.getD .skip, 13, [], some (rle true [2, 11])⟩, ⟨⟨Try.f63, Try.func63, rfl, rfl, rfl⟩, Try.call63⟩⟩
noncomputable def fu64 : FE Try.prog := ⟨64, ⟨Try.f64.body.getD .skip, 8, [.tmp 2], some (rle true [1, 1, 1, 1, 1, 3])⟩, ⟨⟨Try.f64, Try.func64, rfl, rfl, rfl⟩, Try.call64⟩⟩
noncomputable def fu65 : FE Try.prog := ⟨65, ⟨Try.f65.body.getD .skip, 12, [.tmp 2], some (rle true [1, 1, 1, 9])⟩, ⟨⟨Try.f65, Try.func65, rfl, rfl, rfl⟩, Try.call65⟩⟩
noncomputable def fu66 : FE Try.prog := ⟨66, ⟨Try.f66.body.getD .skip, 8, [.tmp 2], some (rle true [1, 1, 1, 5])⟩, ⟨⟨Try.f66, Try.func66, rfl, rfl, rfl⟩, Try.call66⟩⟩
noncomputable def fu67 : FE Try.prog := ⟨67, ⟨Try.f67.body.getD .skip, 30, [.tmp 2], some (rle true [1, 1, 3, 2, 1, 7, 1, 6, 1, 2, 1, 2, 1, 1])⟩, ⟨⟨Try.f67, Try.func67, rfl, rfl, rfl⟩, Try.call67⟩⟩
noncomputable def fu68 : FE Try.prog := ⟨68, ⟨Try.f68.body.getD .skip, 8, [.tmp 2], some (rle true [1, 1, 1, 1, 1, 3])⟩, ⟨⟨Try.f68, Try.func68, rfl, rfl, rfl⟩, Try.call68⟩⟩
noncomputable def fu69 : FE Try.prog := ⟨69, ⟨Try.f69.body.getD .skip, 101, [.tmp 4], some (rle true [2, 2, 4, 1, 1, 5, 1, 6, 4, 12, 1, 4, 1, 9, 1, 5, 1, 8, 1, 5, 1, 9, 1, 7, 1, 8])⟩, ⟨⟨Try.f69, Try.func69, rfl, rfl, rfl⟩, Try.call69⟩⟩
noncomputable def fu70 : FE Try.prog := ⟨70, ⟨Try.f70.body.getD .skip, 19, [.tmp 2], some (rle true [1, 1, 2, 1, 5, 9])⟩, ⟨⟨Try.f70, Try.func70, rfl, rfl, rfl⟩, Try.call70⟩⟩
noncomputable def fu71 : FE Try.prog := ⟨71, ⟨Try.f71.body.getD .skip, 17, [.tmp 4], some (rle true [2, 1, 5, 1, 3, 2, 1, 2])⟩, ⟨⟨Try.f71, Try.func71, rfl, rfl, rfl⟩, Try.call71⟩⟩
noncomputable def fu72 : FE Try.prog := ⟨72, ⟨Try.f72.body.getD .skip, 32, [.tmp 4], some (rle true [2, 2, 3, 25])⟩, ⟨⟨Try.f72, Try.func72, rfl, rfl, rfl⟩, Try.call72⟩⟩
noncomputable def fu73 : FE Try.prog := ⟨73, ⟨Try.f73.body.getD .skip, 7, [.tmp 2], some (rle true [1, 1, 2, 3])⟩, ⟨⟨Try.f73, Try.func73, rfl, rfl, rfl⟩, Try.call73⟩⟩
noncomputable def fu74 : FE Try.prog := ⟨74, ⟨Try.f74.body.getD .skip, 47, [.tmp 4], some (rle true [2, 2, 4, 3, 1, 7, 1, 12, 1, 14])⟩, ⟨⟨Try.f74, Try.func74, rfl, rfl, rfl⟩, Try.call74⟩⟩
noncomputable def fu75 : FE Try.prog := ⟨75, ⟨Try.f75.body.getD .skip, 31, [.tmp 4], some (rle true [2, 2, 1, 2, 1, 11, 1, 11])⟩, ⟨⟨Try.f75, Try.func75, rfl, rfl, rfl⟩, Try.call75⟩⟩
noncomputable def fu76 : FE Try.prog := ⟨76, ⟨Try.f76.body.getD .skip, 29, [.tmp 2, .tmp 3], some (rle true [1, 1, 4, 6, 1, 16])⟩, ⟨⟨Try.f76, Try.func76, rfl, rfl, rfl⟩, Try.call76⟩⟩
noncomputable def fu77 : FE Try.prog := ⟨77, ⟨Try.f77.body.getD .skip, 32, [.tmp 4, .tmp 5], some (rle true [2, 2, 2, 10, 1, 15])⟩, ⟨⟨Try.f77, Try.func77, rfl, rfl, rfl⟩, Try.call77⟩⟩
noncomputable def fu78 : FE Try.prog := ⟨78, ⟨Try.f78.body.getD .skip, 39, [.tmp 2, .tmp 3], some (rle true [1, 1, 6, 6, 1, 7, 1, 16])⟩, ⟨⟨Try.f78, Try.func78, rfl, rfl, rfl⟩, Try.call78⟩⟩
noncomputable def fu79 : FE Try.prog := ⟨79, ⟨Try.f79.body.getD .skip, 31, [.tmp 2, .tmp 3], some (rle true [1, 1, 4, 1, 1, 1, 1, 1, 1, 1, 1, 1, 1, 1, 1, 1, 1, 1, 1, 1, 1, 1, 1, 1, 1, 1, 1, 1])⟩, ⟨⟨Try.f79, Try.func79, rfl, rfl, rfl⟩, Try.call79⟩⟩
noncomputable def fu80 : FE Try.prog := ⟨80, ⟨Try.f80.body.getD .skip, 4, [.tmp 2], some (rle true [3, 1])⟩, ⟨⟨Try.f80, Try.func80, rfl, rfl, rfl⟩, Try.call80⟩⟩
noncomputable def fu81 : FE Try.prog := ⟨81, ⟨Try.f81.body.getD .skip, 10, [.tmp 2], some (rle true [1, 1, 1, 1, 1, 5])⟩, ⟨⟨Try.f81, Try.func81, rfl, rfl, rfl⟩, Try.call81⟩⟩
noncomputable def fu82 : FE Try.prog := ⟨82, ⟨Try.f82.body.getD .skip, 5, [.tmp 2], some (rle true [1, 1, 1, 2])⟩, ⟨⟨Try.f82, Try.func82, rfl, rfl, rfl⟩, Try.call82⟩⟩
noncomputable def fu83 : FE Try.prog := ⟨83, ⟨Try.f83.body.getD .skip, 5, [.tmp 2], some (rle true [1, 1, 1, 2])⟩, ⟨⟨Try.f83, Try.func83, rfl, rfl, rfl⟩, Try.call83⟩⟩
noncomputable def fu84 : FE Try.prog := ⟨84, ⟨Try.f84.body.getD .skip, 5, [.tmp 2], some (rle true [1, 1, 1, 2])⟩, ⟨⟨Try.f84, Try.func84, rfl, rfl, rfl⟩, Try.call84⟩⟩
noncomputable def fu85 : FE Try.prog := ⟨85, ⟨Try.f85.body.getD .skip, 6, [.tmp 2], some (rle true [1, 1, 1, 3])⟩, ⟨⟨Try.f85, Try.func85, rfl, rfl, rfl⟩, Try.call85⟩⟩
noncomputable def fu86 : FE Try.prog := ⟨86, ⟨Try.f86.body.getD .skip, 6, [.tmp 2], some (rle true [1, 1, 1, 3])⟩, ⟨⟨Try.f86, Try.func86, rfl, rfl, rfl⟩, Try.call86⟩⟩
noncomputable def fu87 : FE Try.prog := ⟨87, ⟨Try.f87.body.getD .skip, 6, [.tmp 2], some (rle true [1, 1, 1, 3])⟩, ⟨⟨Try.f87, Try.func87, rfl, rfl, rfl⟩, Try.call87⟩⟩
noncomputable def fu88 : FE Try.prog := ⟨88, ⟨Try.f88.body.getD .skip, 8, [.tmp 4], some (rle true [2, 2, 1, 3])⟩, ⟨⟨Try.f88, Try.func88, rfl, rfl, rfl⟩, Try.call88⟩⟩
noncomputable def fu89 : FE Try.prog := ⟨89, ⟨Try.f89.body.getD .skip, 8, [.tmp 4], some (rle true [2, 2, 1, 3])⟩, ⟨⟨Try.f89, Try.func89, rfl, rfl, rfl⟩, Try.call89⟩⟩
noncomputable def fu90 : FE Try.prog := ⟨90, ⟨Try.f90.body.getD .skip, 10, [.tmp 4], some (rle true [2, 2, 1, 5])⟩, ⟨⟨Try.f90, Try.func90, rfl, rfl, rfl⟩, Try.call90⟩⟩
noncomputable def fu91 : FE Try.prog := ⟨91, ⟨Try.f91.body.getD .skip, 10, [.tmp 4], some (rle true [2, 2, 1, 5])⟩, ⟨⟨Try.f91, Try.func91, rfl, rfl, rfl⟩, Try.call91⟩⟩
noncomputable def fu92 : FE Try.prog := ⟨92, ⟨Try.f92.body.getD .skip, 9, [.tmp 4], some (rle true [2, 2, 1, 4])⟩, ⟨⟨Try.f92, Try.func92, rfl, rfl, rfl⟩, Try.call92⟩⟩
noncomputable def fu93 : FE Try.prog := ⟨93, ⟨Try.f93.body.getD .skip, 9, [.tmp 4], some (rle true [2, 2, 1, 4])⟩, ⟨⟨Try.f93, Try.func93, rfl, rfl, rfl⟩, Try.call93⟩⟩
noncomputable def fu94 : FE Try.prog := ⟨94, ⟨Try.f94.body.getD .skip, 9, [.tmp 4], some (rle true [2, 2, 1, 4])⟩, ⟨⟨Try.f94, Try.func94, rfl, rfl, rfl⟩, Try.call94⟩⟩
noncomputable def fu95 : FE Try.prog := ⟨95, ⟨Try.f95.body.getD .skip, 9, [.tmp 4], some (rle true [2, 2, 1, 4])⟩, ⟨⟨Try.f95, Try.func95, rfl, rfl, rfl⟩, Try.call95⟩⟩
noncomputable def fu96 : FE Try.prog := ⟨96, ⟨Try.f96.body.getD .skip, 9, [.tmp 4], some (rle true [2, 2, 1, 4])⟩, ⟨⟨Try.f96, Try.func96, rfl, rfl, rfl⟩, Try.call96⟩⟩
noncomputable def fu97 : FE Try.prog := ⟨97, ⟨Try.f97.body.getD .skip, 9, [.tmp 4], some (rle true [2, 2, 1, 4])⟩, ⟨⟨Try.f97, Try.func97, rfl, rfl, rfl⟩, Try.call97⟩⟩
noncomputable def fu98 : FE Try.prog := ⟨98, ⟨Try.f98.body.getD .skip, 8, [.tmp 4], some (rle true [2, 2, 1, 3])⟩, ⟨⟨Try.f98, Try.func98, rfl, rfl, rfl⟩, Try.call98⟩⟩
noncomputable def fu99 : FE Try.prog := ⟨99, ⟨Try.f99.body.getD .skip, 8, [.tmp 4], some (rle true [2, 2, 1, 3])⟩, ⟨⟨Try.f99, Try.func99, rfl, rfl, rfl⟩, Try.call99⟩⟩
noncomputable def fu100 : FE Try.prog := ⟨100, ⟨Try.f100.body.getD .skip, 41, [.tmp 2, .tmp 3], some (rle true [1, 1, 4, 2, 1, 2, 1, 2, 1, 2, 1, 2, 1, 2, 1, 2, 1, 2, 1, 2, 1, 2, 1, 2, 1, 2])⟩, ⟨⟨Try.f100, Try.func100, rfl, rfl, rfl⟩, Try.call100⟩⟩
noncomputable def fu101 : FE Try.prog := ⟨101, ⟨Try.f101.body.getD .skip, 17, [], some (rle true [2, 2, 1, 12])⟩, ⟨⟨Try.f101, Try.func101, rfl, rfl, rfl⟩, Try.call101⟩⟩
noncomputable def fu102 : FE Try.prog := ⟨102, ⟨Try.f102.body.getD .skip, 60, [.tmp 4], some (rle true [2, 2, 5, 6, 1, 10, 1, 5, 1, 27])⟩, ⟨⟨Try.f102, Try.func102, rfl, rfl, rfl⟩, Try.call102⟩⟩
noncomputable def fu103 : FE Try.prog := ⟨103, ⟨Try.f103.body.getD .skip, 4, [.tmp 2], some (rle true [3, 1])⟩, ⟨⟨Try.f103, Try.func103, rfl, rfl, rfl⟩, Try.call103⟩⟩
noncomputable def fu104 : FE Try.prog := ⟨104, ⟨Try.f104.body.getD .skip, 275, [.tmp 4, .tmp 5], some (rle true [2, 2, 13, 23, 1, 3, 1, 25, 1, 21, 1, 13, 1, 5, 1, 37, 1, 8, 1, 6, 1, 11, 1, 16, 1, 28, 1, 21, 1, 2, 1, 10, 1, 14])⟩, ⟨⟨Try.f104, Try.func104, rfl, rfl, rfl⟩, Try.call104⟩⟩
noncomputable def fu105 : FE Try.prog := ⟨105, ⟨Try.f105.body.getD .skip, 16, [], some (rle true [2, 1, 1, 1, 1, 9, 1])⟩, ⟨⟨Try.f105, Try.func105, rfl, rfl, rfl⟩, Try.call105⟩⟩
noncomputable def fu106 : FE Try.prog := ⟨106, ⟨Try.f106.body.getD .skip, 33, [.tmp 6], some (rle true [3, 3, 2, 8, 1, 16])⟩, ⟨⟨Try.f106, Try.func106, rfl, rfl, rfl⟩, Try.call106⟩⟩
noncomputable def fu107 : FE Try.prog := ⟨107, ⟨Try.f107.body.getD .skip, 24, [], some (rle true [5, 4, 3, 11, 1])⟩, ⟨⟨Try.f107, Try.func107, rfl, rfl, rfl⟩, Try.call107⟩⟩
noncomputable def fu108 : FE Try.prog := ⟨108, ⟨Try.f108.body.getD .skip, 4, [.tmp 2], some (rle true [3, 1])⟩, ⟨⟨Try.f108, Try.func108, rfl, rfl, rfl⟩, Try.call108⟩⟩
noncomputable def fu109 : FE Try.prog := ⟨109, ⟨Try.f109.body.getD .skip, 7, [.tmp 2], some (rle true [1, 1, 2, 3])⟩, ⟨⟨Try.f109, Try.func109, rfl, rfl, rfl⟩, Try.call109⟩⟩
noncomputable def fu110 : FE Try.prog := ⟨110, ⟨Try.f110.body.getD .skip, 19, [], some (rle true [2, 1, 1, 4, 1, 9, 1])⟩, ⟨⟨Try.f110, Try.func110, rfl, rfl, rfl⟩, Try.call110⟩⟩
noncomputable def eqs : List (QE Try.prog) := []
noncomputable def env : Env := { P := Try.prog, mixed := by kernel_rfl, types := (.node 72 (.node 36 (.node 18 (.node 9 (.node 4 (.node 2 (.node 1 (.leaf ty0) (.leaf ty1)) (.node 3 (.leaf ty2) (.leaf ty3))) (.node 6 (.node 5 (.leaf ty4) (.leaf ty5)) (.node 7 (.leaf ty6) (.node 8 (.leaf ty7) (.leaf ty8))))) (.node 13 (.node 11 (.node 10 (.leaf ty9) (.leaf ty10)) (.node 12 (.leaf ty11) (.leaf ty12))) (.node 15 (.node 14 (.leaf ty13) (.leaf ty14)) (.node 16 (.leaf ty15) (.node 17 (.leaf ty16) (.leaf ty17)))))) (.node 27 (.node 22 (.node 20 (.node 19 (.leaf ty18) (.leaf ty19)) (.node 21 (.leaf ty20) (.leaf ty21))) (.node 24 (.node 23 (.leaf ty22) (.leaf ty23)) (.node 25 (.leaf ty24) (.node 26 (.leaf ty25) (.leaf ty26))))) (.node 31 (.node 29 (.node 28 (.leaf ty27) (.leaf ty28)) (.node 30 (.leaf ty29) (.leaf ty30))) (.node 33 (.node 32 (.leaf ty31) (.leaf ty32)) (.node 34 (.leaf ty33) (.node 35 (.leaf ty34) (.leaf ty35))))))) (.node 54 (.node 45 (.node 40 (.node 38 (.node 37 (.leaf ty36) (.leaf ty37)) (.node 39 (.leaf ty38) (.leaf ty39))) (.node 42 (.node 41 (.leaf ty40) (.leaf ty41)) (.node 43 (.leaf ty42) (.node 44 (.leaf ty43) (.leaf ty44))))) (.node 49 (.node 47 (.node 46 (.leaf ty45) (.leaf ty46)) (.node 48 (.leaf ty47) (.leaf ty48))) (.node 51 (.node 50 (.leaf ty49) (.leaf ty50)) (.node 52 (.leaf ty51) (.node 53 (.leaf ty52) (.leaf ty53)))))) (.node 63 (.node 58 (.node 56 (.node 55 (.leaf ty54) (.leaf ty55)) (.node 57 (.leaf ty56) (.leaf ty57))) (.node 60 (.node 59 (.leaf ty58) (.leaf ty59)) (.node 61 (.leaf ty60) (.node 62 (.leaf ty61) (.leaf ty62))))) (.node 67 (.node 65 (.node 64 (.leaf ty63) (.leaf ty64)) (.node 66 (.leaf ty65) (.leaf ty66))) (.node 69 (.node 68 (.leaf ty67) (.leaf ty68)) (.node 70 (.leaf ty69) (.node 71 (.leaf ty70) (.leaf ty71)))))))) (.node 108 (.node 90 (.node 81 (.node 76 (.node 74 (.node 73 (.leaf ty72) (.leaf ty73)) (.node 75 (.leaf ty74) (.leaf ty75))) (.node 78 (.node 77 (.leaf ty76) (.leaf ty77)) (.node 79 (.leaf ty78) (.node 80 (.leaf ty79) (.leaf ty80))))) (.node 85 (.node 83 (.node 82 (.leaf ty81) (.leaf ty82)) (.node 84 (.leaf ty83) (.leaf ty84))) (.node 87 (.node 86 (.leaf ty85) (.leaf ty86)) (.node 88 (.leaf ty87) (.node 89 (.leaf ty88) (.leaf ty89)))))) (.node 99 (.node 94 (.node 92 (.node 91 (.leaf ty90) (.leaf ty91)) (.node 93 (.leaf ty92) (.leaf ty93))) (.node 96 (.node 95 (.leaf ty94) (.leaf ty95)) (.node 97 (.leaf ty96) (.node 98 (.leaf ty97) (.leaf ty98))))) (.node 103 (.node 101 (.node 100 (.leaf ty99) (.leaf ty100)) (.node 102 (.leaf ty101) (.leaf ty102))) (.node 105 (.node 104 (.leaf ty103) (.leaf ty104)) (.node 106 (.leaf ty105) (.node 107 (.leaf ty106) (.leaf ty107))))))) (.node 126 (.node 117 (.node 112 (.node 110 (.node 109 (.leaf ty108) (.leaf ty109)) (.node 111 (.leaf ty110) (.leaf ty111))) (.node 114 (.node 113 (.leaf ty112) (.leaf ty113)) (.node 115 (.leaf ty114) (.node 116 (.leaf ty115) (.leaf ty116))))) (.node 121 (.node 119 (.node 118 (.leaf ty117) (.leaf ty118)) (.node 120 (.leaf ty119) (.leaf ty120))) (.node 123 (.node 122 (.leaf ty121) (.leaf ty122)) (.node 124 (.leaf ty123) (.node 125 (.leaf ty124) (.leaf ty125)))))) (.node 135 (.node 130 (.node 128 (.node 127 (.leaf ty126) (.leaf ty127)) (.node 129 (.leaf ty128) (.leaf ty129))) (.node 132 (.node 131 (.leaf ty130) (.leaf ty131)) (.node 133 (.leaf ty132) (.node 134 (.leaf ty133) (.leaf ty134))))) (.node 139 (.node 137 (.node 136 (.leaf ty135) (.leaf ty136)) (.node 138 (.leaf ty137) (.leaf ty138))) (.node 141 (.node 140 (.leaf ty139) (.leaf ty140)) (.node 142 (.leaf ty141) (.node 143 (.leaf ty142) (.leaf ty143))))))))), funcs := (.node 56 (.node 29 (.node 15 (.node 8 (.node 5 (.node 3 (.leaf fu2) (.node 4 (.leaf fu3) (.leaf fu4))) (.node 6 (.leaf fu5) (.node 7 (.leaf fu6) (.leaf fu7)))) (.node 11 (.node 9 (.leaf fu8) (.node 10 (.leaf fu9) (.leaf fu10))) (.node 13 (.node 12 (.leaf fu11) (.leaf fu12)) (.node 14 (.leaf fu13) (.leaf fu14))))) (.node 22 (.node 18 (.node 16 (.leaf fu15) (.node 17 (.leaf fu16) (.leaf fu17))) (.node 20 (.node 19 (.leaf fu18) (.leaf fu19)) (.node 21 (.leaf fu20) (.leaf fu21)))) (.node 25 (.node 23 (.leaf fu22) (.node 24 (.leaf fu23) (.leaf fu24))) (.node 27 (.node 26 (.leaf fu25) (.leaf fu26)) (.node 28 (.leaf fu27) (.leaf fu28)))))) (.node 42 (.node 35 (.node 32 (.node 30 (.leaf fu29) (.node 31 (.leaf fu30) (.leaf fu31))) (.node 33 (.leaf fu32) (.node 34 (.leaf fu33) (.leaf fu34)))) (.node 38 (.node 36 (.leaf fu35) (.node 37 (.leaf fu36) (.leaf fu37))) (.node 40 (.node 39 (.leaf fu38) (.leaf fu39)) (.node 41 (.leaf fu40) (.leaf fu41))))) (.node 49 (.node 45 (.node 43 (.leaf fu42) (.node 44 (.leaf fu43) (.leaf fu44))) (.node 47 (.node 46 (.leaf fu45) (.leaf fu46)) (.node 48 (.leaf fu47) (.leaf fu48)))) (.node 52 (.node 50 (.leaf fu49) (.node 51 (.leaf fu50) (.leaf fu51))) (.node 54 (.node 53 (.leaf fu52) (.leaf fu53)) (.node 55 (.leaf fu54) (.leaf fu55))))))) (.node 83 (.node 69 (.node 62 (.node 59 (.node 57 (.leaf fu56) (.node 58 (.leaf fu57) (.leaf fu58))) (.node 60 (.leaf fu59) (.node 61 (.leaf fu60) (.leaf fu61)))) (.node 65 (.node 63 (.leaf fu62) (.node 64 (.leaf fu63) (.leaf fu64))) (.node 67 (.node 66 (.leaf fu65) (.leaf fu66)) (.node 68 (.leaf fu67) (.leaf fu68))))) (.node 76 (.node 72 (.node 70 (.leaf fu69) (.node 71 (.leaf fu70) (.leaf fu71))) (.node 74 (.node 73 (.leaf fu72) (.leaf fu73)) (.node 75 (.leaf fu74) (.leaf fu75)))) (.node 79 (.node 77 (.leaf fu76) (.node 78 (.leaf fu77) (.leaf fu78))) (.node 81 (.node 80 (.leaf fu79) (.leaf fu80)) (.node 82 (.leaf fu81) (.leaf fu82)))))) (.node 97 (.node 90 (.node 86 (.node 84 (.leaf fu83) (.node 85 (.leaf fu84) (.leaf fu85))) (.node 88 (.node 87 (.leaf fu86) (.leaf fu87)) (.node 89 (.leaf fu88) (.leaf fu89)))) (.node 93 (.node 91 (.leaf fu90) (.node 92 (.leaf fu91) (.leaf fu92))) (.node 95 (.node 94 (.leaf fu93) (.leaf fu94)) (.node 96 (.leaf fu95) (.leaf fu96))))) (.node 104 (.node 100 (.node 98 (.leaf fu97) (.node 99 (.leaf fu98) (.leaf fu99))) (.node 102 (.node 101 (.leaf fu100) (.leaf fu101)) (.node 103 (.leaf fu102) (.leaf fu103)))) (.node 107 (.node 105 (.leaf fu104) (.node 106 (.leaf fu105) (.leaf fu106))) (.node 109 (.node 108 (.leaf fu107) (.leaf fu108)) (.node 110 (.leaf fu109) (.leaf fu110)))))))), hooks := [], eqs := eqs }
theorem HK (f : Nat) (h : (env.hooks.all fun x => !(x.f.beq f)) = true) : ∀ args : List AVal, callF env (evalW env) f args = callI env (evalW env) f args := fun _ => hk_gen f h
theorem NB (f : Nat) (h : (env.bhooks.all fun x => !(x.fn.beq f)) = true) : ∀ k, noHook env.bhooks f k = true := nb_gen f h
abbrev FI (k : Nat) (f : FE Try.prog) : Prop := (env.funcs.find k).i = f.i
abbrev FF (k : Nat) : Prop := (env.funcs.find k).f.beq k = true
theorem ti0 : ti env 0 = M.pure ⟨Go.TypeDesc.tuple #[], 1, 0, .tup []⟩ := rfl
theorem ti1 : ti env 1 = M.pure ⟨Go.TypeDesc.func #[] #[] false, 1, 8, .nilf⟩ := rfl
theorem ti2 : ti env 2 = M.pure ⟨Go.TypeDesc.int (Go.IntKind.i64), 1, 8, .int .i64 (0)⟩ := rfl
theorem ti3 : ti env 3 = M.pure ⟨Go.TypeDesc.int (Go.IntKind.i64), 1, 8, .int .i64 (0)⟩ := rfl
theorem ti4 : ti env 4 = M.pure ⟨Go.TypeDesc.bool, 1, 1, .bool false⟩ := rfl
theorem ti5 : ti env 5 = M.pure ⟨Go.TypeDesc.int (Go.IntKind.u8), 1, 1, .int .u8 (0)⟩ := rfl
theorem ti6 : ti env 6 = M.pure ⟨Go.TypeDesc.int (Go.IntKind.u8), 1, 1, .int .u8 (0)⟩ := rfl
theorem ti7 : ti env 7 = M.pure ⟨Go.TypeDesc.struct #[⟨"x", 2, 0, false, "", "runtime", 0⟩, ⟨"y", 3, 1, false, "", "runtime", 8⟩, ⟨"signed", 4, 2, false, "", "runtime", 16⟩, ⟨"code", 6, 3, false, "", "runtime", 17⟩], 4, 24, .agg [.int .i64 (0), .int .i64 (0), .bool false, .int .u8 (0)]⟩ := rfl
theorem ti8 : ti env 8 = M.pure ⟨Go.TypeDesc.struct #[⟨"x", 2, 0, false, "", "runtime", 0⟩, ⟨"y", 3, 1, false, "", "runtime", 8⟩, ⟨"signed", 4, 2, false, "", "runtime", 16⟩, ⟨"code", 6, 3, false, "", "runtime", 17⟩], 4, 24, .agg [.int .i64 (0), .int .i64 (0), .bool false, .int .u8 (0)]⟩ := rfl
theorem ti9 : ti env 9 = M.pure ⟨Go.TypeDesc.string, 1, 16, .str []⟩ := rfl
theorem ti10 : ti env 10 = M.pure ⟨Go.TypeDesc.string, 1, 16, .str []⟩ := rfl
theorem ti11 : ti env 11 = M.pure ⟨Go.TypeDesc.string, 1, 16, .str []⟩ := rfl
theorem ti12 : ti env 12 = M.pure ⟨Go.TypeDesc.int (Go.IntKind.u64), 1, 8, .int .u64 (0)⟩ := rfl
theorem ti13 : ti env 13 = M.pure ⟨Go.TypeDesc.struct #[⟨"msg", 9, 0, false, "", "runtime", 0⟩, ⟨"addr", 12, 1, false, "", "runtime", 16⟩], 2, 24, .agg [.str [], .int .u64 (0)]⟩ := rfl
theorem ti14 : ti env 14 = M.pure ⟨Go.TypeDesc.struct #[⟨"msg", 9, 0, false, "", "runtime", 0⟩, ⟨"addr", 12, 1, false, "", "runtime", 16⟩], 2, 24, .agg [.str [], .int .u64 (0)]⟩ := rfl
theorem ti15 : ti env 15 = M.pure ⟨Go.TypeDesc.pointer 130, 1, 8, .nilp⟩ := rfl
theorem ti16 : ti env 16 = M.pure ⟨Go.TypeDesc.pointer 133, 1, 8, .nilp⟩ := rfl
theorem ti17 : ti env 17 = M.pure ⟨Go.TypeDesc.pointer 142, 1, 8, .nilp⟩ := rfl
theorem ti18 : ti env 18 = M.pure ⟨Go.TypeDesc.struct #[⟨"typ", 17, 0, false, "", "internal/runtime/maps", 0⟩], 1, 8, .agg [.nilp]⟩ := rfl
theorem ti19 : ti env 19 = M.pure ⟨Go.TypeDesc.struct #[⟨"typ", 17, 0, false, "", "internal/runtime/maps", 0⟩], 1, 8, .agg [.nilp]⟩ := rfl
theorem ti20 : ti env 20 = M.pure ⟨Go.TypeDesc.interface #[], 1, 16, .nili⟩ := rfl
theorem ti21 : ti env 21 = M.pure ⟨Go.TypeDesc.int (Go.IntKind.i32), 1, 4, .int .i32 (0)⟩ := rfl
theorem ti22 : ti env 22 = M.pure ⟨Go.TypeDesc.slice 5, 1, 24, .nils⟩ := rfl
theorem ti23 : ti env 23 = M.pure ⟨Go.TypeDesc.func #[] #[4] false, 1, 8, .nilf⟩ := rfl
theorem ti24 : ti env 24 = M.pure ⟨Go.TypeDesc.int (Go.IntKind.i64), 1, 8, .int .i64 (0)⟩ := rfl
theorem ti25 : ti env 25 = M.pure ⟨Go.TypeDesc.tuple #[22, 24], 1, 0, .tup [.nils, .int .i64 (0)]⟩ := rfl
theorem ti26 : ti env 26 = M.pure ⟨Go.TypeDesc.func #[2] #[22, 24] false, 1, 8, .nilf⟩ := rfl
theorem ti27 : ti env 27 = M.pure ⟨Go.TypeDesc.tuple #[2, 24], 1, 0, .tup [.int .i64 (0), .int .i64 (0)]⟩ := rfl
theorem ti28 : ti env 28 = M.pure ⟨Go.TypeDesc.func #[22] #[2, 24] false, 1, 8, .nilf⟩ := rfl
theorem ti29 : ti env 29 = M.pure ⟨Go.TypeDesc.func #[22] #[4] false, 1, 8, .nilf⟩ := rfl
theorem ti30 : ti env 30 = M.pure ⟨Go.TypeDesc.func #[2, 22] #[4] false, 1, 8, .nilf⟩ := rfl
theorem ti31 : ti env 31 = M.pure ⟨Go.TypeDesc.tuple #[22, 3], 1, 0, .tup [.nils, .int .i64 (0)]⟩ := rfl
theorem ti32 : ti env 32 = M.pure ⟨Go.TypeDesc.func #[2] #[22, 3] false, 1, 8, .nilf⟩ := rfl
theorem ti33 : ti env 33 = M.pure ⟨Go.TypeDesc.tuple #[2, 3], 1, 0, .tup [.int .i64 (0), .int .i64 (0)]⟩ := rfl
theorem ti34 : ti env 34 = M.pure ⟨Go.TypeDesc.func #[22] #[2, 3] false, 1, 8, .nilf⟩ := rfl
theorem ti35 : ti env 35 = M.pure ⟨Go.TypeDesc.func #[4] #[22] false, 1, 8, .nilf⟩ := rfl
theorem ti36 : ti env 36 = M.pure ⟨Go.TypeDesc.func #[2, 22, 4] #[4] false, 1, 8, .nilf⟩ := rfl
theorem ti37 : ti env 37 = M.pure ⟨Go.TypeDesc.func #[5, 2] #[2, 24] false, 1, 8, .nilf⟩ := rfl
theorem ti38 : ti env 38 = M.pure ⟨Go.TypeDesc.func #[5, 2] #[2, 3] false, 1, 8, .nilf⟩ := rfl
theorem ti39 : ti env 39 = M.pure ⟨Go.TypeDesc.func #[5, 2, 2] #[2, 24] false, 1, 8, .nilf⟩ := rfl
theorem ti40 : ti env 40 = M.pure ⟨Go.TypeDesc.func #[5, 2, 2] #[2, 3] false, 1, 8, .nilf⟩ := rfl
theorem ti41 : ti env 41 = M.pure ⟨Go.TypeDesc.func #[2, 2, 2] #[4] false, 1, 8, .nilf⟩ := rfl
theorem ti42 : ti env 42 = M.pure ⟨Go.TypeDesc.func #[5] #[3] false, 1, 8, .nilf⟩ := rfl
theorem ti43 : ti env 43 = M.pure ⟨Go.TypeDesc.func #[5, 2, 2, 2] #[4] false, 1, 8, .nilf⟩ := rfl
theorem ti44 : ti env 44 = M.pure ⟨Go.TypeDesc.array 8 2, 8, 64, .agg [.int .i64 (0), .int .i64 (0), .int .i64 (0), .int .i64 (0), .int .i64 (0), .int .i64 (0), .int .i64 (0), .int .i64 (0)]⟩ := rfl
theorem ti45 : ti env 45 = M.pure ⟨Go.TypeDesc.func #[2, 2] #[4] false, 1, 8, .nilf⟩ := rfl
theorem ti46 : ti env 46 = M.pure ⟨Go.TypeDesc.func #[5, 2, 2] #[4] false, 1, 8, .nilf⟩ := rfl
theorem ti47 : ti env 47 = M.pure ⟨Go.TypeDesc.func #[9, 4] #[4] false, 1, 8, .nilf⟩ := rfl
theorem ti48 : ti env 48 = M.pure ⟨Go.TypeDesc.func #[2, 9] #[4] false, 1, 8, .nilf⟩ := rfl
theorem ti49 : ti env 49 = M.pure ⟨Go.TypeDesc.struct #[⟨"code", 5, 0, false, "", "purser/purserlaw11", 0⟩, ⟨"a", 2, 1, false, "", "purser/purserlaw11", 8⟩, ⟨"want", 2, 2, false, "", "purser/purserlaw11", 16⟩], 3, 24, .agg [.int .u8 (0), .int .i64 (0), .int .i64 (0)]⟩ := rfl
theorem ti50 : ti env 50 = M.pure ⟨Go.TypeDesc.slice 49, 1, 24, .nils⟩ := rfl
theorem ti51 : ti env 51 = M.pure ⟨Go.TypeDesc.struct #[⟨"code", 5, 0, false, "", "purser/purserlaw11", 0⟩, ⟨"a", 2, 1, false, "", "purser/purserlaw11", 8⟩, ⟨"b", 2, 2, false, "", "purser/purserlaw11", 16⟩, ⟨"want", 2, 3, false, "", "purser/purserlaw11", 24⟩], 4, 32, .agg [.int .u8 (0), .int .i64 (0), .int .i64 (0), .int .i64 (0)]⟩ := rfl
theorem ti52 : ti env 52 = M.pure ⟨Go.TypeDesc.slice 51, 1, 24, .nils⟩ := rfl
theorem ti53 : ti env 53 = M.pure ⟨Go.TypeDesc.slice 22, 1, 24, .nils⟩ := rfl
theorem ti54 : ti env 54 = M.pure ⟨Go.TypeDesc.func #[53, 70] #[4] false, 1, 8, .nilf⟩ := rfl
theorem ti55 : ti env 55 = M.pure ⟨Go.TypeDesc.pointer 95, 1, 8, .nilp⟩ := rfl
theorem ti56 : ti env 56 = M.pure ⟨Go.TypeDesc.tuple #[55, 24], 1, 0, .tup [.nilp, .int .i64 (0)]⟩ := rfl
theorem ti57 : ti env 57 = M.pure ⟨Go.TypeDesc.func #[53] #[55, 24] true, 1, 8, .nilf⟩ := rfl
theorem ti58 : ti env 58 = M.pure ⟨Go.TypeDesc.func #[5] #[24] false, 1, 8, .nilf⟩ := rfl
theorem ti59 : ti env 59 = M.pure ⟨Go.TypeDesc.func #[53, 53] #[4] false, 1, 8, .nilf⟩ := rfl
theorem ti60 : ti env 60 = M.pure ⟨Go.TypeDesc.func #[] #[53] false, 1, 8, .nilf⟩ := rfl
theorem ti61 : ti env 61 = M.pure ⟨Go.TypeDesc.func #[53, 5] #[4] false, 1, 8, .nilf⟩ := rfl
theorem ti62 : ti env 62 = M.pure ⟨Go.TypeDesc.map 5 3, 1, 8, .nilm⟩ := rfl
theorem ti63 : ti env 63 = M.pure ⟨Go.TypeDesc.func #[] #[3] false, 1, 8, .nilf⟩ := rfl
theorem ti64 : ti env 64 = M.pure ⟨Go.TypeDesc.func #[3] #[22, 24] false, 1, 8, .nilf⟩ := rfl
theorem ti65 : ti env 65 = M.pure ⟨Go.TypeDesc.func #[5] #[4] false, 1, 8, .nilf⟩ := rfl
theorem ti66 : ti env 66 = M.pure ⟨Go.TypeDesc.func #[53, 22] #[4] false, 1, 8, .nilf⟩ := rfl
theorem ti67 : ti env 67 = M.pure ⟨Go.TypeDesc.func #[22] #[24] false, 1, 8, .nilf⟩ := rfl
theorem ti68 : ti env 68 = M.pure ⟨Go.TypeDesc.func #[53, 2] #[4] false, 1, 8, .nilf⟩ := rfl
theorem ti69 : ti env 69 = M.pure ⟨Go.TypeDesc.func #[] #[22, 24] false, 1, 8, .nilf⟩ := rfl
theorem ti70 : ti env 70 = M.pure ⟨Go.TypeDesc.slice 76, 1, 24, .nils⟩ := rfl
theorem ti71 : ti env 71 = M.pure ⟨Go.TypeDesc.pointer 78, 1, 8, .nilp⟩ := rfl
theorem ti72 : ti env 72 = M.pure ⟨Go.TypeDesc.tuple #[71, 3], 1, 0, .tup [.nilp, .int .i64 (0)]⟩ := rfl
theorem ti73 : ti env 73 = M.pure ⟨Go.TypeDesc.func #[53] #[71, 3] false, 1, 8, .nilf⟩ := rfl
theorem ti74 : ti env 74 = M.pure ⟨Go.TypeDesc.func #[55, 71, 76] #[4] false, 1, 8, .nilf⟩ := rfl
theorem ti75 : ti env 75 = M.pure ⟨Go.TypeDesc.struct #[⟨"Kind", 3, 0, false, "", "", 0⟩, ⟨"Code", 5, 1, false, "", "", 8⟩, ⟨"B", 22, 2, false, "", "", 16⟩, ⟨"N", 3, 3, false, "", "", 40⟩], 4, 48, .agg [.int .i64 (0), .int .u8 (0), .nils, .int .i64 (0)]⟩ := rfl
theorem ti76 : ti env 76 = M.pure ⟨Go.TypeDesc.struct #[⟨"Kind", 3, 0, false, "", "", 0⟩, ⟨"Code", 5, 1, false, "", "", 8⟩, ⟨"B", 22, 2, false, "", "", 16⟩, ⟨"N", 3, 3, false, "", "", 40⟩], 4, 48, .agg [.int .i64 (0), .int .u8 (0), .nils, .int .i64 (0)]⟩ := rfl
theorem ti77 : ti env 77 = M.pure ⟨Go.TypeDesc.struct #[⟨"L", 53, 0, false, "", "", 0⟩, ⟨"O", 53, 1, false, "", "", 24⟩], 2, 48, .agg [.nils, .nils]⟩ := rfl
theorem ti78 : ti env 78 = M.pure ⟨Go.TypeDesc.struct #[⟨"L", 53, 0, false, "", "", 0⟩, ⟨"O", 53, 1, false, "", "", 24⟩], 2, 48, .agg [.nils, .nils]⟩ := rfl
theorem ti79 : ti env 79 = M.pure ⟨Go.TypeDesc.func #[9, 9, 22] #[4] true, 1, 8, .nilf⟩ := rfl
theorem ti80 : ti env 80 = M.pure ⟨Go.TypeDesc.func #[9] #[55] false, 1, 8, .nilf⟩ := rfl
theorem ti81 : ti env 81 = M.pure ⟨Go.TypeDesc.func #[55] #[9] false, 1, 8, .nilf⟩ := rfl
theorem ti82 : ti env 82 = M.pure ⟨Go.TypeDesc.func #[] #[2, 24] false, 1, 8, .nilf⟩ := rfl
theorem ti83 : ti env 83 = M.pure ⟨Go.TypeDesc.func #[2] #[22] false, 1, 8, .nilf⟩ := rfl
theorem ti84 : ti env 84 = M.pure ⟨Go.TypeDesc.func #[22, 22] #[4] false, 1, 8, .nilf⟩ := rfl
theorem ti85 : ti env 85 = M.pure ⟨Go.TypeDesc.func #[4] #[2] false, 1, 8, .nilf⟩ := rfl
theorem ti86 : ti env 86 = M.pure ⟨Go.TypeDesc.func #[89] #[2] false, 1, 8, .nilf⟩ := rfl
theorem ti87 : ti env 87 = M.pure ⟨Go.TypeDesc.func #[5] #[86] false, 1, 8, .nilf⟩ := rfl
theorem ti88 : ti env 88 = M.pure ⟨Go.TypeDesc.func #[2] #[4] false, 1, 8, .nilf⟩ := rfl
theorem ti89 : ti env 89 = M.pure ⟨Go.TypeDesc.int (Go.IntKind.i64), 1, 8, .int .i64 (0)⟩ := rfl
theorem ti90 : ti env 90 = M.pure ⟨Go.TypeDesc.func #[89, 89] #[2] false, 1, 8, .nilf⟩ := rfl
theorem ti91 : ti env 91 = M.pure ⟨Go.TypeDesc.func #[5] #[90] false, 1, 8, .nilf⟩ := rfl
theorem ti92 : ti env 92 = M.pure ⟨Go.TypeDesc.struct #[⟨"l", 53, 0, false, "", "purser/stack", 0⟩], 1, 24, .agg [.nils]⟩ := rfl
theorem ti93 : ti env 93 = M.pure ⟨Go.TypeDesc.struct #[⟨"l", 53, 0, false, "", "purser/stack", 0⟩], 1, 24, .agg [.nils]⟩ := rfl
theorem ti94 : ti env 94 = M.pure ⟨Go.TypeDesc.struct #[⟨"pile", 93, 0, true, "", "purser/stack", 0⟩, ⟨"other", 93, 1, false, "", "purser/stack", 24⟩], 2, 48, .agg [.nils, .nils]⟩ := rfl
theorem ti95 : ti env 95 = M.pure ⟨Go.TypeDesc.struct #[⟨"pile", 93, 0, true, "", "purser/stack", 0⟩, ⟨"other", 93, 1, false, "", "purser/stack", 24⟩], 2, 48, .agg [.nils, .nils]⟩ := rfl
theorem ti96 : ti env 96 = M.pure ⟨Go.TypeDesc.func #[53] #[] true, 1, 8, .nilf⟩ := rfl
theorem ti97 : ti env 97 = M.pure ⟨Go.TypeDesc.func #[22] #[22] false, 1, 8, .nilf⟩ := rfl
theorem ti98 : ti env 98 = M.pure ⟨Go.TypeDesc.func #[53] #[53] false, 1, 8, .nilf⟩ := rfl
theorem ti99 : ti env 99 = M.pure ⟨Go.TypeDesc.func #[3] #[22] false, 1, 8, .nilf⟩ := rfl
theorem ti100 : ti env 100 = M.pure ⟨Go.TypeDesc.func #[3] #[53] false, 1, 8, .nilf⟩ := rfl
theorem ti101 : ti env 101 = M.pure ⟨Go.TypeDesc.func #[22] #[3] false, 1, 8, .nilf⟩ := rfl
theorem ti102 : ti env 102 = M.pure ⟨Go.TypeDesc.func #[] #[22, 3] false, 1, 8, .nilf⟩ := rfl
theorem ti103 : ti env 103 = M.pure ⟨Go.TypeDesc.func #[3] #[22, 3] false, 1, 8, .nilf⟩ := rfl
theorem ti104 : ti env 104 = M.pure ⟨Go.TypeDesc.func #[] #[2, 3] false, 1, 8, .nilf⟩ := rfl
theorem ti105 : ti env 105 = M.pure ⟨Go.TypeDesc.tuple #[9, 9], 1, 0, .tup [.str [], .str []]⟩ := rfl
theorem ti106 : ti env 106 = M.pure ⟨Go.TypeDesc.func #[5] #[9, 9] false, 1, 8, .nilf⟩ := rfl
theorem ti107 : ti env 107 = M.pure ⟨Go.TypeDesc.func #[123] #[] false, 1, 8, .nilf⟩ := rfl
theorem ti108 : ti env 108 = M.pure ⟨Go.TypeDesc.func #[123] #[] false, 1, 8, .nilf⟩ := rfl
theorem ti109 : ti env 109 = M.pure ⟨Go.TypeDesc.func #[110] #[108] false, 1, 8, .nilf⟩ := rfl
theorem ti110 : ti env 110 = M.pure ⟨Go.TypeDesc.int (Go.IntKind.u64), 1, 8, .int .u64 (0)⟩ := rfl
theorem ti111 : ti env 111 = M.pure ⟨Go.TypeDesc.func #[2] #[110] false, 1, 8, .nilf⟩ := rfl
theorem ti112 : ti env 112 = M.pure ⟨Go.TypeDesc.func #[] #[2] false, 1, 8, .nilf⟩ := rfl
theorem ti113 : ti env 113 = M.pure ⟨Go.TypeDesc.pointer 93, 1, 8, .nilp⟩ := rfl
theorem ti114 : ti env 114 = M.pure ⟨Go.TypeDesc.slice 3, 1, 24, .nils⟩ := rfl
theorem ti115 : ti env 115 = M.pure ⟨Go.TypeDesc.tuple #[114, 4], 1, 0, .tup [.nils, .bool false]⟩ := rfl
theorem ti116 : ti env 116 = M.pure ⟨Go.TypeDesc.func #[5] #[114, 4] false, 1, 8, .nilf⟩ := rfl
theorem ti117 : ti env 117 = M.pure ⟨Go.TypeDesc.func #[3] #[] false, 1, 8, .nilf⟩ := rfl
theorem ti118 : ti env 118 = M.pure ⟨Go.TypeDesc.func #[4] #[24] false, 1, 8, .nilf⟩ := rfl
theorem ti119 : ti env 119 = M.pure ⟨Go.TypeDesc.func #[126] #[] false, 1, 8, .nilf⟩ := rfl
theorem ti120 : ti env 120 = M.pure ⟨Go.TypeDesc.func #[126] #[] false, 1, 8, .nilf⟩ := rfl
theorem ti121 : ti env 121 = M.pure ⟨Go.TypeDesc.func #[] #[120] false, 1, 8, .nilf⟩ := rfl
theorem ti122 : ti env 122 = M.pure ⟨Go.TypeDesc.func #[5] #[71, 3] false, 1, 8, .nilf⟩ := rfl
theorem ti123 : ti env 123 = M.pure ⟨Go.TypeDesc.func #[5, 4] #[4] false, 1, 8, .nilf⟩ := rfl
theorem ti124 : ti env 124 = M.pure ⟨Go.TypeDesc.int (Go.IntKind.u64), 1, 8, .int .u64 (0)⟩ := rfl
theorem ti125 : ti env 125 = M.pure ⟨Go.TypeDesc.func #[53, 3, 3] #[53] false, 1, 8, .nilf⟩ := rfl
theorem ti126 : ti env 126 = M.pure ⟨Go.TypeDesc.func #[3, 22] #[4] false, 1, 8, .nilf⟩ := rfl
theorem ti127 : ti env 127 = M.pure ⟨Go.TypeDesc.func #[53] #[120] false, 1, 8, .nilf⟩ := rfl
theorem ti128 : ti env 128 = M.pure ⟨Go.TypeDesc.func #[] #[9] false, 1, 8, .nilf⟩ := rfl
theorem ti129 : ti env 129 = M.pure ⟨Go.TypeDesc.struct #[⟨"_interface", 17, 0, false, "", "runtime", 0⟩, ⟨"concrete", 17, 1, false, "", "runtime", 8⟩, ⟨"asserted", 17, 2, false, "", "runtime", 16⟩, ⟨"missingMethod", 9, 3, false, "", "runtime", 24⟩], 4, 40, .agg [.nilp, .nilp, .nilp, .str []]⟩ := rfl
theorem ti130 : ti env 130 = M.pure ⟨Go.TypeDesc.struct #[⟨"_interface", 17, 0, false, "", "runtime", 0⟩, ⟨"concrete", 17, 1, false, "", "runtime", 8⟩, ⟨"asserted", 17, 2, false, "", "runtime", 16⟩, ⟨"missingMethod", 9, 3, false, "", "runtime", 24⟩], 4, 40, .agg [.nilp, .nilp, .nilp, .str []]⟩ := rfl
theorem ti131 : ti env 131 = M.pure ⟨Go.TypeDesc.array 0 16, 0, 0, .agg []⟩ := rfl
theorem ti132 : ti env 132 = M.pure ⟨Go.TypeDesc.struct #[⟨"_", 131, 0, false, "", "runtime", 0⟩], 0, 0, .agg []⟩ := rfl
theorem ti133 : ti env 133 = M.pure ⟨Go.TypeDesc.struct #[⟨"_", 131, 0, false, "", "runtime", 0⟩], 0, 0, .agg []⟩ := rfl
theorem ti134 : ti env 134 = M.pure ⟨Go.TypeDesc.int (Go.IntKind.u32), 1, 4, .int .u32 (0)⟩ := rfl
theorem ti135 : ti env 135 = M.pure ⟨Go.TypeDesc.int (Go.IntKind.u8), 1, 1, .int .u8 (0)⟩ := rfl
theorem ti136 : ti env 136 = M.pure ⟨Go.TypeDesc.int (Go.IntKind.u8), 1, 1, .int .u8 (0)⟩ := rfl
theorem ti137 : ti env 137 = M.pure ⟨Go.TypeDesc.func #[143, 143] #[4] false, 1, 8, .nilf⟩ := rfl
theorem ti138 : ti env 138 = M.pure ⟨Go.TypeDesc.pointer 5, 1, 8, .nilp⟩ := rfl
theorem ti139 : ti env 139 = M.pure ⟨Go.TypeDesc.int (Go.IntKind.i32), 1, 4, .int .i32 (0)⟩ := rfl
theorem ti140 : ti env 140 = M.pure ⟨Go.TypeDesc.int (Go.IntKind.i32), 1, 4, .int .i32 (0)⟩ := rfl
theorem ti141 : ti env 141 = M.pure ⟨Go.TypeDesc.struct #[⟨"Size_", 12, 0, false, "", "", 0⟩, ⟨"PtrBytes", 12, 1, false, "", "", 8⟩, ⟨"Hash", 134, 2, false, "", "", 16⟩, ⟨"TFlag", 135, 3, false, "", "", 20⟩, ⟨"Align_", 5, 4, false, "", "", 21⟩, ⟨"FieldAlign_", 5, 5, false, "", "", 22⟩, ⟨"Kind_", 136, 6, false, "", "", 23⟩, ⟨"Equal", 137, 7, false, "", "", 24⟩, ⟨"GCData", 138, 8, false, "", "", 32⟩, ⟨"Str", 139, 9, false, "", "", 40⟩, ⟨"PtrToThis", 140, 10, false, "", "", 44⟩], 11, 48, .agg [.int .u64 (0), .int .u64 (0), .int .u32 (0), .int .u8 (0), .int .u8 (0), .int .u8 (0), .int .u8 (0), .nilf, .nilp, .int .i32 (0), .int .i32 (0)]⟩ := rfl
theorem ti142 : ti env 142 = M.pure ⟨Go.TypeDesc.struct #[⟨"Size_", 12, 0, false, "", "", 0⟩, ⟨"PtrBytes", 12, 1, false, "", "", 8⟩, ⟨"Hash", 134, 2, false, "", "", 16⟩, ⟨"TFlag", 135, 3, false, "", "", 20⟩, ⟨"Align_", 5, 4, false, "", "", 21⟩, ⟨"FieldAlign_", 5, 5, false, "", "", 22⟩, ⟨"Kind_", 136, 6, false, "", "", 23⟩, ⟨"Equal", 137, 7, false, "", "", 24⟩, ⟨"GCData", 138, 8, false, "", "", 32⟩, ⟨"Str", 139, 9, false, "", "", 40⟩, ⟨"PtrToThis", 140, 10, false, "", "", 44⟩], 11, 48, .agg [.int .u64 (0), .int .u64 (0), .int .u32 (0), .int .u8 (0), .int .u8 (0), .int .u8 (0), .int .u8 (0), .nilf, .nilp, .int .i32 (0), .int .i32 (0)]⟩ := rfl
theorem ti143 : ti env 143 = M.pure ⟨Go.TypeDesc.unsafePointer, 1, 8, .nilp⟩ := rfl
theorem fi2 : FI 2 fu2 := rfl
theorem ff2 : FF 2 := rfl
theorem hk2 : ∀ args : List AVal, callF env (evalW env) 2 args = callI env (evalW env) 2 args := HK 2 rfl
theorem fg2 : ∀ tm : List AVal, forget env 2 tm = forgetL [F] tm := fun _ => rfl
theorem fi3 : FI 3 fu3 := rfl
theorem ff3 : FF 3 := rfl
theorem fg3 : ∀ tm : List AVal, forget env 3 tm = forgetL [T, T, F, F, T, T, T, T, T, T, T, T, T, T, T, F, F, F, F, F, F, F, T, F, F, F, F, F, F, F, T, F, F, F, F, F, F, F, F, F, F, F, F, F, F, F, F, F, F, F, F, F, F, F, F, F, F, F, F, F, F, F, F, F, F, F, F, F, F, F, F, F, F, T, F, F, F, F, F, F, T, F, F, F, F, F, F, F, F, F, F, F, F, F, F, F, F, F, F, F, F, F, F, F, F, F, F, F, F, F, F, F, F, F] tm := fun _ => rfl
theorem fi4 : FI 4 fu4 := rfl
theorem ff4 : FF 4 := rfl
theorem hk4 : ∀ args : List AVal, callF env (evalW env) 4 args = callI env (evalW env) 4 args := HK 4 rfl
theorem fg4 : ∀ tm : List AVal, forget env 4 tm = forgetL [T, T, T, F, F, F, T, T, T, T, T, T, T, T, T, T, F, F, T, F, F, F, F, F, F, F, F, F, F, F, F, F, F, F, F, F, F, F, F, F, F, F, F, F, F, F, F, F, F, F, F, F, F, F, F, F, F, F, F, F, F, F, F, F, F, F, F, F, F, F, F, F, F, F, F, F, F, F, F, F, F, F, F, F, F, F, F, F, F, F, F, F, F, F] tm := fun _ => rfl
theorem fi5 : FI 5 fu5 := rfl
theorem ff5 : FF 5 := rfl
theorem fg5 : ∀ tm : List AVal, forget env 5 tm = forgetL [T, T, T, T, F, F, F, F, T, T, T, T, T, T, T, T, T, F, F, F, F, F, F, F, F, F, F, F, F, F, F, F, F, F, F, F, F, F, F, F, F, F, F, F, F, F, F, F, F, F, F, F, F, F, F, F, F, F, F, F, F, F, F, F, F, F, F, F, F, F, F, F, F, F, F, F, F, F, F] tm := fun _ => rfl
theorem fi6 : FI 6 fu6 := rfl
theorem ff6 : FF 6 := rfl
theorem fg6 : ∀ tm : List AVal, forget env 6 tm = forgetL [T, T, T, F, F, F, T, T, T, T, T, T, T, T, T, T, T, F, F, F, F, F, F, F, T, T, T, T, F, F, F, F, F, F, F, F, F, F, F, T, F, F, F, F, F, F, F, F, F, F, F, F, F, F, F, F, F, F, F, F, F, F, F, F, F, F, F, F, F, F, F, F, F, F, F, F, F, F, F, F, F, F, F, F, F, F, F, F, F, F, F, F, F, F, F, F, F, F, F, F, F, F, F, F, F, F, F, F, F, F, F, F, F, F, F, F, F, F, F, F, F, F, F, F, F, F, F, F, F] tm := fun _ => rfl
theorem fi7 : FI 7 fu7 := rfl
theorem ff7 : FF 7 := rfl
theorem fg7 : ∀ tm : List AVal, forget env 7 tm = forgetL [T, T, F, F, T, T, T, T, T, T, T, T, T, T, T, T, T, T, T, T, F, F, F, F, F, F, F, F, F, F, F, F, F, F, F, F, F, F, F, F, F, F, F, F, F, F, F, F, F, F, F, F, F, F, F, F, F, F, F, F, F, F, F, F, F, F, F, F, F, F, F, F, F, F, F, F, F, F, F, F, F, F, F, F, F, F, F, F, F, F, F, F, F, F, F, F, F, F, F, F, F, F, F, F, F, F, F, F, F, F, F, F, F, F, F, F, F, F, F, F, F, F, F, F, F, F, F, F, F, F, F, F, T, F] tm := fun _ => rfl
theorem fi8 : FI 8 fu8 := rfl
theorem ff8 : FF 8 := rfl
theorem fg8 : ∀ tm : List AVal, forget env 8 tm = forgetL [T, T, T, F, F, F, T, T, T, T, T, T, T, T, F, F, F, F, F, F, F, F, F, F, F, F, F, T, F, F, F, F, F, F, F, F, F, F, F, F, F, F, T, F, F, F, F, F, F, F, F, F, F, F, F, F, F, F, F, F, F, F, F, F, F, F, F, F, F, F, F, F, F, F, T, F, F, F, F, F, F, F, F, F, F, F, F, F, F, F, F, F, F, F, F, F, F, F, F, F, F, F, F, F, F, F, F, F, F, F, F] tm := fun _ => rfl
theorem fi9 : FI 9 fu9 := rfl
theorem ff9 : FF 9 := rfl
theorem fg9 : ∀ tm : List AVal, forget env 9 tm = forgetL [T, T, T, T, F, T, F, T, T, T, T, T, F, T, T, T, F, T, T, T, F, T, F, T, F, T, F, T, F, T, F, F, F, F, F, F, F, F, F, F, F, F, F, F, F, F, F, F, F, F, F, F, F, F, F, F, F, F, F, F, F, F, F, F, F, F, F, F, F, F, F, F, F, F, F, F, F, F, F, F, F, F, F, F, F, F, F, F, F, F, F, F, F, F, F, F, F, F, F, F, F, F, F, F, F, F, F, F, F, F, F, F, F, F, F, F, F, F, F, F, F, F, F, T, T, T, T, F, F, F, F, F, F, F, F, F, F, F, F, F, F, F, F, F, F, F, F, F, F, F, F, F, F, F, F, F, F, F, F, F, F, F, F, F, F, F, F, F, F, F, T, T, T, T, F, F, F, F, F, F, F, F, F, F, F, F, F, F, F, F, F, F, F, F, F, F, F, F, F, F, F, F, F, F, F, F, F, F, F, F, F, F, F, F, F, F, F, F, F, F, F, F, F, F, F, F, F, F, F, F, F, F, F, F, F, F, F, F, F, F, F, F, F, F, F, F, F, F, F, F, F, F, F, F, F, F, F, F, F, F, F, F, F, F, F, F, F, F, F, F, F] tm := fun _ => rfl
theorem fi10 : FI 10 fu10 := rfl
theorem ff10 : FF 10 := rfl
theorem fg10 : ∀ tm : List AVal, forget env 10 tm = forgetL [T, T, F, F, T, T, T, T, T, T, T, T, T, F, F, F, F, F, F, F, F, F, F, F, T, F, F, F, F, F, F, F, F, F, F, F, F, F, F, F, F, F, F, F, T, F, F, F, F, F, F, F, F, F, F, F, F, F, T, T, T, T, F, F, F, F, F, F, F, T, F, F, F, F, F, F, F, F, F, F, F, F, F, F, F, F, F, F, F, F, F, F, F, F, F, F, F, F, F] tm := fun _ => rfl
theorem fi11 : FI 11 fu11 := rfl
theorem ff11 : FF 11 := rfl
theorem fg11 : ∀ tm : List AVal, forget env 11 tm = forgetL [T, T, F, F, T, T, T, T, T, F, T, T, T, T, T, T, T, T, F, F, F, F, F, F, F, F, F, F, F, F, F, F, F, F, T, F, F, F, F, F, F, F, T, F, F, F, F, F, F, F, T, T, T, T, F, F, F, F, F, F, F, F, F, F, F, F, F, F, F, F, F, F, F, F, F, F, F, F, T, F, F, F, F, T, F, F, F, F, F, F, F, F, F, F, F, F, F, F, F, F, F, T, F, T, F, T, F, F, F, F, F, F, F, F, F, F, F, F, F, F, F, F, F, F, F, F, F, F, F, T, F, F] tm := fun _ => rfl
theorem fi12 : FI 12 fu12 := rfl
theorem ff12 : FF 12 := rfl
theorem fg12 : ∀ tm : List AVal, forget env 12 tm = forgetL [T, T, F, F, T, T, T, T, T, T, T, T, T, T, T, T, T, F, F, F, F, F, F, F, F, F, F, F, T, F, F, F, F, F, F, F, F, F, F, F, F, F, F, F, F, F, F, F, F, F, F, F, F, F, F, F, F, F, F, F, F, F, F, F, F, F, T, F, F, F, F, F, F, F, F, F, F, F, F, F, F, F, F, F, F, F, F, T, F, F, F, F, F, F, F, F, F, F, F, F, F, F, F, F, F, F, F, F, F, F, F, F, F, F, F, F, F, F, F, F, F, F, F, F, F, F, F, F, F, F, F, F, F, F, F, F, F, F, F, F, F, F, F, F, F, F, F, F, F, F, F, F, F, F, F] tm := fun _ => rfl
theorem fi13 : FI 13 fu13 := rfl
theorem ff13 : FF 13 := rfl
theorem fg13 : ∀ tm : List AVal, forget env 13 tm = forgetL [T, T, F, F, T, T, T, T, T, T, T, T, T, T, T, F, F, F, F, F, F, F, F, F, F, F, F, F, F, F, F, F, F, F, F, T, F, F, F, F, F, F, F, T, F, F, F, F, F, F, T, T, T, F, F, F, F, F, F, F, T, F, F, F, F, F, F, F, F, F, F, F, F, T, F, F, F, F, F, F, F, F, F, F, F, F, F, F, F, F, F, F, F, F, F, F, F, F, F, F, F, F, F, F, F, F, F, F, T, F, F, F, F, F, F, F] tm := fun _ => rfl
theorem fi14 : FI 14 fu14 := rfl
theorem ff14 : FF 14 := rfl
theorem fg14 : ∀ tm : List AVal, forget env 14 tm = forgetL [T, T, F, F, T, T, T, T, T, T, T, T, T, T, F, F, T, F, F, F, F, F, F, F, F, F, F, F, F, F, F, F, F, F, F, F, T, F, T, F, T, T, T, F, F, F, F, F, F, F, F, T, F, F, F, F, F, F, F, F, F, F, F, F, F, F, F, F, F, F, F, F, F, F, F, F, F, F, F, F, F, F, F, F, F, F, F, F, F, F, F, F, F, F, F, F, T, F, T, T, T, F, F, F, F, F, T, T, T, F, F, F, F, F, F, F, F, F, F, F, F, F, F, F, F, F, F, F, F, F, F, F, F, F, F, F, F, F] tm := fun _ => rfl
theorem fi15 : FI 15 fu15 := rfl
theorem ff15 : FF 15 := rfl
theorem fg15 : ∀ tm : List AVal, forget env 15 tm = forgetL [T, T, T, T, T, T, T, T, T, T, T, T, T, F, T, F, T, F, T, T, T, T, F, T, F, T, T, T, T, T, T, T, F, T, F, T, T, F, F, F, F, F, F, F, F, F, F, F, F, F, F, F, F, F, F, F, F, F, F, F, F, F, F, F, F, F, F, F, F, F, F, F, F, F, F, F, F, F, F, F, F, F, F, F, F, F, F, F, F, F, F, F, F, F, F, F, F, F, F, F, F, F, F, F, F, F, F, F, F, F, F, F, T, F, F, F, F, F, F, F, F, F, F, F, F, F, F, F, F, F, F, F, F, F, F, F, F, F, F, F, F, F, F, F, F, F, F, F, F, F, F, F, F, F, F, F, F, F, F, F, F, F, F, F, F, F, F, F, F, F, F, F, F, F, F, F, F, F, F, F, F, F, F, F, F, F, F, F, F, F, F, F, F, F, F, F, F, F, F, F, F, F, F, F, F, F, F, F, F, F, F, F, F, F, F, F, F, F, F, F, F, F, F, F, F, F, F, F, F, F, F, F, F, F, F, F, F, F, F, F, F, F, F, F, F, F, F, F, F, F, F, F, F, F, F, F, F, F, F, F, F, F, F, F, F, F, F, F, F, F, F, F, F, F, F, F, F, F, F, F, F, F, F, F, F, F, F, F, F, F, F, F, F, F, F, F, F, F, F, F, F, F, F, F, F, F, F, F, F, F, F, F, F, F, F, F, F, F, F, F, F, F, F, F, F, F, F, F, F, F, F, F, F, F, F, F, F, F] tm := fun _ => rfl
theorem fi16 : FI 16 fu16 := rfl
theorem ff16 : FF 16 := rfl
theorem fg16 : ∀ tm : List AVal, forget env 16 tm = forgetL [T, F, F, F, F, F, F, F, F, F, F, F, F, F, F, F, F, F, F, F, F, F, F, F, F, F] tm := fun _ => rfl
theorem fi17 : FI 17 fu17 := rfl
theorem ff17 : FF 17 := rfl
theorem fg17 : ∀ tm : List AVal, forget env 17 tm = forgetL [T, F, T, T, F, F, F, F, F, T, F, F] tm := fun _ => rfl
theorem fi18 : FI 18 fu18 := rfl
theorem ff18 : FF 18 := rfl
theorem fg18 : ∀ tm : List AVal, forget env 18 tm = forgetL [T, F, T, T, T, T, T, T, F, F, T, T, T, T, T, F, F, F, F, F, F, F, F, F, F, F, F, T, F, F, F, F, F, F, F, F, F, F, F, F, F, F, F, F, F, T, F] tm := fun _ => rfl
theorem fi19 : FI 19 fu19 := rfl
theorem ff19 : FF 19 := rfl
theorem fg19 : ∀ tm : List AVal, forget env 19 tm = forgetL [T, F, T, T, T, T, T, T, T, F, F, F, F, F, F, F, F, F, F, F, F, F, F, F, T, F] tm := fun _ => rfl
theorem fi20 : FI 20 fu20 := rfl
theorem ff20 : FF 20 := rfl
theorem fg20 : ∀ tm : List AVal, forget env 20 tm = forgetL [T, F, T, T, F, F, F, F, F, T, F, F] tm := fun _ => rfl
theorem fi21 : FI 21 fu21 := rfl
theorem ff21 : FF 21 := rfl
theorem fg21 : ∀ tm : List AVal, forget env 21 tm = forgetL [T, F, T, T, T, T, T, T, T, F, F, T, F, F, F, T, F, F, F, F, F, F, F, F, F, F, F, F, F, F, F, T, F, F, F, F, F, F, F, F, F, T, F, F, F, F, F, F, F, T, F] tm := fun _ => rfl
theorem fi22 : FI 22 fu22 := rfl
theorem ff22 : FF 22 := rfl
theorem fg22 : ∀ tm : List AVal, forget env 22 tm = forgetL [T, F, T, T, F, F, F, T, F, F, F, F, F, F, F, F, F, F, F, F, F, T, F, F, F, F, T] tm := fun _ => rfl
theorem fi23 : FI 23 fu23 := rfl
theorem ff23 : FF 23 := rfl
theorem fg23 : ∀ tm : List AVal, forget env 23 tm = forgetL [T, F, T, F, F, F] tm := fun _ => rfl
theorem fi24 : FI 24 fu24 := rfl
theorem ff24 : FF 24 := rfl
theorem fg24 : ∀ tm : List AVal, forget env 24 tm = forgetL [T, F, T, F, F, F] tm := fun _ => rfl
theorem fi25 : FI 25 fu25 := rfl
theorem ff25 : FF 25 := rfl
theorem fg25 : ∀ tm : List AVal, forget env 25 tm = forgetL [T, T, F, F, T, T, T, F, F, T, F, F, T, F, F, F, F, F, F] tm := fun _ => rfl
theorem fi26 : FI 26 fu26 := rfl
theorem ff26 : FF 26 := rfl
theorem fg26 : ∀ tm : List AVal, forget env 26 tm = forgetL [T, T, F, F, T, T, T, F, F, T, F, F, F, T, T, T, F, F, F, T, F, F, F, T, F, F, F, T, F, F, T, F, F, F, T, F, F, F, F, F, F, F] tm := fun _ => rfl
theorem fi27 : FI 27 fu27 := rfl
theorem ff27 : FF 27 := rfl
theorem fg27 : ∀ tm : List AVal, forget env 27 tm = forgetL [T, T, T, F, F, F, T, T, T, F, F, T, F, F, T, F, F, F, F, F, F, F, F, F, F, F, F] tm := fun _ => rfl
theorem fi28 : FI 28 fu28 := rfl
theorem ff28 : FF 28 := rfl
theorem fg28 : ∀ tm : List AVal, forget env 28 tm = forgetL [T, T, T, F, F, F, T, T, T, T, F, F, T, F, F, F, F, F, F, F, F, F, T, T, T, F, F, F, F, T, F, F, F, F, T, F, F, F, F, F, F, F, F, T, F, F, F, F, F, F, F, F, T, F, F, F, F, F, F, T, F, F, F, F, F, T, F, F, F, F, F, T, F, F, F, F, F, T, F, F, F, F, F, T, F, F, F, F, F, T, F, F, F, T, F, F, F, F, T, F, F] tm := fun _ => rfl
theorem fi29 : FI 29 fu29 := rfl
theorem ff29 : FF 29 := rfl
theorem fg29 : ∀ tm : List AVal, forget env 29 tm = forgetL [T, T, T, F, F, F, T, F, F, F, F, F, F, F, F] tm := fun _ => rfl
theorem fi30 : FI 30 fu30 := rfl
theorem ff30 : FF 30 := rfl
theorem fg30 : ∀ tm : List AVal, forget env 30 tm = forgetL [T, T, T, F, F, F, T, F, F, F, F, F, F, F, F] tm := fun _ => rfl
theorem fi31 : FI 31 fu31 := rfl
theorem ff31 : FF 31 := rfl
theorem fg31 : ∀ tm : List AVal, forget env 31 tm = forgetL [T, F, T, T, F, F, F, T, F, F, F, T, F, F] tm := fun _ => rfl
theorem fi32 : FI 32 fu32 := rfl
theorem ff32 : FF 32 := rfl
theorem fg32 : ∀ tm : List AVal, forget env 32 tm = forgetL [T, F, T, T, T, F, F, F, F, F, F, T, F, F, F, F, F, F, F, F, F, F, F, F, F, T, F] tm := fun _ => rfl
theorem fi33 : FI 33 fu33 := rfl
theorem ff33 : FF 33 := rfl
theorem fg33 : ∀ tm : List AVal, forget env 33 tm = forgetL [T, T, F, F, T, T, T, F, F, F, F, F, F, F, F, F, F, F, F, F, F, F, F, F, F, F] tm := fun _ => rfl
theorem fi34 : FI 34 fu34 := rfl
theorem ff34 : FF 34 := rfl
theorem fg34 : ∀ tm : List AVal, forget env 34 tm = forgetL [T, T, F, F, T, T, T, T, T, F, F, F, F, F, F, F, F, F, F, F, F, F, F, F, F, F, F, F, F, F, F, F, F, F, F, F, F] tm := fun _ => rfl
theorem fi35 : FI 35 fu35 := rfl
theorem ff35 : FF 35 := rfl
theorem fg35 : ∀ tm : List AVal, forget env 35 tm = forgetL [T, F, F, F, F, F, F, F, F, F, F] tm := fun _ => rfl
theorem fi36 : FI 36 fu36 := rfl
theorem ff36 : FF 36 := rfl
theorem fg36 : ∀ tm : List AVal, forget env 36 tm = forgetL [T, T, F, F, T, T, T, F, T, T, T, F, F, F, F, F, F, T, F, F, T, T, T, F, F, F, F, F, F, F, T, F, F, F, F, F, F, F, F, F] tm := fun _ => rfl
theorem fi37 : FI 37 fu37 := rfl
theorem ff37 : FF 37 := rfl
theorem fg37 : ∀ tm : List AVal, forget env 37 tm = forgetL [T, F, T, T, T, F, T, F, F, T, T, T, T, F, F, F, F, T, F, F, F, F, F, F, F, F, F, F, T, F] tm := fun _ => rfl
theorem fi38 : FI 38 fu38 := rfl
theorem ff38 : FF 38 := rfl
theorem fg38 : ∀ tm : List AVal, forget env 38 tm = forgetL [T, T, F, F, T, T, T, T, F, F, T, F, F, F, T, F, F, F, F, F, F, F, F, F, F, F, F, F, F, F, F, F, F, F, F, F, F, F, F, F, F, F, T, F, F, F, T, F, F, F, F, F] tm := fun _ => rfl
theorem fi39 : FI 39 fu39 := rfl
theorem ff39 : FF 39 := rfl
theorem fg39 : ∀ tm : List AVal, forget env 39 tm = forgetL [T, T, F, F, T, T, F, F, F, F, T, F, F, F, T, F, F, F, F, F, F, F, F, F, F, F, F, T] tm := fun _ => rfl
theorem fi40 : FI 40 fu40 := rfl
theorem ff40 : FF 40 := rfl
theorem fg40 : ∀ tm : List AVal, forget env 40 tm = forgetL [T, F, T, F, T, F, F, F, F, F, F] tm := fun _ => rfl
theorem fi41 : FI 41 fu41 := rfl
theorem ff41 : FF 41 := rfl
theorem fg41 : ∀ tm : List AVal, forget env 41 tm = forgetL [T, F, T, F, T, F, F, F, F, F, F] tm := fun _ => rfl
theorem fi42 : FI 42 fu42 := rfl
theorem ff42 : FF 42 := rfl
theorem fg42 : ∀ tm : List AVal, forget env 42 tm = forgetL [T, F, T, F, T, F, F, F, F] tm := fun _ => rfl
theorem fi43 : FI 43 fu43 := rfl
theorem ff43 : FF 43 := rfl
theorem fg43 : ∀ tm : List AVal, forget env 43 tm = forgetL [T, T, F, F, T, T, T, F, F, T, F, F, F, F, F, F, F, F, F, F, F, F, F, F, F, F] tm := fun _ => rfl
theorem fi44 : FI 44 fu44 := rfl
theorem ff44 : FF 44 := rfl
theorem fg44 : ∀ tm : List AVal, forget env 44 tm = forgetL [T, F, T, F, F, F] tm := fun _ => rfl
theorem fi45 : FI 45 fu45 := rfl
theorem ff45 : FF 45 := rfl
theorem fg45 : ∀ tm : List AVal, forget env 45 tm = forgetL [T, T, F, F, T, T, F, F, T, F, F, F, T, F, F, F, F, F, F, F, F, F, F] tm := fun _ => rfl
theorem fi46 : FI 46 fu46 := rfl
theorem ff46 : FF 46 := rfl
theorem fg46 : ∀ tm : List AVal, forget env 46 tm = forgetL [T, F, T, T, T, T, F, F, F, F, F, F, T, F, F, F, F, F, F] tm := fun _ => rfl
theorem fi47 : FI 47 fu47 := rfl
theorem ff47 : FF 47 := rfl
theorem fg47 : ∀ tm : List AVal, forget env 47 tm = forgetL [T, F, T, T, T, T, F, F, F, F, F, T, F, F, F, F, F, F, F, T, F, F, F, F, F, F, F, F, F, F, F, F, F, F, F, F, T, F] tm := fun _ => rfl
theorem fi48 : FI 48 fu48 := rfl
theorem ff48 : FF 48 := rfl
theorem fg48 : ∀ tm : List AVal, forget env 48 tm = forgetL [T, T, T, F, F, T, T, T, T, T, T, T, T, T, T, T, T, T, T, T, T, T, T, T, F, T, T, F, F, F, F, F, F, F, F, F, F, T, F, F, F, F, F, F, F, F, F, F, F, F, F, F, F, F, F, F, F, F, F, F, T, T, T, F, F, F, F, F, F, F, F, F, T, F, F, F, F, F, F, F, F, F, F, F, F, F, F, F, F, F, F, F, F, F, T, F, F, F, F, F, F, F, F, F, F, F, F, F, F, F, F, F, F, F, F, F, F, F, F, F, F, T, T, T, F, F, F, F, F, F, F, F, F, T, F, F, F, F, F, F, F, F, F, F, F, F, F, F, F, F, F, F, F] tm := fun _ => rfl
theorem fi49 : FI 49 fu49 := rfl
theorem ff49 : FF 49 := rfl
theorem fg49 : ∀ tm : List AVal, forget env 49 tm = forgetL [T, F, T, T, F, F, F, F, F, F, F, F, F, F, F, F, F, F, F, F, F, F, F, F, F, F, F, F, F, F, F, F, F, F, F, F, F, F, F, F] tm := fun _ => rfl
theorem fi50 : FI 50 fu50 := rfl
theorem ff50 : FF 50 := rfl
theorem fg50 : ∀ tm : List AVal, forget env 50 tm = forgetL [T, T, T, F, F, F, T, T, F, T, F, F, T, T, T, T, F, F, F, F, F, T, F, F, F, F, F] tm := fun _ => rfl
theorem fi51 : FI 51 fu51 := rfl
theorem ff51 : FF 51 := rfl
theorem fg51 : ∀ tm : List AVal, forget env 51 tm = forgetL [T, F, T, T, T, T, T, F, T, T, T, F, F, F, F, F, F, F, F, F, F, F, F, F, F, F, F, T, F] tm := fun _ => rfl
theorem fi52 : FI 52 fu52 := rfl
theorem ff52 : FF 52 := rfl
theorem fg52 : ∀ tm : List AVal, forget env 52 tm = forgetL [T, F, T, T, F, T, F, T, T, T, T, F, F, F, F, F, F, F, F] tm := fun _ => rfl
theorem fi53 : FI 53 fu53 := rfl
theorem ff53 : FF 53 := rfl
theorem fg53 : ∀ tm : List AVal, forget env 53 tm = forgetL [T, F, T, T, T, T, T, F, F, F, F, F, F, T, F, F, F, F, F, F, F, T, F, F, F, F, F, F] tm := fun _ => rfl
theorem fi54 : FI 54 fu54 := rfl
theorem ff54 : FF 54 := rfl
theorem fg54 : ∀ tm : List AVal, forget env 54 tm = forgetL [T, F, T, T, T, T, T, F, T, F, F, T, T, T, F, T, F, F, F, F, F, F, T, F, F, F, F, F, F, F, F, F, F, F, F] tm := fun _ => rfl
theorem fi55 : FI 55 fu55 := rfl
theorem ff55 : FF 55 := rfl
theorem hk55 : ∀ args : List AVal, callF env (evalW env) 55 args = callI env (evalW env) 55 args := HK 55 rfl
theorem fg55 : ∀ tm : List AVal, forget env 55 tm = forgetL [T, T, F, F, T, F, F, F, F, F] tm := fun _ => rfl
theorem fi56 : FI 56 fu56 := rfl
theorem ff56 : FF 56 := rfl
theorem fg56 : ∀ tm : List AVal, forget env 56 tm = forgetL [T, F, T, T, T, T, F, F, T, F, F, F, T, F, F, F, F, F, F, F, F, F, F, T, F, F, F, F, F, F, F, T, F, F, F, F, F, T, F, F, F, F, F, F, F, F, F] tm := fun _ => rfl
theorem fi57 : FI 57 fu57 := rfl
theorem ff57 : FF 57 := rfl
theorem fg57 : ∀ tm : List AVal, forget env 57 tm = forgetL [T, F, T, T] tm := fun _ => rfl
theorem fi58 : FI 58 fu58 := rfl
theorem ff58 : FF 58 := rfl
theorem fg58 : ∀ tm : List AVal, forget env 58 tm = forgetL [T, F, T, T] tm := fun _ => rfl
theorem fi59 : FI 59 fu59 := rfl
theorem ff59 : FF 59 := rfl
theorem fg59 : ∀ tm : List AVal, forget env 59 tm = forgetL [T, F, T, T, T, F, T, F, T, F, T, F, T, F, T, F] tm := fun _ => rfl
theorem fi60 : FI 60 fu60 := rfl
theorem ff60 : FF 60 := rfl
theorem fg60 : ∀ tm : List AVal, forget env 60 tm = forgetL [T, F, T, F, F, F, F, F, F] tm := fun _ => rfl
theorem fi61 : FI 61 fu61 := rfl
theorem ff61 : FF 61 := rfl
theorem fg61 : ∀ tm : List AVal, forget env 61 tm = forgetL [T, F, T, F, F, F, F, F, F] tm := fun _ => rfl
theorem fi62 : FI 62 fu62 := rfl
theorem ff62 : FF 62 := rfl
theorem fg62 : ∀ tm : List AVal, forget env 62 tm = forgetL [T, F, T, T, T, F, T, F, T, F, T, F, T, F, F, T, F, T, F, T, F, T, F, T, F, T, F, T, F] tm := fun _ => rfl
theorem fi63 : FI 63 fu63 := rfl
theorem ff63 : FF 63 := rfl
theorem fg63 : ∀ tm : List AVal, forget env 63 tm = forgetL [T, T, F, F, F, F, F, F, F, F, F, F, F] tm := fun _ => rfl
theorem fi64 : FI 64 fu64 := rfl
theorem ff64 : FF 64 := rfl
theorem fg64 : ∀ tm : List AVal, forget env 64 tm = forgetL [T, F, T, F, T, F, F, F] tm := fun _ => rfl
theorem fi65 : FI 65 fu65 := rfl
theorem ff65 : FF 65 := rfl
theorem fg65 : ∀ tm : List AVal, forget env 65 tm = forgetL [T, F, T, F, F, F, F, F, F, F, F, F] tm := fun _ => rfl
theorem fi66 : FI 66 fu66 := rfl
theorem ff66 : FF 66 := rfl
theorem fg66 : ∀ tm : List AVal, forget env 66 tm = forgetL [T, F, T, F, F, F, F, F] tm := fun _ => rfl
theorem fi67 : FI 67 fu67 := rfl
theorem ff67 : FF 67 := rfl
theorem fg67 : ∀ tm : List AVal, forget env 67 tm = forgetL [T, F, T, T, T, F, F, T, F, F, F, F, F, F, F, T, F, F, F, F, F, F, T, F, F, T, F, F, T, F] tm := fun _ => rfl
theorem fi68 : FI 68 fu68 := rfl
theorem ff68 : FF 68 := rfl
theorem fg68 : ∀ tm : List AVal, forget env 68 tm = forgetL [T, F, T, F, T, F, F, F] tm := fun _ => rfl
theorem fi69 : FI 69 fu69 := rfl
theorem ff69 : FF 69 := rfl
theorem fg69 : ∀ tm : List AVal, forget env 69 tm = forgetL [T, T, F, F, T, T, T, T, F, T, F, F, F, F, F, T, F, F, F, F, F, F, T, T, T, T, F, F, F, F, F, F, F, F, F, F, F, F, T, F, F, F, F, T, F, F, F, F, F, F, F, F, F, T, F, F, F, F, F, T, F, F, F, F, F, F, F, F, T, F, F, F, F, F, T, F, F, F, F, F, F, F, F, F, T, F, F, F, F, F, F, F, T, F, F, F, F, F, F, F, F] tm := fun _ => rfl
theorem fi70 : FI 70 fu70 := rfl
theorem ff70 : FF 70 := rfl
theorem fg70 : ∀ tm : List AVal, forget env 70 tm = forgetL [T, F, T, T, F, T, T, T, T, T, F, F, F, F, F, F, F, F, F] tm := fun _ => rfl
theorem fi71 : FI 71 fu71 := rfl
theorem ff71 : FF 71 := rfl
theorem fg71 : ∀ tm : List AVal, forget env 71 tm = forgetL [T, T, F, T, T, T, T, T, F, T, T, T, F, F, T, F, F] tm := fun _ => rfl
theorem fi72 : FI 72 fu72 := rfl
theorem ff72 : FF 72 := rfl
theorem fg72 : ∀ tm : List AVal, forget env 72 tm = forgetL [T, T, F, F, T, T, T, F, F, F, F, F, F, F, F, F, F, F, F, F, F, F, F, F, F, F, F, F, F, F, F, F] tm := fun _ => rfl
theorem fi73 : FI 73 fu73 := rfl
theorem ff73 : FF 73 := rfl
theorem fg73 : ∀ tm : List AVal, forget env 73 tm = forgetL [T, F, T, T, F, F, F] tm := fun _ => rfl
theorem fi74 : FI 74 fu74 := rfl
theorem ff74 : FF 74 := rfl
theorem fg74 : ∀ tm : List AVal, forget env 74 tm = forgetL [T, T, F, F, T, T, T, T, F, F, F, T, F, F, F, F, F, F, F, T, F, F, F, F, F, F, F, F, F, F, F, F, T, F, F, F, F, F, F, F, F, F, F, F, F, F, F] tm := fun _ => rfl
theorem fi75 : FI 75 fu75 := rfl
theorem ff75 : FF 75 := rfl
theorem fg75 : ∀ tm : List AVal, forget env 75 tm = forgetL [T, T, F, F, T, F, F, T, F, F, F, F, F, F, F, F, F, F, F, T, F, F, F, F, F, F, F, F, F, F, F] tm := fun _ => rfl
theorem fi76 : FI 76 fu76 := rfl
theorem ff76 : FF 76 := rfl
theorem fg76 : ∀ tm : List AVal, forget env 76 tm = forgetL [T, F, T, T, T, T, F, F, F, F, F, F, T, F, F, F, F, F, F, F, F, F, F, F, F, F, F, F, F] tm := fun _ => rfl
theorem fi77 : FI 77 fu77 := rfl
theorem ff77 : FF 77 := rfl
theorem fg77 : ∀ tm : List AVal, forget env 77 tm = forgetL [T, T, F, F, T, T, F, F, F, F, F, F, F, F, F, F, T, F, F, F, F, F, F, F, F, F, F, F, F, F, F, F] tm := fun _ => rfl
theorem fi78 : FI 78 fu78 := rfl
theorem ff78 : FF 78 := rfl
theorem fg78 : ∀ tm : List AVal, forget env 78 tm = forgetL [T, F, T, T, T, T, T, T, F, F, F, F, F, F, T, F, F, F, F, F, F, F, T, F, F, F, F, F, F, F, F, F, F, F, F, F, F, F, F] tm := fun _ => rfl
theorem fi79 : FI 79 fu79 := rfl
theorem ff79 : FF 79 := rfl
theorem fg79 : ∀ tm : List AVal, forget env 79 tm = forgetL [T, F, T, T, T, T, F, T, F, T, F, T, F, T, F, T, F, T, F, T, F, T, F, T, F, T, F, T, F, T, F] tm := fun _ => rfl
theorem fi80 : FI 80 fu80 := rfl
theorem ff80 : FF 80 := rfl
theorem fg80 : ∀ tm : List AVal, forget env 80 tm = forgetL [T, T, T, F] tm := fun _ => rfl
theorem fi81 : FI 81 fu81 := rfl
theorem ff81 : FF 81 := rfl
theorem fg81 : ∀ tm : List AVal, forget env 81 tm = forgetL [T, F, T, F, T, F, F, F, F, F] tm := fun _ => rfl
theorem fi82 : FI 82 fu82 := rfl
theorem ff82 : FF 82 := rfl
theorem fg82 : ∀ tm : List AVal, forget env 82 tm = forgetL [T, F, T, F, F] tm := fun _ => rfl
theorem fi83 : FI 83 fu83 := rfl
theorem ff83 : FF 83 := rfl
theorem fg83 : ∀ tm : List AVal, forget env 83 tm = forgetL [T, F, T, F, F] tm := fun _ => rfl
theorem fi84 : FI 84 fu84 := rfl
theorem ff84 : FF 84 := rfl
theorem fg84 : ∀ tm : List AVal, forget env 84 tm = forgetL [T, F, T, F, F] tm := fun _ => rfl
theorem fi85 : FI 85 fu85 := rfl
theorem ff85 : FF 85 := rfl
theorem fg85 : ∀ tm : List AVal, forget env 85 tm = forgetL [T, F, T, F, F, F] tm := fun _ => rfl
theorem fi86 : FI 86 fu86 := rfl
theorem ff86 : FF 86 := rfl
theorem fg86 : ∀ tm : List AVal, forget env 86 tm = forgetL [T, F, T, F, F, F] tm := fun _ => rfl
theorem fi87 : FI 87 fu87 := rfl
theorem ff87 : FF 87 := rfl
theorem fg87 : ∀ tm : List AVal, forget env 87 tm = forgetL [T, F, T, F, F, F] tm := fun _ => rfl
theorem fi88 : FI 88 fu88 := rfl
theorem ff88 : FF 88 := rfl
theorem fg88 : ∀ tm : List AVal, forget env 88 tm = forgetL [T, T, F, F, T, F, F, F] tm := fun _ => rfl
theorem fi89 : FI 89 fu89 := rfl
theorem ff89 : FF 89 := rfl
theorem fg89 : ∀ tm : List AVal, forget env 89 tm = forgetL [T, T, F, F, T, F, F, F] tm := fun _ => rfl
theorem fi90 : FI 90 fu90 := rfl
theorem ff90 : FF 90 := rfl
theorem fg90 : ∀ tm : List AVal, forget env 90 tm = forgetL [T, T, F, F, T, F, F, F, F, F] tm := fun _ => rfl
theorem fi91 : FI 91 fu91 := rfl
theorem ff91 : FF 91 := rfl
theorem fg91 : ∀ tm : List AVal, forget env 91 tm = forgetL [T, T, F, F, T, F, F, F, F, F] tm := fun _ => rfl
theorem fi92 : FI 92 fu92 := rfl
theorem ff92 : FF 92 := rfl
theorem fg92 : ∀ tm : List AVal, forget env 92 tm = forgetL [T, T, F, F, T, F, F, F, F] tm := fun _ => rfl
theorem fi93 : FI 93 fu93 := rfl
theorem ff93 : FF 93 := rfl
theorem fg93 : ∀ tm : List AVal, forget env 93 tm = forgetL [T, T, F, F, T, F, F, F, F] tm := fun _ => rfl
theorem fi94 : FI 94 fu94 := rfl
theorem ff94 : FF 94 := rfl
theorem fg94 : ∀ tm : List AVal, forget env 94 tm = forgetL [T, T, F, F, T, F, F, F, F] tm := fun _ => rfl
theorem fi95 : FI 95 fu95 := rfl
theorem ff95 : FF 95 := rfl
theorem fg95 : ∀ tm : List AVal, forget env 95 tm = forgetL [T, T, F, F, T, F, F, F, F] tm := fun _ => rfl
theorem fi96 : FI 96 fu96 := rfl
theorem ff96 : FF 96 := rfl
theorem fg96 : ∀ tm : List AVal, forget env 96 tm = forgetL [T, T, F, F, T, F, F, F, F] tm := fun _ => rfl
theorem fi97 : FI 97 fu97 := rfl
theorem ff97 : FF 97 := rfl
theorem fg97 : ∀ tm : List AVal, forget env 97 tm = forgetL [T, T, F, F, T, F, F, F, F] tm := fun _ => rfl
theorem fi98 : FI 98 fu98 := rfl
theorem ff98 : FF 98 := rfl
theorem fg98 : ∀ tm : List AVal, forget env 98 tm = forgetL [T, T, F, F, T, F, F, F] tm := fun _ => rfl
theorem fi99 : FI 99 fu99 := rfl
theorem ff99 : FF 99 := rfl
theorem fg99 : ∀ tm : List AVal, forget env 99 tm = forgetL [T, T, F, F, T, F, F, F] tm := fun _ => rfl
theorem fi100 : FI 100 fu100 := rfl
theorem ff100 : FF 100 := rfl
theorem fg100 : ∀ tm : List AVal, forget env 100 tm = forgetL [T, F, T, T, T, T, F, F, T, F, F, T, F, F, T, F, F, T, F, F, T, F, F, T, F, F, T, F, F, T, F, F, T, F, F, T, F, F, T, F, F] tm := fun _ => rfl
theorem fi101 : FI 101 fu101 := rfl
theorem ff101 : FF 101 := rfl
theorem fg101 : ∀ tm : List AVal, forget env 101 tm = forgetL [T, T, F, F, T, F, F, F, F, F, F, F, F, F, F, F, F] tm := fun _ => rfl
theorem fi102 : FI 102 fu102 := rfl
theorem ff102 : FF 102 := rfl
theorem fg102 : ∀ tm : List AVal, forget env 102 tm = forgetL [T, T, F, F, T, T, T, T, T, F, F, F, F, F, F, T, F, F, F, F, F, F, F, F, F, F, T, F, F, F, F, F, T, F, F, F, F, F, F, F, F, F, F, F, F, F, F, F, F, F, F, F, F, F, F, F, F, F, F, F] tm := fun _ => rfl
theorem fi103 : FI 103 fu103 := rfl
theorem ff103 : FF 103 := rfl
theorem fg103 : ∀ tm : List AVal, forget env 103 tm = forgetL [T, T, T, F] tm := fun _ => rfl
theorem fi104 : FI 104 fu104 := rfl
theorem ff104 : FF 104 := rfl
theorem fg104 : ∀ tm : List AVal, forget env 104 tm = forgetL [T, T, F, F, T, T, T, T, T, T, T, T, T, T, T, T, T, F, F, F, F, F, F, F, F, F, F, F, F, F, F, F, F, F, F, F, F, F, F, F, T, F, F, F, T, F, F, F, F, F, F, F, F, F, F, F, F, F, F, F, F, F, F, F, F, F, F, F, F, F, T, F, F, F, F, F, F, F, F, F, F, F, F, F, F, F, F, F, F, F, F, F, T, F, F, F, F, F, F, F, F, F, F, F, F, F, T, F, F, F, F, F, T, F, F, F, F, F, F, F, F, F, F, F, F, F, F, F, F, F, F, F, F, F, F, F, F, F, F, F, F, F, F, F, F, F, F, F, F, F, T, F, F, F, F, F, F, F, F, T, F, F, F, F, F, F, T, F, F, F, F, F, F, F, F, F, F, F, T, F, F, F, F, F, F, F, F, F, F, F, F, F, F, F, F, T, F, F, F, F, F, F, F, F, F, F, F, F, F, F, F, F, F, F, F, F, F, F, F, F, F, F, F, F, T, F, F, F, F, F, F, F, F, F, F, F, F, F, F, F, F, F, F, F, F, F, T, F, F, T, F, F, F, F, F, F, F, F, F, F, T, F, F, F, F, F, F, F, F, F, F, F, F, F, F] tm := fun _ => rfl
theorem fi105 : FI 105 fu105 := rfl
theorem ff105 : FF 105 := rfl
theorem fg105 : ∀ tm : List AVal, forget env 105 tm = forgetL [T, T, F, T, F, T, F, F, F, F, F, F, F, F, F, T] tm := fun _ => rfl
theorem fi106 : FI 106 fu106 := rfl
theorem ff106 : FF 106 := rfl
theorem fg106 : ∀ tm : List AVal, forget env 106 tm = forgetL [T, T, T, F, F, F, T, T, F, F, F, F, F, F, F, F, T, F, F, F, F, F, F, F, F, F, F, F, F, F, F, F, F] tm := fun _ => rfl
theorem fi107 : FI 107 fu107 := rfl
theorem ff107 : FF 107 := rfl
theorem fg107 : ∀ tm : List AVal, forget env 107 tm = forgetL [T, T, T, T, T, F, F, F, F, T, T, T, F, F, F, F, F, F, F, F, F, F, F, T] tm := fun _ => rfl
theorem fi108 : FI 108 fu108 := rfl
theorem ff108 : FF 108 := rfl
theorem fg108 : ∀ tm : List AVal, forget env 108 tm = forgetL [T, T, T, F] tm := fun _ => rfl
theorem fi109 : FI 109 fu109 := rfl
theorem ff109 : FF 109 := rfl
theorem fg109 : ∀ tm : List AVal, forget env 109 tm = forgetL [T, F, T, T, F, F, F] tm := fun _ => rfl
theorem fi110 : FI 110 fu110 := rfl
theorem ff110 : FF 110 := rfl
theorem fg110 : ∀ tm : List AVal, forget env 110 tm = forgetL [T, T, F, T, F, F, F, F, T, F, F, F, F, F, F, F, F, F, T] tm := fun _ => rfl
theorem bl9s : ∀ ts l, bLen env (9 :: ts) (.str l) = M.pure (.int .i64 (l.length : Nat)) := fun _ _ => rfl
theorem bl10s : ∀ ts l, bLen env (10 :: ts) (.str l) = M.pure (.int .i64 (l.length : Nat)) := fun _ _ => rfl
theorem bl11s : ∀ ts l, bLen env (11 :: ts) (.str l) = M.pure (.int .i64 (l.length : Nat)) := fun _ _ => rfl
theorem bl22a : ∀ ts id off len cap sz, bLen env (22 :: ts) (.sl id off len cap sz) = M.pure (.int .i64 (len : Nat)) := fun _ _ _ _ _ _ => rfl
theorem bl22b : ∀ ts g sz off len, bLen env (22 :: ts) (.isl g sz off len) = M.pure (.int .i64 (len : Nat)) := fun _ _ _ _ _ => rfl
theorem bl22c : ∀ ts, bLen env (22 :: ts) .nils = M.pure (.int .i64 0) := fun _ => rfl
theorem bl22d : ∀ ts, bLen env (22 :: ts) .emp = M.pure (.int .i64 0) := fun _ => rfl
theorem bl44r : ∀ ts v, bLen env (44 :: ts) v = M.pure (.int .i64 8) := fun _ _ => rfl
theorem bl50a : ∀ ts id off len cap sz, bLen env (50 :: ts) (.sl id off len cap sz) = M.pure (.int .i64 (len : Nat)) := fun _ _ _ _ _ _ => rfl
theorem bl50b : ∀ ts g sz off len, bLen env (50 :: ts) (.isl g sz off len) = M.pure (.int .i64 (len : Nat)) := fun _ _ _ _ _ => rfl
theorem bl50c : ∀ ts, bLen env (50 :: ts) .nils = M.pure (.int .i64 0) := fun _ => rfl
theorem bl50d : ∀ ts, bLen env (50 :: ts) .emp = M.pure (.int .i64 0) := fun _ => rfl
theorem bl52a : ∀ ts id off len cap sz, bLen env (52 :: ts) (.sl id off len cap sz) = M.pure (.int .i64 (len : Nat)) := fun _ _ _ _ _ _ => rfl
theorem bl52b : ∀ ts g sz off len, bLen env (52 :: ts) (.isl g sz off len) = M.pure (.int .i64 (len : Nat)) := fun _ _ _ _ _ => rfl
theorem bl52c : ∀ ts, bLen env (52 :: ts) .nils = M.pure (.int .i64 0) := fun _ => rfl
theorem bl52d : ∀ ts, bLen env (52 :: ts) .emp = M.pure (.int .i64 0) := fun _ => rfl
theorem bl53a : ∀ ts id off len cap sz, bLen env (53 :: ts) (.sl id off len cap sz) = M.pure (.int .i64 (len : Nat)) := fun _ _ _ _ _ _ => rfl
theorem bl53b : ∀ ts g sz off len, bLen env (53 :: ts) (.isl g sz off len) = M.pure (.int .i64 (len : Nat)) := fun _ _ _ _ _ => rfl
theorem bl53c : ∀ ts, bLen env (53 :: ts) .nils = M.pure (.int .i64 0) := fun _ => rfl
theorem bl53d : ∀ ts, bLen env (53 :: ts) .emp = M.pure (.int .i64 0) := fun _ => rfl
theorem bl70a : ∀ ts id off len cap sz, bLen env (70 :: ts) (.sl id off len cap sz) = M.pure (.int .i64 (len : Nat)) := fun _ _ _ _ _ _ => rfl
theorem bl70b : ∀ ts g sz off len, bLen env (70 :: ts) (.isl g sz off len) = M.pure (.int .i64 (len : Nat)) := fun _ _ _ _ _ => rfl
theorem bl70c : ∀ ts, bLen env (70 :: ts) .nils = M.pure (.int .i64 0) := fun _ => rfl
theorem bl70d : ∀ ts, bLen env (70 :: ts) .emp = M.pure (.int .i64 0) := fun _ => rfl
theorem bl114a : ∀ ts id off len cap sz, bLen env (114 :: ts) (.sl id off len cap sz) = M.pure (.int .i64 (len : Nat)) := fun _ _ _ _ _ _ => rfl
theorem bl114b : ∀ ts g sz off len, bLen env (114 :: ts) (.isl g sz off len) = M.pure (.int .i64 (len : Nat)) := fun _ _ _ _ _ => rfl
theorem bl114c : ∀ ts, bLen env (114 :: ts) .nils = M.pure (.int .i64 0) := fun _ => rfl
theorem bl114d : ∀ ts, bLen env (114 :: ts) .emp = M.pure (.int .i64 0) := fun _ => rfl
theorem bl131r : ∀ ts v, bLen env (131 :: ts) v = M.pure (.int .i64 0) := fun _ _ => rfl
noncomputable def lp6_0 : Code := (loopsOf (Try.f6.body.getD .skip)).getD 0 .skip
noncomputable def lp9_0 : Code := (loopsOf (Try.f9.body.getD .skip)).getD 0 .skip
noncomputable def lp9_1 : Code := (loopsOf (Try.f9.body.getD .skip)).getD 1 .skip
noncomputable def lp10_0 : Code := (loopsOf (Try.f10.body.getD .skip)).getD 0 .skip
noncomputable def lp11_0 : Code := (loopsOf (Try.f11.body.getD .skip)).getD 0 .skip
noncomputable def lp13_0 : Code := (loopsOf (Try.f13.body.getD .skip)).getD 0 .skip
noncomputable def lp13_1 : Code := (loopsOf (Try.f13.body.getD .skip)).getD 1 .skip
noncomputable def lp14_0 : Code := (loopsOf (Try.f14.body.getD .skip)).getD 0 .skip
noncomputable def lp14_1 : Code := (loopsOf (Try.f14.body.getD .skip)).getD 1 .skip
noncomputable def lp14_2 : Code := (loopsOf (Try.f14.body.getD .skip)).getD 2 .skip
noncomputable def lp18_0 : Code := (loopsOf (Try.f18.body.getD .skip)).getD 0 .skip
noncomputable def lp19_0 : Code := (loopsOf (Try.f19.body.getD .skip)).getD 0 .skip
noncomputable def lp21_0 : Code := (loopsOf (Try.f21.body.getD .skip)).getD 0 .skip
noncomputable def lp22_0 : Code := (loopsOf (Try.f22.body.getD .skip)).getD 0 .skip
noncomputable def lp36_0 : Code := (loopsOf (Try.f36.body.getD .skip)).getD 0 .skip
noncomputable def lp36_1 : Code := (loopsOf (Try.f36.body.getD .skip)).getD 1 .skip
noncomputable def lp37_0 : Code := (loopsOf (Try.f37.body.getD .skip)).getD 0 .skip
noncomputable def lp39_0 : Code := (loopsOf (Try.f39.body.getD .skip)).getD 0 .skip
noncomputable def lp47_0 : Code := (loopsOf (Try.f47.body.getD .skip)).getD 0 .skip
noncomputable def lp48_0 : Code := (loopsOf (Try.f48.body.getD .skip)).getD 0 .skip
noncomputable def lp48_1 : Code := (loopsOf (Try.f48.body.getD .skip)).getD 1 .skip
noncomputable def lp50_0 : Code := (loopsOf (Try.f50.body.getD .skip)).getD 0 .skip
noncomputable def lp51_0 : Code := (loopsOf (Try.f51.body.getD .skip)).getD 0 .skip
noncomputable def lp52_0 : Code := (loopsOf (Try.f52.body.getD .skip)).getD 0 .skip
noncomputable def ra54_0 : Code := ((rangesOf (Try.f54.body.getD .skip)).getD 0 (.skip, .skip)).1
noncomputable def rb54_0 : Code := ((rangesOf (Try.f54.body.getD .skip)).getD 0 (.skip, .skip)).2
noncomputable def lp56_0 : Code := (loopsOf (Try.f56.body.getD .skip)).getD 0 .skip
noncomputable def lp69_0 : Code := (loopsOf (Try.f69.body.getD .skip)).getD 0 .skip
noncomputable def lp70_0 : Code := (loopsOf (Try.f70.body.getD .skip)).getD 0 .skip
noncomputable def ra71_0 : Code := ((rangesOf (Try.f71.body.getD .skip)).getD 0 (.skip, .skip)).1
noncomputable def rb71_0 : Code := ((rangesOf (Try.f71.body.getD .skip)).getD 0 (.skip, .skip)).2
noncomputable def lp104_0 : Code := (loopsOf (Try.f104.body.getD .skip)).getD 0 .skip
noncomputable def lp105_0 : Code := (loopsOf (Try.f105.body.getD .skip)).getD 0 .skip
noncomputable def ra107_0 : Code := ((rangesOf (Try.f107.body.getD .skip)).getD 0 (.skip, .skip)).1
noncomputable def rb107_0 : Code := ((rangesOf (Try.f107.body.getD .skip)).getD 0 (.skip, .skip)).2
noncomputable def lp110_0 : Code := (loopsOf (Try.f110.body.getD .skip)).getD 0 .skip
def tyr := (And.intro ti0 (And.intro ti1 (And.intro ti2 (And.intro ti3 (And.intro ti4 (And.intro ti5 (And.intro ti6 (And.intro ti7 (And.intro ti8 (And.intro ti9 (And.intro ti10 (And.intro ti11 (And.intro ti12 (And.intro ti13 (And.intro ti14 (And.intro ti15 (And.intro ti16 (And.intro ti17 (And.intro ti18 (And.intro ti19 (And.intro ti20 (And.intro ti21 (And.intro ti22 (And.intro ti23 (And.intro ti24 (And.intro ti25 (And.intro ti26 (And.intro ti27 (And.intro ti28 (And.intro ti29 (And.intro ti30 (And.intro ti31 (And.intro ti32 (And.intro ti33 (And.intro ti34 (And.intro ti35 (And.intro ti36 (And.intro ti37 (And.intro ti38 (And.intro ti39 (And.intro ti40 (And.intro ti41 (And.intro ti42 (And.intro ti43 (And.intro ti44 (And.intro ti45 (And.intro ti46 (And.intro ti47 (And.intro ti48 (And.intro ti49 (And.intro ti50 (And.intro ti51 (And.intro ti52 (And.intro ti53 (And.intro ti54 (And.intro ti55 (And.intro ti56 (And.intro ti57 (And.intro ti58 (And.intro ti59 (And.intro ti60 (And.intro ti61 (And.intro ti62 (And.intro ti63 (And.intro ti64 (And.intro ti65 (And.intro ti66 (And.intro ti67 (And.intro ti68 (And.intro ti69 (And.intro ti70 (And.intro ti71 (And.intro ti72 (And.intro ti73 (And.intro ti74 (And.intro ti75 (And.intro ti76 (And.intro ti77 (And.intro ti78 (And.intro ti79 (And.intro ti80 (And.intro ti81 (And.intro ti82 (And.intro ti83 (And.intro ti84 (And.intro ti85 (And.intro ti86 (And.intro ti87 (And.intro ti88 (And.intro ti89 (And.intro ti90 (And.intro ti91 (And.intro ti92 (And.intro ti93 (And.intro ti94 (And.intro ti95 (And.intro ti96 (And.intro ti97 (And.intro ti98 (And.intro ti99 (And.intro ti100 (And.intro ti101 (And.intro ti102 (And.intro ti103 (And.intro ti104 (And.intro ti105 (And.intro ti106 (And.intro ti107 (And.intro ti108 (And.intro ti109 (And.intro ti110 (And.intro ti111 (And.intro ti112 (And.intro ti113 (And.intro ti114 (And.intro ti115 (And.intro ti116 (And.intro ti117 (And.intro ti118 (And.intro ti119 (And.intro ti120 (And.intro ti121 (And.intro ti122 (And.intro ti123 (And.intro ti124 (And.intro ti125 (And.intro ti126 (And.intro ti127 (And.intro ti128 (And.intro ti129 (And.intro ti130 (And.intro ti131 (And.intro ti132 (And.intro ti133 (And.intro ti134 (And.intro ti135 (And.intro ti136 (And.intro ti137 (And.intro ti138 (And.intro ti139 (And.intro ti140 (And.intro ti141 (And.intro ti142 ti143)))))))))))))))))))))))))))))))))))))))))))))))))))))))))))))))))))))))))))))))))))))))))))))))))))))))))))))))))))))))))))))))))))))))))))))))
def blr := (And.intro bl9s (And.intro bl10s (And.intro bl11s (And.intro bl22a (And.intro bl22b (And.intro bl22c (And.intro bl22d (And.intro bl44r (And.intro bl50a (And.intro bl50b (And.intro bl50c (And.intro bl50d (And.intro bl52a (And.intro bl52b (And.intro bl52c (And.intro bl52d (And.intro bl53a (And.intro bl53b (And.intro bl53c (And.intro bl53d (And.intro bl70a (And.intro bl70b (And.intro bl70c (And.intro bl70d (And.intro bl114a (And.intro bl114b (And.intro bl114c (And.intro bl114d bl131r))))))))))))))))))))))))))))
def fgr := (And.intro fg2 (And.intro fg3 (And.intro fg4 (And.intro fg5 (And.intro fg6 (And.intro fg7 (And.intro fg8 (And.intro fg9 (And.intro fg10 (And.intro fg11 (And.intro fg12 (And.intro fg13 (And.intro fg14 (And.intro fg15 (And.intro fg16 (And.intro fg17 (And.intro fg18 (And.intro fg19 (And.intro fg20 (And.intro fg21 (And.intro fg22 (And.intro fg23 (And.intro fg24 (And.intro fg25 (And.intro fg26 (And.intro fg27 (And.intro fg28 (And.intro fg29 (And.intro fg30 (And.intro fg31 (And.intro fg32 (And.intro fg33 (And.intro fg34 (And.intro fg35 (And.intro fg36 (And.intro fg37 (And.intro fg38 (And.intro fg39 (And.intro fg40 (And.intro fg41 (And.intro fg42 (And.intro fg43 (And.intro fg44 (And.intro fg45 (And.intro fg46 (And.intro fg47 (And.intro fg48 (And.intro fg49 (And.intro fg50 (And.intro fg51 (And.intro fg52 (And.intro fg53 (And.intro fg54 (And.intro fg55 (And.intro fg56 (And.intro fg57 (And.intro fg58 (And.intro fg59 (And.intro fg60 (And.intro fg61 (And.intro fg62 (And.intro fg63 (And.intro fg64 (And.intro fg65 (And.intro fg66 (And.intro fg67 (And.intro fg68 (And.intro fg69 (And.intro fg70 (And.intro fg71 (And.intro fg72 (And.intro fg73 (And.intro fg74 (And.intro fg75 (And.intro fg76 (And.intro fg77 (And.intro fg78 (And.intro fg79 (And.intro fg80 (And.intro fg81 (And.intro fg82 (And.intro fg83 (And.intro fg84 (And.intro fg85 (And.intro fg86 (And.intro fg87 (And.intro fg88 (And.intro fg89 (And.intro fg90 (And.intro fg91 (And.intro fg92 (And.intro fg93 (And.intro fg94 (And.intro fg95 (And.intro fg96 (And.intro fg97 (And.intro fg98 (And.intro fg99 (And.intro fg100 (And.intro fg101 (And.intro fg102 (And.intro fg103 (And.intro fg104 (And.intro fg105 (And.intro fg106 (And.intro fg107 (And.intro fg108 (And.intro fg109 (And.intro fg110 (And.intro (NB 2 rfl) (And.intro (NB 3 rfl) (And.intro (NB 4 rfl) (And.intro (NB 5 rfl) (And.intro (NB 6 rfl) (And.intro (NB 7 rfl) (And.intro (NB 8 rfl) (And.intro (NB 9 rfl) (And.intro (NB 10 rfl) (And.intro (NB 11 rfl) (And.intro (NB 12 rfl) (And.intro (NB 13 rfl) (And.intro (NB 14 rfl) (And.intro (NB 15 rfl) (And.intro (NB 16 rfl) (And.intro (NB 17 rfl) (And.intro (NB 18 rfl) (And.intro (NB 19 rfl) (And.intro (NB 20 rfl) (And.intro (NB 21 rfl) (And.intro (NB 22 rfl) (And.intro (NB 23 rfl) (And.intro (NB 24 rfl) (And.intro (NB 25 rfl) (And.intro (NB 26 rfl) (And.intro (NB 27 rfl) (And.intro (NB 28 rfl) (And.intro (NB 29 rfl) (And.intro (NB 30 rfl) (And.intro (NB 31 rfl) (And.intro (NB 32 rfl) (And.intro (NB 33 rfl) (And.intro (NB 34 rfl) (And.intro (NB 35 rfl) (And.intro (NB 36 rfl) (And.intro (NB 37 rfl) (And.intro (NB 38 rfl) (And.intro (NB 39 rfl) (And.intro (NB 40 rfl) (And.intro (NB 41 rfl) (And.intro (NB 42 rfl) (And.intro (NB 43 rfl) (And.intro (NB 44 rfl) (And.intro (NB 45 rfl) (And.intro (NB 46 rfl) (And.intro (NB 47 rfl) (And.intro (NB 48 rfl) (And.intro (NB 49 rfl) (And.intro (NB 50 rfl) (And.intro (NB 51 rfl) (And.intro (NB 52 rfl) (And.intro (NB 53 rfl) (And.intro (NB 54 rfl) (And.intro (NB 55 rfl) (And.intro (NB 56 rfl) (And.intro (NB 57 rfl) (And.intro (NB 58 rfl) (And.intro (NB 59 rfl) (And.intro (NB 60 rfl) (And.intro (NB 61 rfl) (And.intro (NB 62 rfl) (And.intro (NB 63 rfl) (And.intro (NB 64 rfl) (And.intro (NB 65 rfl) (And.intro (NB 66 rfl) (And.intro (NB 67 rfl) (And.intro (NB 68 rfl) (And.intro (NB 69 rfl) (And.intro (NB 70 rfl) (And.intro (NB 71 rfl) (And.intro (NB 72 rfl) (And.intro (NB 73 rfl) (And.intro (NB 74 rfl) (And.intro (NB 75 rfl) (And.intro (NB 76 rfl) (And.intro (NB 77 rfl) (And.intro (NB 78 rfl) (And.intro (NB 79 rfl) (And.intro (NB 80 rfl) (And.intro (NB 81 rfl) (And.intro (NB 82 rfl) (And.intro (NB 83 rfl) (And.intro (NB 84 rfl) (And.intro (NB 85 rfl) (And.intro (NB 86 rfl) (And.intro (NB 87 rfl) (And.intro (NB 88 rfl) (And.intro (NB 89 rfl) (And.intro (NB 90 rfl) (And.intro (NB 91 rfl) (And.intro (NB 92 rfl) (And.intro (NB 93 rfl) (And.intro (NB 94 rfl) (And.intro (NB 95 rfl) (And.intro (NB 96 rfl) (And.intro (NB 97 rfl) (And.intro (NB 98 rfl) (And.intro (NB 99 rfl) (And.intro (NB 100 rfl) (And.intro (NB 101 rfl) (And.intro (NB 102 rfl) (And.intro (NB 103 rfl) (And.intro (NB 104 rfl) (And.intro (NB 105 rfl) (And.intro (NB 106 rfl) (And.intro (NB 107 rfl) (And.intro (NB 108 rfl) (And.intro (NB 109 rfl) (NB 110 rfl))))))))))))))))))))))))))))))))))))))))))))))))))))))))))))))))))))))))))))))))))))))))))))))))))))))))))))))))))))))))))))))))))))))))))))))))))))))))))))))))))))))))))))))))))))))))))))))))))))))))))))))))))))))))))
def hkr := (And.intro (HK 2 rfl) (And.intro (HK 3 rfl) (And.intro (HK 4 rfl) (And.intro (HK 5 rfl) (And.intro (HK 6 rfl) (And.intro (HK 7 rfl) (And.intro (HK 8 rfl) (And.intro (HK 9 rfl) (And.intro (HK 10 rfl) (And.intro (HK 11 rfl) (And.intro (HK 12 rfl) (And.intro (HK 13 rfl) (And.intro (HK 14 rfl) (And.intro (HK 15 rfl) (And.intro (HK 16 rfl) (And.intro (HK 17 rfl) (And.intro (HK 18 rfl) (And.intro (HK 19 rfl) (And.intro (HK 20 rfl) (And.intro (HK 21 rfl) (And.intro (HK 22 rfl) (And.intro (HK 23 rfl) (And.intro (HK 24 rfl) (And.intro (HK 25 rfl) (And.intro (HK 26 rfl) (And.intro (HK 27 rfl) (And.intro (HK 28 rfl) (And.intro (HK 29 rfl) (And.intro (HK 30 rfl) (And.intro (HK 31 rfl) (And.intro (HK 32 rfl) (And.intro (HK 33 rfl) (And.intro (HK 34 rfl) (And.intro (HK 35 rfl) (And.intro (HK 36 rfl) (And.intro (HK 37 rfl) (And.intro (HK 38 rfl) (And.intro (HK 39 rfl) (And.intro (HK 40 rfl) (And.intro (HK 41 rfl) (And.intro (HK 42 rfl) (And.intro (HK 43 rfl) (And.intro (HK 44 rfl) (And.intro (HK 45 rfl) (And.intro (HK 46 rfl) (And.intro (HK 47 rfl) (And.intro (HK 48 rfl) (And.intro (HK 49 rfl) (And.intro (HK 50 rfl) (And.intro (HK 51 rfl) (And.intro (HK 52 rfl) (And.intro (HK 53 rfl) (And.intro (HK 54 rfl) (And.intro (HK 55 rfl) (And.intro (HK 56 rfl) (And.intro (HK 57 rfl) (And.intro (HK 58 rfl) (And.intro (HK 59 rfl) (And.intro (HK 60 rfl) (And.intro (HK 61 rfl) (And.intro (HK 62 rfl) (And.intro (HK 63 rfl) (And.intro (HK 64 rfl) (And.intro (HK 65 rfl) (And.intro (HK 66 rfl) (And.intro (HK 67 rfl) (And.intro (HK 68 rfl) (And.intro (HK 69 rfl) (And.intro (HK 70 rfl) (And.intro (HK 71 rfl) (And.intro (HK 72 rfl) (And.intro (HK 73 rfl) (And.intro (HK 74 rfl) (And.intro (HK 75 rfl) (And.intro (HK 76 rfl) (And.intro (HK 77 rfl) (And.intro (HK 78 rfl) (And.intro (HK 79 rfl) (And.intro (HK 80 rfl) (And.intro (HK 81 rfl) (And.intro (HK 82 rfl) (And.intro (HK 83 rfl) (And.intro (HK 84 rfl) (And.intro (HK 85 rfl) (And.intro (HK 86 rfl) (And.intro (HK 87 rfl) (And.intro (HK 88 rfl) (And.intro (HK 89 rfl) (And.intro (HK 90 rfl) (And.intro (HK 91 rfl) (And.intro (HK 92 rfl) (And.intro (HK 93 rfl) (And.intro (HK 94 rfl) (And.intro (HK 95 rfl) (And.intro (HK 96 rfl) (And.intro (HK 97 rfl) (And.intro (HK 98 rfl) (And.intro (HK 99 rfl) (And.intro (HK 100 rfl) (And.intro (HK 101 rfl) (And.intro (HK 102 rfl) (And.intro (HK 103 rfl) (And.intro (HK 104 rfl) (And.intro (HK 105 rfl) (And.intro (HK 106 rfl) (And.intro (HK 107 rfl) (And.intro (HK 108 rfl) (And.intro (HK 109 rfl) (HK 110 rfl)))))))))))))))))))))))))))))))))))))))))))))))))))))))))))))))))))))))))))))))))))))))))))))))))))))))))))))
end Go.Am.Ytmoplhbncjicbaa
