import Derived.Test.YtmlagocbphoedaaAoN
import Derived.KernelRfl
import Derived.Test.YtmlagocbphoedaaProg
set_option maxRecDepth 100000
set_option linter.defProp false
namespace Go.Am.Ytmlagocbphoedaa
open Go Go.Am Go.Proofs
noncomputable def ty0 : TE Try.prog := ⟨0, ⟨Try.t0.desc, 1, 0, .tup []⟩, ⟨⟨Try.t0, _, rfl, rfl, rfl, rfl, rfl⟩, rfl, rfl, Try.underlying0⟩⟩
noncomputable def ty1 : TE Try.prog := ⟨1, ⟨Try.t1.desc, 1, 8, .nilf⟩, ⟨⟨Try.t1, _, rfl, rfl, rfl, rfl, rfl⟩, rfl, rfl, Try.underlying1⟩⟩
noncomputable def ty2 : TE Try.prog := ⟨2, ⟨Try.t2.desc, 1, 8, .int .i64 (0)⟩, ⟨⟨Try.t2, _, rfl, rfl, rfl, rfl, rfl⟩, rfl, rfl, Try.underlying2⟩⟩
noncomputable def ty3 : TE Try.prog := ⟨3, ⟨Try.t3.desc, 1, 8, .int .i64 (0)⟩, ⟨⟨Try.t3, _, rfl, rfl, rfl, rfl, rfl⟩, rfl, rfl, Try.underlying3⟩⟩
noncomputable def ty4 : TE Try.prog := ⟨4, ⟨Try.t4.desc, 1, 1, .bool false⟩, ⟨⟨Try.t4, _, rfl, rfl, rfl, rfl, rfl⟩, rfl, rfl, Try.underlying4⟩⟩
noncomputable def ty5 : TE Try.prog := ⟨5, ⟨Try.t5.desc, 1, 1, .int .u8 (0)⟩, ⟨⟨Try.t5, _, rfl, rfl, rfl, rfl, rfl⟩, rfl, rfl, Try.underlying5⟩⟩
noncomputable def ty6 : TE Try.prog := ⟨6, ⟨Try.t5.desc, 1, 1, .int .u8 (0)⟩, ⟨⟨Try.t6, _, rfl, rfl, rfl, rfl, rfl⟩, rfl, rfl, Try.underlying6⟩⟩
noncomputable def ty7 : TE Try.prog := ⟨7, ⟨Try.t7.desc, 4, 24, .agg [.int .i64 (0), .int .i64 (0), .bool false, .int .u8 (0)]⟩, ⟨⟨Try.t7, _, rfl, rfl, rfl, rfl, rfl⟩, rfl, rfl, Try.underlying7⟩⟩
noncomputable def ty8 : TE Try.prog := ⟨8, ⟨Try.t7.desc, 4, 24, .agg [.int .i64 (0), .int .i64 (0), .bool false, .int .u8 (0)]⟩, ⟨⟨Try.t8, _, rfl, rfl, rfl, rfl, rfl⟩, rfl, rfl, Try.underlying8⟩⟩
noncomputable def ty9 : TE Try.prog := ⟨9, ⟨Try.t9.desc, 1, 16, .str []⟩, ⟨⟨Try.t9, _, rfl, rfl, rfl, rfl, rfl⟩, rfl, rfl, Try.underlying9⟩⟩
noncomputable def ty10 : TE Try.prog := ⟨10, ⟨Try.t9.desc, 1, 16, .str []⟩, ⟨⟨Try.t10, _, rfl, rfl, rfl, rfl, rfl⟩, rfl, rfl, Try.underlying10⟩⟩
noncomputable def ty11 : TE Try.prog := ⟨11, ⟨Try.t9.desc, 1, 16, .str []⟩, ⟨⟨Try.t11, _, rfl, rfl, rfl, rfl, rfl⟩, rfl, rfl, Try.underlying11⟩⟩
noncomputable def ty12 : TE Try.prog := ⟨12, ⟨Try.t12.desc, 1, 8, .int .u64 (0)⟩, ⟨⟨Try.t12, _, rfl, rfl, rfl, rfl, rfl⟩, rfl, rfl, Try.underlying12⟩⟩
noncomputable def ty13 : TE Try.prog := ⟨13, ⟨Try.t13.desc, 2, 24, .agg [.str [], .int .u64 (0)]⟩, ⟨⟨Try.t13, _, rfl, rfl, rfl, rfl, rfl⟩, rfl, rfl, Try.underlying13⟩⟩
noncomputable def ty14 : TE Try.prog := ⟨14, ⟨Try.t13.desc, 2, 24, .agg [.str [], .int .u64 (0)]⟩, ⟨⟨Try.t14, _, rfl, rfl, rfl, rfl, rfl⟩, rfl, rfl, Try.underlying14⟩⟩
noncomputable def ty15 : TE Try.prog := ⟨15, ⟨Try.t15.desc, 1, 8, .nilp⟩, ⟨⟨Try.t15, _, rfl, rfl, rfl, rfl, rfl⟩, rfl, rfl, Try.underlying15⟩⟩
noncomputable def ty16 : TE Try.prog := ⟨16, ⟨Try.t16.desc, 1, 8, .nilp⟩, ⟨⟨Try.t16, _, rfl, rfl, rfl, rfl, rfl⟩, rfl, rfl, Try.underlying16⟩⟩
noncomputable def ty17 : TE Try.prog := ⟨17, ⟨Try.t17.desc, 1, 8, .nilp⟩, ⟨⟨Try.t17, _, rfl, rfl, rfl, rfl, rfl⟩, rfl, rfl, Try.underlying17⟩⟩
noncomputable def ty18 : TE Try.prog := ⟨18, ⟨Try.t18.desc, 1, 8, .agg [.nilp]⟩, ⟨⟨Try.t18, _, rfl, rfl, rfl, rfl, rfl⟩, rfl, rfl, Try.underlying18⟩⟩
noncomputable def ty19 : TE Try.prog := ⟨19, ⟨Try.t18.desc, 1, 8, .agg [.nilp]⟩, ⟨⟨Try.t19, _, rfl, rfl, rfl, rfl, rfl⟩, rfl, rfl, Try.underlying19⟩⟩
noncomputable def ty20 : TE Try.prog := ⟨20, ⟨Try.t20.desc, 1, 16, .nili⟩, ⟨⟨Try.t20, _, rfl, rfl, rfl, rfl, rfl⟩, rfl, rfl, Try.underlying20⟩⟩
noncomputable def ty21 : TE Try.prog := ⟨21, ⟨Try.t21.desc, 1, 4, .int .i32 (0)⟩, ⟨⟨Try.t21, _, rfl, rfl, rfl, rfl, rfl⟩, rfl, rfl, Try.underlying21⟩⟩
noncomputable def ty22 : TE Try.prog := ⟨22, ⟨Try.t22.desc, 1, 24, .nils⟩, ⟨⟨Try.t22, _, rfl, rfl, rfl, rfl, rfl⟩, rfl, rfl, Try.underlying22⟩⟩
noncomputable def ty23 : TE Try.prog := ⟨23, ⟨Try.t23.desc, 1, 8, .int .u64 (0)⟩, ⟨⟨Try.t23, _, rfl, rfl, rfl, rfl, rfl⟩, rfl, rfl, Try.underlying23⟩⟩
noncomputable def ty24 : TE Try.prog := ⟨24, ⟨Try.t24.desc, 4, 32, .agg [.int .u64 (0), .int .u64 (0), .int .u64 (0), .int .u64 (0)]⟩, ⟨⟨Try.t24, _, rfl, rfl, rfl, rfl, rfl⟩, rfl, rfl, Try.underlying24⟩⟩
noncomputable def ty25 : TE Try.prog := ⟨25, ⟨Try.t24.desc, 4, 32, .agg [.int .u64 (0), .int .u64 (0), .int .u64 (0), .int .u64 (0)]⟩, ⟨⟨Try.t25, _, rfl, rfl, rfl, rfl, rfl⟩, rfl, rfl, Try.underlying25⟩⟩
noncomputable def ty26 : TE Try.prog := ⟨26, ⟨Try.t3.desc, 1, 8, .int .i64 (0)⟩, ⟨⟨Try.t26, _, rfl, rfl, rfl, rfl, rfl⟩, rfl, rfl, Try.underlying26⟩⟩
noncomputable def ty27 : TE Try.prog := ⟨27, ⟨Try.t27.desc, 1, 0, .tup [.agg [.int .u64 (0), .int .u64 (0), .int .u64 (0), .int .u64 (0)], .int .i64 (0)]⟩, ⟨⟨Try.t27, _, rfl, rfl, rfl, rfl, rfl⟩, rfl, rfl, Try.underlying27⟩⟩
noncomputable def ty28 : TE Try.prog := ⟨28, ⟨Try.t28.desc, 1, 8, .nilf⟩, ⟨⟨Try.t28, _, rfl, rfl, rfl, rfl, rfl⟩, rfl, rfl, Try.underlying28⟩⟩
noncomputable def ty29 : TE Try.prog := ⟨29, ⟨Try.t29.desc, 1, 0, .tup [.agg [.int .u64 (0), .int .u64 (0), .int .u64 (0), .int .u64 (0)], .int .i64 (0)]⟩, ⟨⟨Try.t29, _, rfl, rfl, rfl, rfl, rfl⟩, rfl, rfl, Try.underlying29⟩⟩
noncomputable def ty30 : TE Try.prog := ⟨30, ⟨Try.t30.desc, 1, 8, .nilf⟩, ⟨⟨Try.t30, _, rfl, rfl, rfl, rfl, rfl⟩, rfl, rfl, Try.underlying30⟩⟩
noncomputable def ty31 : TE Try.prog := ⟨31, ⟨Try.t31.desc, 1, 8, .nilf⟩, ⟨⟨Try.t31, _, rfl, rfl, rfl, rfl, rfl⟩, rfl, rfl, Try.underlying31⟩⟩
noncomputable def ty32 : TE Try.prog := ⟨32, ⟨Try.t32.desc, 1, 8, .nilf⟩, ⟨⟨Try.t32, _, rfl, rfl, rfl, rfl, rfl⟩, rfl, rfl, Try.underlying32⟩⟩
noncomputable def ty33 : TE Try.prog := ⟨33, ⟨Try.t33.desc, 1, 8, .nilf⟩, ⟨⟨Try.t33, _, rfl, rfl, rfl, rfl, rfl⟩, rfl, rfl, Try.underlying33⟩⟩
noncomputable def ty34 : TE Try.prog := ⟨34, ⟨Try.t34.desc, 1, 8, .nilf⟩, ⟨⟨Try.t34, _, rfl, rfl, rfl, rfl, rfl⟩, rfl, rfl, Try.underlying34⟩⟩
noncomputable def ty35 : TE Try.prog := ⟨35, ⟨Try.t35.desc, 1, 4, .int .u32 (0)⟩, ⟨⟨Try.t35, _, rfl, rfl, rfl, rfl, rfl⟩, rfl, rfl, Try.underlying35⟩⟩
noncomputable def ty36 : TE Try.prog := ⟨36, ⟨Try.t36.desc, 1, 0, .tup [.int .u32 (0), .int .i64 (0)]⟩, ⟨⟨Try.t36, _, rfl, rfl, rfl, rfl, rfl⟩, rfl, rfl, Try.underlying36⟩⟩
noncomputable def ty37 : TE Try.prog := ⟨37, ⟨Try.t37.desc, 1, 8, .nilf⟩, ⟨⟨Try.t37, _, rfl, rfl, rfl, rfl, rfl⟩, rfl, rfl, Try.underlying37⟩⟩
noncomputable def ty38 : TE Try.prog := ⟨38, ⟨Try.t38.desc, 1, 8, .nilf⟩, ⟨⟨Try.t38, _, rfl, rfl, rfl, rfl, rfl⟩, rfl, rfl, Try.underlying38⟩⟩
noncomputable def ty39 : TE Try.prog := ⟨39, ⟨Try.t39.desc, 1, 8, .nilf⟩, ⟨⟨Try.t39, _, rfl, rfl, rfl, rfl, rfl⟩, rfl, rfl, Try.underlying39⟩⟩
noncomputable def ty40 : TE Try.prog := ⟨40, ⟨Try.t40.desc, 1, 8, .int .u64 (0)⟩, ⟨⟨Try.t40, _, rfl, rfl, rfl, rfl, rfl⟩, rfl, rfl, Try.underlying40⟩⟩
noncomputable def ty41 : TE Try.prog := ⟨41, ⟨Try.t41.desc, 1, 0, .tup [.agg [.int .u64 (0), .int .u64 (0), .int .u64 (0), .int .u64 (0)], .bool false]⟩, ⟨⟨Try.t41, _, rfl, rfl, rfl, rfl, rfl⟩, rfl, rfl, Try.underlying41⟩⟩
noncomputable def ty42 : TE Try.prog := ⟨42, ⟨Try.t42.desc, 1, 8, .nilf⟩, ⟨⟨Try.t42, _, rfl, rfl, rfl, rfl, rfl⟩, rfl, rfl, Try.underlying42⟩⟩
noncomputable def ty43 : TE Try.prog := ⟨43, ⟨Try.t43.desc, 1, 8, .nilf⟩, ⟨⟨Try.t43, _, rfl, rfl, rfl, rfl, rfl⟩, rfl, rfl, Try.underlying43⟩⟩
noncomputable def ty44 : TE Try.prog := ⟨44, ⟨Try.t44.desc, 1, 8, .nilf⟩, ⟨⟨Try.t44, _, rfl, rfl, rfl, rfl, rfl⟩, rfl, rfl, Try.underlying44⟩⟩
noncomputable def ty45 : TE Try.prog := ⟨45, ⟨Try.t45.desc, 1, 8, .nilf⟩, ⟨⟨Try.t45, _, rfl, rfl, rfl, rfl, rfl⟩, rfl, rfl, Try.underlying45⟩⟩
noncomputable def ty46 : TE Try.prog := ⟨46, ⟨Try.t46.desc, 32, 32, .agg [.int .u8 (0), .int .u8 (0), .int .u8 (0), .int .u8 (0), .int .u8 (0), .int .u8 (0), .int .u8 (0), .int .u8 (0), .int .u8 (0), .int .u8 (0), .int .u8 (0), .int .u8 (0), .int .u8 (0), .int .u8 (0), .int .u8 (0), .int .u8 (0), .int .u8 (0), .int .u8 (0), .int .u8 (0), .int .u8 (0), .int .u8 (0), .int .u8 (0), .int .u8 (0), .int .u8 (0), .int .u8 (0), .int .u8 (0), .int .u8 (0), .int .u8 (0), .int .u8 (0), .int .u8 (0), .int .u8 (0), .int .u8 (0)]⟩, ⟨⟨Try.t46, _, rfl, rfl, rfl, rfl, rfl⟩, rfl, rfl, Try.underlying46⟩⟩
noncomputable def ty47 : TE Try.prog := ⟨47, ⟨Try.t46.desc, 32, 32, .agg [.int .u8 (0), .int .u8 (0), .int .u8 (0), .int .u8 (0), .int .u8 (0), .int .u8 (0), .int .u8 (0), .int .u8 (0), .int .u8 (0), .int .u8 (0), .int .u8 (0), .int .u8 (0), .int .u8 (0), .int .u8 (0), .int .u8 (0), .int .u8 (0), .int .u8 (0), .int .u8 (0), .int .u8 (0), .int .u8 (0), .int .u8 (0), .int .u8 (0), .int .u8 (0), .int .u8 (0), .int .u8 (0), .int .u8 (0), .int .u8 (0), .int .u8 (0), .int .u8 (0), .int .u8 (0), .int .u8 (0), .int .u8 (0)]⟩, ⟨⟨Try.t47, _, rfl, rfl, rfl, rfl, rfl⟩, rfl, rfl, Try.underlying47⟩⟩
noncomputable def ty48 : TE Try.prog := ⟨48, ⟨Try.t48.desc, 1, 8, .nilf⟩, ⟨⟨Try.t48, _, rfl, rfl, rfl, rfl, rfl⟩, rfl, rfl, Try.underlying48⟩⟩
noncomputable def ty49 : TE Try.prog := ⟨49, ⟨Try.t49.desc, 1, 0, .tup [.int .u32 (0), .int .i64 (0)]⟩, ⟨⟨Try.t49, _, rfl, rfl, rfl, rfl, rfl⟩, rfl, rfl, Try.underlying49⟩⟩
noncomputable def ty50 : TE Try.prog := ⟨50, ⟨Try.t50.desc, 1, 8, .nilf⟩, ⟨⟨Try.t50, _, rfl, rfl, rfl, rfl, rfl⟩, rfl, rfl, Try.underlying50⟩⟩
noncomputable def ty51 : TE Try.prog := ⟨51, ⟨Try.t51.desc, 1, 8, .nilf⟩, ⟨⟨Try.t51, _, rfl, rfl, rfl, rfl, rfl⟩, rfl, rfl, Try.underlying51⟩⟩
noncomputable def ty52 : TE Try.prog := ⟨52, ⟨Try.t52.desc, 1, 8, .nilf⟩, ⟨⟨Try.t52, _, rfl, rfl, rfl, rfl, rfl⟩, rfl, rfl, Try.underlying52⟩⟩
noncomputable def ty53 : TE Try.prog := ⟨53, ⟨Try.t53.desc, 1, 8, .nilf⟩, ⟨⟨Try.t53, _, rfl, rfl, rfl, rfl, rfl⟩, rfl, rfl, Try.underlying53⟩⟩
noncomputable def ty54 : TE Try.prog := ⟨54, ⟨Try.t54.desc, 1, 8, .nilf⟩, ⟨⟨Try.t54, _, rfl, rfl, rfl, rfl, rfl⟩, rfl, rfl, Try.underlying54⟩⟩
noncomputable def ty55 : TE Try.prog := ⟨55, ⟨Try.t55.desc, 1, 0, .tup [.agg [.int .u64 (0), .int .u64 (0), .int .u64 (0), .int .u64 (0)], .agg [.int .u64 (0), .int .u64 (0), .int .u64 (0), .int .u64 (0)]]⟩, ⟨⟨Try.t55, _, rfl, rfl, rfl, rfl, rfl⟩, rfl, rfl, Try.underlying55⟩⟩
noncomputable def ty56 : TE Try.prog := ⟨56, ⟨Try.t56.desc, 1, 8, .nilf⟩, ⟨⟨Try.t56, _, rfl, rfl, rfl, rfl, rfl⟩, rfl, rfl, Try.underlying56⟩⟩
noncomputable def ty57 : TE Try.prog := ⟨57, ⟨Try.t57.desc, 1, 8, .nilf⟩, ⟨⟨Try.t57, _, rfl, rfl, rfl, rfl, rfl⟩, rfl, rfl, Try.underlying57⟩⟩
noncomputable def ty58 : TE Try.prog := ⟨58, ⟨Try.t58.desc, 1, 8, .nilf⟩, ⟨⟨Try.t58, _, rfl, rfl, rfl, rfl, rfl⟩, rfl, rfl, Try.underlying58⟩⟩
noncomputable def ty59 : TE Try.prog := ⟨59, ⟨Try.t59.desc, 9, 72, .agg [.int .u32 (0), .int .i64 (0), .int .i64 (0), .int .i64 (0), .int .i64 (0), .int .i64 (0), .int .i64 (0), .int .i64 (0), .int .u32 (0)]⟩, ⟨⟨Try.t59, _, rfl, rfl, rfl, rfl, rfl⟩, rfl, rfl, Try.underlying59⟩⟩
noncomputable def ty60 : TE Try.prog := ⟨60, ⟨Try.t59.desc, 9, 72, .agg [.int .u32 (0), .int .i64 (0), .int .i64 (0), .int .i64 (0), .int .i64 (0), .int .i64 (0), .int .i64 (0), .int .i64 (0), .int .u32 (0)]⟩, ⟨⟨Try.t60, _, rfl, rfl, rfl, rfl, rfl⟩, rfl, rfl, Try.underlying60⟩⟩
noncomputable def ty61 : TE Try.prog := ⟨61, ⟨Try.t61.desc, 1, 8, .nilf⟩, ⟨⟨Try.t61, _, rfl, rfl, rfl, rfl, rfl⟩, rfl, rfl, Try.underlying61⟩⟩
noncomputable def ty62 : TE Try.prog := ⟨62, ⟨Try.t62.desc, 1, 24, .nils⟩, ⟨⟨Try.t62, _, rfl, rfl, rfl, rfl, rfl⟩, rfl, rfl, Try.underlying62⟩⟩
noncomputable def ty63 : TE Try.prog := ⟨63, ⟨Try.t63.desc, 68, 80, .agg [.int .u32 (0), .int .u8 (0), .int .u8 (0), .int .u8 (0), .int .u8 (0), .int .u8 (0), .int .u8 (0), .int .u8 (0), .int .u8 (0), .int .u8 (0), .int .u8 (0), .int .u8 (0), .int .u8 (0), .int .u8 (0), .int .u8 (0), .int .u8 (0), .int .u8 (0), .int .u8 (0), .int .u8 (0), .int .u8 (0), .int .u8 (0), .int .u8 (0), .int .u8 (0), .int .u8 (0), .int .u8 (0), .int .u8 (0), .int .u8 (0), .int .u8 (0), .int .u8 (0), .int .u8 (0), .int .u8 (0), .int .u8 (0), .int .u8 (0), .int .u8 (0), .int .u8 (0), .int .u8 (0), .int .u8 (0), .int .u8 (0), .int .u8 (0), .int .u8 (0), .int .u8 (0), .int .u8 (0), .int .u8 (0), .int .u8 (0), .int .u8 (0), .int .u8 (0), .int .u8 (0), .int .u8 (0), .int .u8 (0), .int .u8 (0), .int .u8 (0), .int .u8 (0), .int .u8 (0), .int .u8 (0), .int .u8 (0), .int .u8 (0), .int .u8 (0), .int .u8 (0), .int .u8 (0), .int .u8 (0), .int .u8 (0), .int .u8 (0), .int .u8 (0), .int .u8 (0), .int .u8 (0), .int .u32 (0), .int .u32 (0), .int .u32 (0)]⟩, ⟨⟨Try.t63, _, rfl, rfl, rfl, rfl, rfl⟩, rfl, rfl, Try.underlying63⟩⟩
noncomputable def ty64 : TE Try.prog := ⟨64, ⟨Try.t63.desc, 68, 80, .agg [.int .u32 (0), .int .u8 (0), .int .u8 (0), .int .u8 (0), .int .u8 (0), .int .u8 (0), .int .u8 (0), .int .u8 (0), .int .u8 (0), .int .u8 (0), .int .u8 (0), .int .u8 (0), .int .u8 (0), .int .u8 (0), .int .u8 (0), .int .u8 (0), .int .u8 (0), .int .u8 (0), .int .u8 (0), .int .u8 (0), .int .u8 (0), .int .u8 (0), .int .u8 (0), .int .u8 (0), .int .u8 (0), .int .u8 (0), .int .u8 (0), .int .u8 (0), .int .u8 (0), .int .u8 (0), .int .u8 (0), .int .u8 (0), .int .u8 (0), .int .u8 (0), .int .u8 (0), .int .u8 (0), .int .u8 (0), .int .u8 (0), .int .u8 (0), .int .u8 (0), .int .u8 (0), .int .u8 (0), .int .u8 (0), .int .u8 (0), .int .u8 (0), .int .u8 (0), .int .u8 (0), .int .u8 (0), .int .u8 (0), .int .u8 (0), .int .u8 (0), .int .u8 (0), .int .u8 (0), .int .u8 (0), .int .u8 (0), .int .u8 (0), .int .u8 (0), .int .u8 (0), .int .u8 (0), .int .u8 (0), .int .u8 (0), .int .u8 (0), .int .u8 (0), .int .u8 (0), .int .u8 (0), .int .u32 (0), .int .u32 (0), .int .u32 (0)]⟩, ⟨⟨Try.t64, _, rfl, rfl, rfl, rfl, rfl⟩, rfl, rfl, Try.underlying64⟩⟩
noncomputable def ty65 : TE Try.prog := ⟨65, ⟨Try.t65.desc, 1, 8, .nilf⟩, ⟨⟨Try.t65, _, rfl, rfl, rfl, rfl, rfl⟩, rfl, rfl, Try.underlying65⟩⟩
noncomputable def ty66 : TE Try.prog := ⟨66, ⟨Try.t66.desc, 1, 8, .nilf⟩, ⟨⟨Try.t66, _, rfl, rfl, rfl, rfl, rfl⟩, rfl, rfl, Try.underlying66⟩⟩
noncomputable def ty67 : TE Try.prog := ⟨67, ⟨Try.t67.desc, 1, 8, .nilf⟩, ⟨⟨Try.t67, _, rfl, rfl, rfl, rfl, rfl⟩, rfl, rfl, Try.underlying67⟩⟩
noncomputable def ty68 : TE Try.prog := ⟨68, ⟨Try.t68.desc, 1, 8, .nilp⟩, ⟨⟨Try.t68, _, rfl, rfl, rfl, rfl, rfl⟩, rfl, rfl, Try.underlying68⟩⟩
noncomputable def ty69 : TE Try.prog := ⟨69, ⟨Try.t69.desc, 1, 8, .nilf⟩, ⟨⟨Try.t69, _, rfl, rfl, rfl, rfl, rfl⟩, rfl, rfl, Try.underlying69⟩⟩
noncomputable def ty70 : TE Try.prog := ⟨70, ⟨Try.t70.desc, 1, 0, .tup [.agg [.int .u64 (0), .int .u64 (0), .int .u64 (0), .int .u64 (0)], .agg [.int .u64 (0), .int .u64 (0), .int .u64 (0), .int .u64 (0)], .int .i64 (0)]⟩, ⟨⟨Try.t70, _, rfl, rfl, rfl, rfl, rfl⟩, rfl, rfl, Try.underlying70⟩⟩
noncomputable def ty71 : TE Try.prog := ⟨71, ⟨Try.t71.desc, 1, 8, .nilf⟩, ⟨⟨Try.t71, _, rfl, rfl, rfl, rfl, rfl⟩, rfl, rfl, Try.underlying71⟩⟩
noncomputable def ty72 : TE Try.prog := ⟨72, ⟨Try.t72.desc, 1, 8, .nilf⟩, ⟨⟨Try.t72, _, rfl, rfl, rfl, rfl, rfl⟩, rfl, rfl, Try.underlying72⟩⟩
noncomputable def ty73 : TE Try.prog := ⟨73, ⟨Try.t73.desc, 1, 8, .nilf⟩, ⟨⟨Try.t73, _, rfl, rfl, rfl, rfl, rfl⟩, rfl, rfl, Try.underlying73⟩⟩
noncomputable def ty74 : TE Try.prog := ⟨74, ⟨Try.t74.desc, 1, 8, .nilf⟩, ⟨⟨Try.t74, _, rfl, rfl, rfl, rfl, rfl⟩, rfl, rfl, Try.underlying74⟩⟩
noncomputable def ty75 : TE Try.prog := ⟨75, ⟨Try.t75.desc, 1, 8, .nilf⟩, ⟨⟨Try.t75, _, rfl, rfl, rfl, rfl, rfl⟩, rfl, rfl, Try.underlying75⟩⟩
noncomputable def ty76 : TE Try.prog := ⟨76, ⟨Try.t76.desc, 1, 8, .nilf⟩, ⟨⟨Try.t76, _, rfl, rfl, rfl, rfl, rfl⟩, rfl, rfl, Try.underlying76⟩⟩
noncomputable def ty77 : TE Try.prog := ⟨77, ⟨Try.t77.desc, 1, 8, .nilf⟩, ⟨⟨Try.t77, _, rfl, rfl, rfl, rfl, rfl⟩, rfl, rfl, Try.underlying77⟩⟩
noncomputable def ty78 : TE Try.prog := ⟨78, ⟨Try.t78.desc, 1, 24, .nils⟩, ⟨⟨Try.t78, _, rfl, rfl, rfl, rfl, rfl⟩, rfl, rfl, Try.underlying78⟩⟩
noncomputable def ty79 : TE Try.prog := ⟨79, ⟨Try.t79.desc, 1, 8, .nilf⟩, ⟨⟨Try.t79, _, rfl, rfl, rfl, rfl, rfl⟩, rfl, rfl, Try.underlying79⟩⟩
noncomputable def ty80 : TE Try.prog := ⟨80, ⟨Try.t80.desc, 1, 8, .nilf⟩, ⟨⟨Try.t80, _, rfl, rfl, rfl, rfl, rfl⟩, rfl, rfl, Try.underlying80⟩⟩
noncomputable def ty81 : TE Try.prog := ⟨81, ⟨Try.t81.desc, 1, 8, .nilf⟩, ⟨⟨Try.t81, _, rfl, rfl, rfl, rfl, rfl⟩, rfl, rfl, Try.underlying81⟩⟩
noncomputable def ty82 : TE Try.prog := ⟨82, ⟨Try.t81.desc, 1, 8, .nilf⟩, ⟨⟨Try.t82, _, rfl, rfl, rfl, rfl, rfl⟩, rfl, rfl, Try.underlying82⟩⟩
noncomputable def ty83 : TE Try.prog := ⟨83, ⟨Try.t83.desc, 1, 8, .nilf⟩, ⟨⟨Try.t83, _, rfl, rfl, rfl, rfl, rfl⟩, rfl, rfl, Try.underlying83⟩⟩
noncomputable def ty84 : TE Try.prog := ⟨84, ⟨Try.t84.desc, 1, 0, .tup [.int .u64 (0), .int .u64 (0)]⟩, ⟨⟨Try.t84, _, rfl, rfl, rfl, rfl, rfl⟩, rfl, rfl, Try.underlying84⟩⟩
noncomputable def ty85 : TE Try.prog := ⟨85, ⟨Try.t85.desc, 1, 8, .nilf⟩, ⟨⟨Try.t85, _, rfl, rfl, rfl, rfl, rfl⟩, rfl, rfl, Try.underlying85⟩⟩
noncomputable def ty86 : TE Try.prog := ⟨86, ⟨Try.t86.desc, 1, 24, .nils⟩, ⟨⟨Try.t86, _, rfl, rfl, rfl, rfl, rfl⟩, rfl, rfl, Try.underlying86⟩⟩
noncomputable def ty87 : TE Try.prog := ⟨87, ⟨Try.t87.desc, 1, 8, .nilf⟩, ⟨⟨Try.t87, _, rfl, rfl, rfl, rfl, rfl⟩, rfl, rfl, Try.underlying87⟩⟩
noncomputable def ty88 : TE Try.prog := ⟨88, ⟨Try.t88.desc, 1, 8, .nilf⟩, ⟨⟨Try.t88, _, rfl, rfl, rfl, rfl, rfl⟩, rfl, rfl, Try.underlying88⟩⟩
noncomputable def ty89 : TE Try.prog := ⟨89, ⟨Try.t89.desc, 8, 64, .agg [.int .u64 (0), .int .u64 (0), .int .u64 (0), .int .u64 (0), .int .u64 (0), .int .u64 (0), .int .u64 (0), .int .u64 (0)]⟩, ⟨⟨Try.t89, _, rfl, rfl, rfl, rfl, rfl⟩, rfl, rfl, Try.underlying89⟩⟩
noncomputable def ty90 : TE Try.prog := ⟨90, ⟨Try.t90.desc, 1, 8, .nilf⟩, ⟨⟨Try.t90, _, rfl, rfl, rfl, rfl, rfl⟩, rfl, rfl, Try.underlying90⟩⟩
noncomputable def ty91 : TE Try.prog := ⟨91, ⟨Try.t91.desc, 1, 24, .nils⟩, ⟨⟨Try.t91, _, rfl, rfl, rfl, rfl, rfl⟩, rfl, rfl, Try.underlying91⟩⟩
noncomputable def ty92 : TE Try.prog := ⟨92, ⟨Try.t92.desc, 1, 8, .nilf⟩, ⟨⟨Try.t92, _, rfl, rfl, rfl, rfl, rfl⟩, rfl, rfl, Try.underlying92⟩⟩
noncomputable def ty93 : TE Try.prog := ⟨93, ⟨Try.t93.desc, 1, 8, .nilf⟩, ⟨⟨Try.t93, _, rfl, rfl, rfl, rfl, rfl⟩, rfl, rfl, Try.underlying93⟩⟩
noncomputable def ty94 : TE Try.prog := ⟨94, ⟨Try.t94.desc, 1, 8, .nilf⟩, ⟨⟨Try.t94, _, rfl, rfl, rfl, rfl, rfl⟩, rfl, rfl, Try.underlying94⟩⟩
noncomputable def ty95 : TE Try.prog := ⟨95, ⟨Try.t95.desc, 1, 8, .nilf⟩, ⟨⟨Try.t95, _, rfl, rfl, rfl, rfl, rfl⟩, rfl, rfl, Try.underlying95⟩⟩
noncomputable def ty96 : TE Try.prog := ⟨96, ⟨Try.t96.desc, 1, 8, .nilf⟩, ⟨⟨Try.t96, _, rfl, rfl, rfl, rfl, rfl⟩, rfl, rfl, Try.underlying96⟩⟩
noncomputable def ty97 : TE Try.prog := ⟨97, ⟨Try.t97.desc, 1, 8, .nilf⟩, ⟨⟨Try.t97, _, rfl, rfl, rfl, rfl, rfl⟩, rfl, rfl, Try.underlying97⟩⟩
noncomputable def ty98 : TE Try.prog := ⟨98, ⟨Try.t97.desc, 1, 8, .nilf⟩, ⟨⟨Try.t98, _, rfl, rfl, rfl, rfl, rfl⟩, rfl, rfl, Try.underlying98⟩⟩
noncomputable def ty99 : TE Try.prog := ⟨99, ⟨Try.t99.desc, 1, 8, .nilf⟩, ⟨⟨Try.t99, _, rfl, rfl, rfl, rfl, rfl⟩, rfl, rfl, Try.underlying99⟩⟩
noncomputable def ty100 : TE Try.prog := ⟨100, ⟨Try.t100.desc, 1, 0, .tup [.nils, .int .i64 (0)]⟩, ⟨⟨Try.t100, _, rfl, rfl, rfl, rfl, rfl⟩, rfl, rfl, Try.underlying100⟩⟩
noncomputable def ty101 : TE Try.prog := ⟨101, ⟨Try.t101.desc, 1, 8, .nilf⟩, ⟨⟨Try.t101, _, rfl, rfl, rfl, rfl, rfl⟩, rfl, rfl, Try.underlying101⟩⟩
noncomputable def ty102 : TE Try.prog := ⟨102, ⟨Try.t102.desc, 1, 8, .nilf⟩, ⟨⟨Try.t102, _, rfl, rfl, rfl, rfl, rfl⟩, rfl, rfl, Try.underlying102⟩⟩
noncomputable def ty103 : TE Try.prog := ⟨103, ⟨Try.t103.desc, 1, 8, .nilf⟩, ⟨⟨Try.t103, _, rfl, rfl, rfl, rfl, rfl⟩, rfl, rfl, Try.underlying103⟩⟩
noncomputable def ty104 : TE Try.prog := ⟨104, ⟨Try.t104.desc, 1, 8, .nilf⟩, ⟨⟨Try.t104, _, rfl, rfl, rfl, rfl, rfl⟩, rfl, rfl, Try.underlying104⟩⟩
noncomputable def ty105 : TE Try.prog := ⟨105, ⟨Try.t105.desc, 1, 24, .nils⟩, ⟨⟨Try.t105, _, rfl, rfl, rfl, rfl, rfl⟩, rfl, rfl, Try.underlying105⟩⟩
noncomputable def ty106 : TE Try.prog := ⟨106, ⟨Try.t106.desc, 1, 8, .nilf⟩, ⟨⟨Try.t106, _, rfl, rfl, rfl, rfl, rfl⟩, rfl, rfl, Try.underlying106⟩⟩
noncomputable def ty107 : TE Try.prog := ⟨107, ⟨Try.t107.desc, 1, 8, .nilf⟩, ⟨⟨Try.t107, _, rfl, rfl, rfl, rfl, rfl⟩, rfl, rfl, Try.underlying107⟩⟩
noncomputable def ty108 : TE Try.prog := ⟨108, ⟨Try.t108.desc, 1, 8, .nilf⟩, ⟨⟨Try.t108, _, rfl, rfl, rfl, rfl, rfl⟩, rfl, rfl, Try.underlying108⟩⟩
noncomputable def ty109 : TE Try.prog := ⟨109, ⟨Try.t109.desc, 4, 40, .agg [.nilp, .nilp, .nilp, .str []]⟩, ⟨⟨Try.t109, _, rfl, rfl, rfl, rfl, rfl⟩, rfl, rfl, Try.underlying109⟩⟩
noncomputable def ty110 : TE Try.prog := ⟨110, ⟨Try.t109.desc, 4, 40, .agg [.nilp, .nilp, .nilp, .str []]⟩, ⟨⟨Try.t110, _, rfl, rfl, rfl, rfl, rfl⟩, rfl, rfl, Try.underlying110⟩⟩
noncomputable def ty111 : TE Try.prog := ⟨111, ⟨Try.t111.desc, 0, 0, .agg []⟩, ⟨⟨Try.t111, _, rfl, rfl, rfl, rfl, rfl⟩, rfl, rfl, Try.underlying111⟩⟩
noncomputable def ty112 : TE Try.prog := ⟨112, ⟨Try.t112.desc, 0, 0, .agg []⟩, ⟨⟨Try.t112, _, rfl, rfl, rfl, rfl, rfl⟩, rfl, rfl, Try.underlying112⟩⟩
noncomputable def ty113 : TE Try.prog := ⟨113, ⟨Try.t112.desc, 0, 0, .agg []⟩, ⟨⟨Try.t113, _, rfl, rfl, rfl, rfl, rfl⟩, rfl, rfl, Try.underlying113⟩⟩
noncomputable def ty114 : TE Try.prog := ⟨114, ⟨Try.t114.desc, 1, 8, .nilf⟩, ⟨⟨Try.t114, _, rfl, rfl, rfl, rfl, rfl⟩, rfl, rfl, Try.underlying114⟩⟩
noncomputable def ty115 : TE Try.prog := ⟨115, ⟨Try.t5.desc, 1, 1, .int .u8 (0)⟩, ⟨⟨Try.t115, _, rfl, rfl, rfl, rfl, rfl⟩, rfl, rfl, Try.underlying115⟩⟩
noncomputable def ty116 : TE Try.prog := ⟨116, ⟨Try.t5.desc, 1, 1, .int .u8 (0)⟩, ⟨⟨Try.t116, _, rfl, rfl, rfl, rfl, rfl⟩, rfl, rfl, Try.underlying116⟩⟩
noncomputable def ty117 : TE Try.prog := ⟨117, ⟨Try.t117.desc, 1, 8, .nilf⟩, ⟨⟨Try.t117, _, rfl, rfl, rfl, rfl, rfl⟩, rfl, rfl, Try.underlying117⟩⟩
noncomputable def ty118 : TE Try.prog := ⟨118, ⟨Try.t118.desc, 1, 8, .nilp⟩, ⟨⟨Try.t118, _, rfl, rfl, rfl, rfl, rfl⟩, rfl, rfl, Try.underlying118⟩⟩
noncomputable def ty119 : TE Try.prog := ⟨119, ⟨Try.t21.desc, 1, 4, .int .i32 (0)⟩, ⟨⟨Try.t119, _, rfl, rfl, rfl, rfl, rfl⟩, rfl, rfl, Try.underlying119⟩⟩
noncomputable def ty120 : TE Try.prog := ⟨120, ⟨Try.t21.desc, 1, 4, .int .i32 (0)⟩, ⟨⟨Try.t120, _, rfl, rfl, rfl, rfl, rfl⟩, rfl, rfl, Try.underlying120⟩⟩
noncomputable def ty121 : TE Try.prog := ⟨121, ⟨Try.t121.desc, 11, 48, .agg [.int .u64 (0), .int .u64 (0), .int .u32 (0), .int .u8 (0), .int .u8 (0), .int .u8 (0), .int .u8 (0), .nilf, .nilp, .int .i32 (0), .int .i32 (0)]⟩, ⟨⟨Try.t121, _, rfl, rfl, rfl, rfl, rfl⟩, rfl, rfl, Try.underlying121⟩⟩
noncomputable def ty122 : TE Try.prog := ⟨122, ⟨Try.t121.desc, 11, 48, .agg [.int .u64 (0), .int .u64 (0), .int .u32 (0), .int .u8 (0), .int .u8 (0), .int .u8 (0), .int .u8 (0), .nilf, .nilp, .int .i32 (0), .int .i32 (0)]⟩, ⟨⟨Try.t122, _, rfl, rfl, rfl, rfl, rfl⟩, rfl, rfl, Try.underlying122⟩⟩
noncomputable def ty123 : TE Try.prog := ⟨123, ⟨Try.t123.desc, 1, 8, .nilp⟩, ⟨⟨Try.t123, _, rfl, rfl, rfl, rfl, rfl⟩, rfl, rfl, Try.underlying123⟩⟩
noncomputable def fu2 : FE Try.prog := ⟨2, ⟨Try.f2.body.getD .skip, 1, [], some [false]⟩, ⟨⟨Try.f2, Try.func2, rfl, rfl, rfl⟩, Try.call2⟩⟩
noncomputable def fu3 : FE Try.prog := ⟨3, ⟨Try.f3.body.getD .skip, 69, [.tmp 10], some [true, true, true, true, true, false, true, false, false, true, true, true, true, true, true, true, true, false, false, true, false, false, false, false, false, false, false, false, false, false, false, false, false, false, false, false, false, false, false, false, false, false, false, false, false, false, false, false, false, false, false, false, false, true, false, true, true, true, false, false, false, false, false, false, false, false, false, true, false]⟩, ⟨⟨Try.f3, Try.func3, rfl, rfl, rfl⟩, Try.call3⟩⟩
noncomputable def fu4 : FE Try.prog := ⟨4, ⟨Try.f4.body.getD .skip, 91, [.tmp 2], some [true, true, true, true, true, true, true, true, true, true, true, true, true, true, false, false, false, false, false, false, false, false, false, false, false, false, true, false, false, false, false, false, false, false, false, false, false, false, false, false, false, false, false, false, false, false, false, false, false, false, false, false, false, false, false, false, false, false, false, false, false, false, true, false, false, false, false, false, false, false, false, false, false, false, false, true, false, false, false, false, false, false, false, false, false, false, false, false, false, false, false]⟩, ⟨⟨Try.f4, Try.func4, rfl, rfl, rfl⟩, Try.call4⟩⟩
noncomputable def fu5 : FE Try.prog := ⟨5, ⟨Try.f5.body.getD .skip, 86, [.tmp 6], some [true, true, true, false, true, true, true, true, true, true, true, true, true, true, true, true, true, true, true, false, false, false, false, false, false, false, false, false, false, false, false, false, false, false, false, false, false, false, false, false, false, false, false, false, false, false, false, false, false, false, false, false, false, false, false, false, false, false, false, false, false, false, false, false, false, false, false, false, false, false, false, false, false, false, false, false, false, false, false, false, false, false, false, false, false, false]⟩, ⟨⟨Try.f5, Try.func5, rfl, rfl, rfl⟩, Try.call5⟩⟩
noncomputable def fu6 : FE Try.prog := ⟨6, ⟨Try.f6.body.getD .skip, 140, [.tmp 4], some [true, true, true, true, true, true, true, true, true, true, true, true, true, true, true, true, false, false, false, false, false, false, false, false, false, false, false, false, false, false, false, false, false, false, false, false, true, false, false, false, false, false, false, false, false, false, false, false, false, false, false, false, false, false, false, false, false, false, false, false, false, false, false, false, false, false, false, false, false, false, false, false, false, false, false, true, false, false, false, false, false, false, true, false, false, false, false, false, false, false, false, false, false, false, false, false, false, false, false, false, false, false, false, false, false, false, false, false, false, false, false, false, false, false, true, false, false, false, false, false, false, false, false, false, false, false, false, false, false, false, false, false, false, false, false, false, false, false, false, false]⟩, ⟨⟨Try.f6, Try.func6, rfl, rfl, rfl⟩, Try.call6⟩⟩
noncomputable def fu7 : FE Try.prog := ⟨7, ⟨Try.f7.body.getD .skip, 104, [.tmp 8], some [true, true, true, true, true, false, false, true, true, true, true, true, true, true, true, true, true, false, false, false, false, false, false, false, false, false, false, true, false, false, false, false, false, false, false, false, false, false, false, false, false, false, false, false, false, false, false, false, false, false, false, false, false, false, false, false, false, false, true, false, false, false, false, false, false, false, false, false, false, false, false, false, false, false, false, false, false, false, false, false, false, false, false, false, false, false, true, false, false, true, false, false, false, false, false, false, false, false, false, false, false, false, false, false]⟩, ⟨⟨Try.f7, Try.func7, rfl, rfl, rfl⟩, Try.call7⟩⟩
noncomputable def fu8 : FE Try.prog := ⟨8, ⟨Try.f8.body.getD .skip, 153, [.tmp 8], some [true, true, true, true, true, false, false, false, true, true, true, true, true, true, true, true, true, true, true, true, true, true, true, true, true, false, false, false, false, false, false, false, false, false, false, false, false, false, false, false, false, false, false, true, false, false, false, false, false, false, false, false, false, false, false, false, false, false, false, false, false, false, false, false, false, false, false, false, false, false, false, false, false, false, false, false, false, false, false, false, false, false, true, false, false, false, false, false, false, false, false, false, false, false, false, false, false, false, false, false, false, false, false, false, false, false, false, false, false, false, false, false, false, true, false, false, false, false, false, false, false, false, false, false, false, false, false, false, true, false, false, false, false, false, false, false, false, true, false, false, false, false, false, false, false, false, false, false, false, false, false, false, false]⟩, ⟨⟨Try.f8, Try.func8, rfl, rfl, rfl⟩, Try.call8⟩⟩
noncomputable def fu9 : FE Try.prog := ⟨9, ⟨Try.f9.body.getD .skip, 318, [.tmp 0], some [true, true, true, true, true, true, true, false, true, true, true, false, true, true, true, true, true, true, true, true, true, true, true, true, true, false, true, false, true, false, true, false, true, true, false, false, false, false, false, false, false, false, false, false, false, false, false, false, false, false, false, false, false, false, false, false, false, false, false, false, false, false, false, false, false, false, false, false, false, false, false, false, false, false, false, false, false, false, false, false, false, false, false, false, false, false, false, false, false, false, false, false, false, false, false, false, false, false, false, false, false, false, false, false, false, false, false, false, false, false, false, false, false, false, false, false, false, false, false, false, false, false, false, false, false, false, false, false, false, false, false, false, false, false, false, false, false, false, false, false, false, false, false, false, false, false, false, false, false, false, false, false, false, false, false, false, false, false, false, false, false, false, false, false, false, false, false, false, false, false, false, false, false, false, false, false, false, false, false, false, false, false, false, false, false, false, false, false, false, false, false, false, false, false, false, false, false, false, false, false, false, false, false, false, false, false, false, false, false, false, false, false, false, false, false, false, false, false, false, false, false, false, false, false, false, false, false, false, false, false, false, false, false, false, false, false, false, false, false, false, false, false, false, false, false, false, false, false, false, false, false, false, false, false, false, false, false, false, false, false, false, false, false, false, false, false, false, false, false, false, false, false, false, false, false, false, false, false, false, false, false, false, false, false, false, false, false, false, false, false, false, false, false, false, false, false, false, false, false, false, false, false, false, false, false, false, false, false, false, false, false, false, false, false, false, false, false, false]⟩, ⟨⟨Try.f9, Try.func9, rfl, rfl, rfl⟩, Try.call9⟩⟩
noncomputable def fu10 : FE Try.prog := ⟨10, ⟨Try.f10.body.getD .skip, 91, [.cell 8 25, .tmp 9], some [true, true, true, true, true, false, false, true, true, true, true, true, false, true, true, true, false, true, true, false, false, false, false, false, false, false, false, false, false, false, false, false, false, false, true, false, false, false, false, false, false, false, false, false, false, false, false, false, false, false, false, false, false, false, false, false, false, false, false, false, false, false, false, false, false, false, false, false, false, false, false, false, true, false, false, false, false, false, false, false, false, false, false, false, false, false, true, false, false, false, false]⟩, ⟨⟨Try.f10, Try.func10, rfl, rfl, rfl⟩, Try.call10⟩⟩
noncomputable def fu11 : FE Try.prog := ⟨11, ⟨Try.f11.body.getD .skip, 100, [.cell 8 25, .tmp 9], some [true, true, true, true, true, false, false, true, true, true, true, true, true, true, true, true, true, false, false, false, false, false, false, false, false, false, false, false, false, false, false, false, false, false, false, false, false, false, true, false, false, false, false, false, false, false, false, false, false, false, false, false, false, false, false, false, false, true, false, false, false, false, false, false, false, false, false, false, false, false, false, false, false, false, false, false, false, false, true, false, false, false, false, false, false, false, false, false, false, false, false, false, false, false, true, false, false, true, false, false]⟩, ⟨⟨Try.f11, Try.func11, rfl, rfl, rfl⟩, Try.call11⟩⟩
noncomputable def fu12 : FE Try.prog := ⟨12, ⟨Try.f12.body.getD .skip, 26, [.cell 2 25], some [true, false, true, true, false, true, true, true, true, true, true, true, false, false, false, false, false, false, false, false, true, false, false, false, false, false]⟩, ⟨⟨Try.f12, Try.func12, rfl, rfl, rfl⟩, Try.call12⟩⟩
noncomputable def fu13 : FE Try.prog := ⟨13, ⟨Try.f13.body.getD .skip, 28, [.cell 2 25], some [true, false, true, true, true, true, true, false, false, false, false, true, false, false, false, false, false, false, false, false, false, false, false, true, false, false, false, false]⟩, ⟨⟨Try.f13, Try.func13, rfl, rfl, rfl⟩, Try.call13⟩⟩
noncomputable def fu14 : FE Try.prog := ⟨14, ⟨Try.f14.body.getD .skip, 19, [.tmp 0], some [true, true, true, false, false, false, false, false, false, false, false, false, false, false, false, false, false, false, false]⟩, ⟨⟨Try.f14, Try.func14, rfl, rfl, rfl⟩, Try.call14⟩⟩
noncomputable def fu15 : FE Try.prog := ⟨15, ⟨Try.f15.body.getD .skip, 50, [.tmp 2, .tmp 3], some [true, true, true, true, true, true, true, true, true, false, true, false, true, true, true, false, false, false, false, false, true, false, false, true, false, false, false, false, false, false, false, false, true, false, true, false, false, false, false, false, true, false, false, false, false, false, false, false, false, false]⟩, ⟨⟨Try.f15, Try.func15, rfl, rfl, rfl⟩, Try.call15⟩⟩
noncomputable def fu16 : FE Try.prog := ⟨16, ⟨Try.f16.body.getD .skip, 45, [.cell 2 25, .tmp 3], some [true, false, true, true, true, true, true, true, true, false, false, false, false, false, false, false, false, false, false, false, false, false, true, false, false, false, false, false, false, true, false, false, false, false, false, false, false, false, false, false, false, false, true, false, false]⟩, ⟨⟨Try.f16, Try.func16, rfl, rfl, rfl⟩, Try.call16⟩⟩
noncomputable def fu17 : FE Try.prog := ⟨17, ⟨Try.f17.body.getD .skip, 17, [.tmp 4], some [true, true, true, true, true, false, true, false, false, true, false, false, false, false, false, false, true]⟩, ⟨⟨Try.f17, Try.func17, rfl, rfl, rfl⟩, Try.call17⟩⟩
noncomputable def fu18 : FE Try.prog := ⟨18, ⟨Try.f18.body.getD .skip, 28, [.cell 4 25, .tmp 5], some [true, true, true, true, true, true, true, true, true, true, false, false, false, false, false, false, false, false, false, false, false, false, false, false, false, false, false, false]⟩, ⟨⟨Try.f18, Try.func18, rfl, rfl, rfl⟩, Try.call18⟩⟩
noncomputable def fu19 : FE Try.prog := ⟨19, ⟨Try.f19.body.getD .skip, 5, [.cell 2 25], some [true, false, true, false, false]⟩, ⟨⟨Try.f19, Try.func19, rfl, rfl, rfl⟩, Try.call19⟩⟩
noncomputable def fu20 : FE Try.prog := ⟨20, ⟨Try.f20.body.getD .skip, 51, [.cell 4 25], some [true, true, true, false, true, true, true, true, true, false, true, false, false, true, false, false, false, false, false, false, false, true, false, false, false, false, false, false, false, false, false, false, false, false, false, true, false, false, false, false, false, false, false, false, false, false, false, false, false, false, false]⟩, ⟨⟨Try.f20, Try.func20, rfl, rfl, rfl⟩, Try.call20⟩⟩
noncomputable def fu21 : FE Try.prog := ⟨21, ⟨Try.f21.body.getD .skip, 49, [.cell 2 25, .tmp 3], some [true, false, true, true, true, true, true, true, true, true, false, false, false, false, false, false, true, false, false, false, false, false, false, false, false, false, true, false, false, false, false, true, false, false, false, false, false, false, false, false, false, false, false, false, false, false, true, false, false]⟩, ⟨⟨Try.f21, Try.func21, rfl, rfl, rfl⟩, Try.call21⟩⟩
noncomputable def fu22 : FE Try.prog := ⟨22, ⟨Try.f22.body.getD .skip, 49, [.tmp 2, .tmp 3], some [true, true, true, true, true, true, true, false, true, false, false, false, false, false, false, false, false, false, false, false, false, false, false, false, false, false, false, false, false, false, false, false, false, false, false, false, false, false, false, true, false, false, false, false, false, false, false, false, false]⟩, ⟨⟨Try.f22, Try.func22, rfl, rfl, rfl⟩, Try.call22⟩⟩
noncomputable def fu23 : FE Try.prog := ⟨23, ⟨Try.f23.body.getD .skip, 39, [.cell 2 25, .tmp 3], some [true, true, true, true, true, true, true, true, false, false, true, false, false, true, false, false, false, false, false, false, false, false, true, false, false, false, false, false, false, false, false, false, false, false, false, false, false, false, false]⟩, ⟨⟨Try.f23, Try.func23, rfl, rfl, rfl⟩, Try.call23⟩⟩
noncomputable def fu24 : FE Try.prog := ⟨24, ⟨Try.f24.body.getD .skip, 58, [.cell 2 25, .tmp 3], some [true, true, true, true, true, true, true, true, true, false, true, true, true, false, true, false, false, false, false, false, false, false, true, false, false, false, true, false, false, false, false, false, false, false, false, false, false, false, false, false, false, false, false, false, false, false, false, false, false, false, false, false, false, false, false, true, false, false]⟩, ⟨⟨Try.f24, Try.func24, rfl, rfl, rfl⟩, Try.call24⟩⟩
noncomputable def fu25 : FE Try.prog := ⟨25, ⟨Try.f25.body.getD .skip, 16, [.tmp 4], some [true, true, true, true, true, true, false, false, false, false, false, false, false, false, false, false]⟩, ⟨⟨Try.f25, Try.func25, rfl, rfl, rfl⟩, Try.call25⟩⟩
noncomputable def fu26 : FE Try.prog := ⟨26, ⟨Try.f26.body.getD .skip, 29, [.tmp 4], some [true, true, true, true, true, true, true, false, false, false, true, false, false, false, false, false, false, false, false, false, true, false, false, false, false, false, false, false, false]⟩, ⟨⟨Try.f26, Try.func26, rfl, rfl, rfl⟩, Try.call26⟩⟩
noncomputable def fu27 : FE Try.prog := ⟨27, ⟨Try.f27.body.getD .skip, 28, [.cell 4 25, .tmp 5], some [true, true, true, true, true, true, true, true, true, true, false, false, false, false, false, false, false, false, false, false, false, false, false, false, false, false, false, false]⟩, ⟨⟨Try.f27, Try.func27, rfl, rfl, rfl⟩, Try.call27⟩⟩
noncomputable def fu28 : FE Try.prog := ⟨28, ⟨Try.f28.body.getD .skip, 69, [.cell 4 25, .cell 5 25], some [true, true, true, true, true, true, true, true, true, true, true, true, true, true, true, false, true, true, false, false, false, false, false, false, false, false, false, false, false, false, false, false, false, false, false, false, false, false, false, false, false, false, false, false, false, false, false, false, false, false, false, false, false, false, false, false, false, false, false, false, false, false, false, false, false, false, false, false, false]⟩, ⟨⟨Try.f28, Try.func28, rfl, rfl, rfl⟩, Try.call28⟩⟩
noncomputable def fu29 : FE Try.prog := ⟨29, ⟨Try.f29.body.getD .skip, 47, [.tmp 0], some [true, true, true, true, true, true, true, false, false, false, false, false, false, false, false, false, false, false, false, false, false, false, false, false, false, false, false, false, false, false, false, false, false, false, false, false, false, false, false, false, false, false, false, false, false, false, false]⟩, ⟨⟨Try.f29, Try.func29, rfl, rfl, rfl⟩, Try.call29⟩⟩
noncomputable def fu30 : FE Try.prog := ⟨30, ⟨Try.f30.body.getD .skip, 70, [.tmp 2], some [true, true, true, true, false, true, false, false, false, false, false, false, false, false, false, false, false, false, false, false, false, false, false, false, false, false, false, false, false, false, false, false, false, false, false, false, false, false, false, false, false, false, false, false, false, false, false, false, false, false, false, false, false, false, false, false, false, false, true, false, false, false, false, false, false, false, false, false, false, true]⟩, ⟨⟨Try.f30, Try.func30, rfl, rfl, rfl⟩, Try.call30⟩⟩
noncomputable def fu31 : FE Try.prog := ⟨31, ⟨Try.f31.body.getD .skip, 60, [.tmp 6, .tmp 7], some [true, true, true, true, false, false, true, true, true, true, true, false, false, false, false, false, false, false, false, false, false, true, false, false, false, false, false, false, false, false, false, false, true, false, false, true, false, false, false, false, false, false, false, false, false, false, false, false, false, false, false, false, false, false, false, false, false, false, false, false]⟩, ⟨⟨Try.f31, Try.func31, rfl, rfl, rfl⟩, Try.call31⟩⟩
noncomputable def fu32 : FE Try.prog := ⟨32, ⟨Try.f32.body.getD .skip, 6, [.tmp 4], some [true, true, true, true, true, false]⟩, ⟨⟨Try.f32, Try.func32, rfl, rfl, rfl⟩, Try.call32⟩⟩
noncomputable def fu33 : FE Try.prog := ⟨33, ⟨Try.f33.body.getD .skip, 102, [.tmp 4, .tmp 5], some [true, true, true, false, true, true, true, true, true, true, true, false, true, false, false, false, false, false, false, false, false, false, true, false, false, false, false, false, false, false, false, false, false, false, true, false, false, false, false, true, false, false, false, false, false, false, false, false, false, false, false, false, false, false, false, false, false, false, false, false, false, false, false, false, false, false, false, true, false, false, false, false, false, false, false, true, false, false, false, false, true, false, false, false, false, false, false, false, false, false, false, false, false, false, false, false, false, false, false, false, false, false]⟩, ⟨⟨Try.f33, Try.func33, rfl, rfl, rfl⟩, Try.call33⟩⟩
noncomputable def fu34 : FE Try.prog := ⟨34, ⟨Try.f34.body.getD .skip, 54, [.cell 4 25, .cell 5 25, .tmp 6], some [true, true, true, true, true, true, true, true, true, true, false, false, true, false, false, false, true, true, true, false, false, false, false, false, false, false, false, false, false, false, false, false, false, false, false, false, true, false, false, false, false, false, false, false, false, false, false, false, false, false, false, false, false, false]⟩, ⟨⟨Try.f34, Try.func34, rfl, rfl, rfl⟩, Try.call34⟩⟩
noncomputable def fu35 : FE Try.prog := ⟨35, ⟨Try.f35.body.getD .skip, 35, [.tmp 4], some [true, true, false, true, true, true, true, true, true, false, false, false, false, false, false, false, false, false, false, false, false, false, false, false, false, false, false, false, false, false, false, false, false, false, false]⟩, ⟨⟨Try.f35, Try.func35, rfl, rfl, rfl⟩, Try.call35⟩⟩
noncomputable def fu36 : FE Try.prog := ⟨36, ⟨Try.f36.body.getD .skip, 9, [.cell 4 25], some [true, true, false, false, true, false, false, false, false]⟩, ⟨⟨Try.f36, Try.func36, rfl, rfl, rfl⟩, Try.call36⟩⟩
noncomputable def fu37 : FE Try.prog := ⟨37, ⟨Try.f37.body.getD .skip, 17, [.tmp 2], some [true, false, true, true, true, false, false, false, false, false, false, false, false, false, false, false, false]⟩, ⟨⟨Try.f37, Try.func37, rfl, rfl, rfl⟩, Try.call37⟩⟩
noncomputable def fu38 : FE Try.prog := ⟨38, ⟨Try.f38.body.getD .skip, 15, [.cell 2 25], some [true, true, true, true, true, true, false, false, false, false, false, false, false, false, false]⟩, ⟨⟨Try.f38, Try.func38, rfl, rfl, rfl⟩, Try.call38⟩⟩
noncomputable def fu39 : FE Try.prog := ⟨39, ⟨Try.f39.body.getD .skip, 6, [.tmp 2], some [true, true, true, false, false, false]⟩, ⟨⟨Try.f39, Try.func39, rfl, rfl, rfl⟩, Try.call39⟩⟩
noncomputable def fu40 : FE Try.prog := ⟨40, ⟨Try.f40.body.getD .skip, 9, [.tmp 2], some [true, false, true, false, false, false, false, false, false]⟩, ⟨⟨Try.f40, Try.func40, rfl, rfl, rfl⟩, Try.call40⟩⟩
noncomputable def fu41 : FE Try.prog := ⟨41, ⟨Try.f41.body.getD .skip, 6, [.tmp 2], some [true, true, true, false, false, false]⟩, ⟨⟨Try.f41, Try.func41, rfl, rfl, rfl⟩, Try.call41⟩⟩
noncomputable def fu42 : FE Try.prog := ⟨42, ⟨Try.f42.body.getD .skip, 52, [.cell 4 25, .cell 5 25], some [true, true, true, true, true, true, true, true, true, true, true, true, false, false, false, false, false, false, true, false, false, false, false, false, false, true, false, false, true, false, false, false, false, false, false, false, false, false, false, false, false, false, false, false, false, false, false, false, false, false, false, false]⟩, ⟨⟨Try.f42, Try.func42, rfl, rfl, rfl⟩, Try.call42⟩⟩
noncomputable def fu43 : FE Try.prog := ⟨43, ⟨Try.f43.body.getD .skip, 7, [.cell 2 25], some [true, false, true, true, false, false, false]⟩, ⟨⟨Try.f43, Try.func43, rfl, rfl, rfl⟩, Try.call43⟩⟩
noncomputable def fu44 : FE Try.prog := ⟨44, ⟨Try.f44.body.getD .skip, 24, [.tmp 2], some [true, true, true, true, true, false, false, true, false, false, false, false, false, false, false, false, false, false, false, false, false, false, false, false]⟩, ⟨⟨Try.f44, Try.func44, rfl, rfl, rfl⟩, Try.call44⟩⟩
noncomputable def fu45 : FE Try.prog := ⟨45, ⟨Try.f45.body.getD .skip, 20, [.tmp 2], some [true, true, true, true, true, false, false, false, false, false, false, false, false, false, false, false, true, false, false, false]⟩, ⟨⟨Try.f45, Try.func45, rfl, rfl, rfl⟩, Try.call45⟩⟩
noncomputable def fu46 : FE Try.prog := ⟨46, ⟨Try.f46.body.getD .skip, 30, [.cell 4 25], some [true, true, true, false, true, true, true, true, false, true, false, false, false, false, false, false, true, false, false, false, false, false, false, false, false, false, false, false, false, false]⟩, ⟨⟨Try.f46, Try.func46, rfl, rfl, rfl⟩, Try.call46⟩⟩
noncomputable def fu47 : FE Try.prog := ⟨47, ⟨Try.f47.body.getD .skip, 20, [.cell 4 25, .tmp 5], some [true, true, true, true, true, true, true, true, false, false, false, false, false, false, false, false, false, false, false, false]⟩, ⟨⟨Try.f47, Try.func47, rfl, rfl, rfl⟩, Try.call47⟩⟩
noncomputable def fu48 : FE Try.prog := ⟨48, ⟨Try.f48.body.getD .skip, 34, [.tmp 4], some [true, true, true, true, true, true, true, true, false, false, false, false, false, true, false, false, false, false, false, false, false, false, false, false, true, false, false, false, false, false, false, false, false, true]⟩, ⟨⟨Try.f48, Try.func48, rfl, rfl, rfl⟩, Try.call48⟩⟩
noncomputable def fu49 : FE Try.prog := ⟨49, ⟨Try.f49.body.getD .skip, 21, [.cell 2 25], some [true, true, true, true, true, false, false, false, true, false, false, false, false, false, false, false, false, false, false, false, false]⟩, ⟨⟨Try.f49, Try.func49, rfl, rfl, rfl⟩, Try.call49⟩⟩
noncomputable def fu50 : FE Try.prog := ⟨50, ⟨Try.f50.body.getD .skip, 4, [.tmp 2], some [true, true, true, false]⟩, ⟨⟨Try.f50, Try.func50, rfl, rfl, rfl⟩, Try.call50⟩⟩
noncomputable def fu51 : FE Try.prog := ⟨51, ⟨Try.f51.body.getD .skip, 51, [.cell 4 25], some [true, true, true, false, true, true, true, true, true, false, true, false, false, true, false, false, false, false, false, false, false, true, false, false, false, false, false, false, false, false, false, false, false, false, false, true, false, false, false, false, false, false, false, false, false, false, false, false, false, false, false]⟩, ⟨⟨Try.f51, Try.func51, rfl, rfl, rfl⟩, Try.call51⟩⟩
noncomputable def fu53 : FE Try.prog := ⟨53, ⟨Try.f53.body.getD .skip, 33, [.tmp 2], some [true, true, true, true, true, true, false, false, false, false, true, false, false, false, false, false, false, true, false, false, false, false, false, false, false, false, false, false, false, false, false, false, false]⟩, ⟨⟨Try.f53, Try.func53, rfl, rfl, rfl⟩, Try.call53⟩⟩
noncomputable def fu54 : FE Try.prog := ⟨54, ⟨Try.f54.body.getD .skip, 32, [.cell 2 25, .tmp 3], some [true, false, true, true, true, true, true, false, false, true, false, true, true, true, true, false, false, false, false, false, false, false, false, false, false, false, false, false, false, false, false, false]⟩, ⟨⟨Try.f54, Try.func54, rfl, rfl, rfl⟩, Try.call54⟩⟩
noncomputable def fu56 : FE Try.prog := ⟨56, ⟨Try.f56.body.getD .skip, 51, [.tmp 4, .tmp 5], some [true, true, false, false, true, true, true, true, true, true, true, true, true, true, false, false, false, false, false, false, false, false, false, false, false, false, false, false, false, false, false, false, false, false, false, false, false, false, false, false, false, false, false, false, false, false, false, false, false, false, false]⟩, ⟨⟨Try.f56, Try.func56, rfl, rfl, rfl⟩, Try.call56⟩⟩
noncomputable def fu57 : FE Try.prog := ⟨57, ⟨Try.f57.body.getD .skip, 13, [.tmp 2, .tmp 3], some [true, false, true, true, true, false, false, false, false, false, false, false, false]⟩, ⟨⟨Try.f57, Try.func57, rfl, rfl, rfl⟩, Try.call57⟩⟩
noncomputable def fu58 : FE Try.prog := ⟨58, ⟨Try.f58.body.getD .skip, 19, [.tmp 2], some [true, false, true, true, false, true, true, true, true, true, false, false, false, false, false, false, false, false, false]⟩, ⟨⟨Try.f58, Try.func58, rfl, rfl, rfl⟩, Try.call58⟩⟩
noncomputable def fu59 : FE Try.prog := ⟨59, ⟨Try.f59.body.getD .skip, 15, [.tmp 6], some [true, true, true, false, false, false, true, false, false, false, false, false, false, false, false]⟩, ⟨⟨Try.f59, Try.func59, rfl, rfl, rfl⟩, Try.call59⟩⟩
noncomputable def fu60 : FE Try.prog := ⟨60, ⟨Try.f60.body.getD .skip, 45, [.tmp 6, .tmp 7], some [true, true, true, true, true, false, true, true, true, false, true, true, false, false, false, false, false, false, false, false, false, false, false, false, false, false, false, false, false, false, false, false, false, false, false, false, false, false, false, true, false, false, false, false, false]⟩, ⟨⟨Try.f60, Try.func60, rfl, rfl, rfl⟩, Try.call60⟩⟩
noncomputable def fu61 : FE Try.prog := ⟨61, ⟨Try.f61.body.getD .skip, 24, [.cell 4 64], some [true, true, true, false, true, false, false, false, false, false, false, false, true, false, false, false, false, false, false, false, false, false, false, false]⟩, ⟨⟨Try.f61, Try.func61, rfl, rfl, rfl⟩, Try.call61⟩⟩
noncomputable def fu62 : FE Try.prog := ⟨62, ⟨Try.f62.body.getD .skip, 94, [.tmp 2], some [true, true, true, false, true, false, false, false, false, false, false, false, false, false, false, false, false, false, false, false, false, false, false, false, false, false, false, false, false, false, false, false, false, false, false, false, false, false, false, false, false, false, false, false, false, false, false, false, false, false, false, false, false, false, false, false, false, false, false, false, false, false, false, false, false, false, false, false, false, false, false, false, true, false, false, false, false, false, false, false, false, false, false, false, false, false, false, false, false, false, false, false, false, true]⟩, ⟨⟨Try.f62, Try.func62, rfl, rfl, rfl⟩, Try.call62⟩⟩
noncomputable def fu63 : FE Try.prog := ⟨63, ⟨Try.f63.body.getD .skip, 4, [.tmp 2], some [true, true, true, false]⟩, ⟨⟨Try.f63, Try.func63, rfl, rfl, rfl⟩, Try.call63⟩⟩
noncomputable def fu64 : FE Try.prog := ⟨64, ⟨Try.f64.body.getD .skip, 39, [.tmp 4, .tmp 5], some [true, true, false, false, true, true, true, true, true, true, false, false, false, false, false, false, true, false, false, false, false, false, false, false, false, false, false, false, false, false, false, false, false, false, false, false, false, false, false]⟩, ⟨⟨Try.f64, Try.func64, rfl, rfl, rfl⟩, Try.call64⟩⟩
noncomputable def fu65 : FE Try.prog := ⟨65, ⟨Try.f65.body.getD .skip, 33, [.cell 2 25], some [true, false, true, true, true, false, false, false, false, false, false, false, true, false, false, false, false, false, false, true, false, false, false, false, false, false, false, false, false, false, false, false, false]⟩, ⟨⟨Try.f65, Try.func65, rfl, rfl, rfl⟩, Try.call65⟩⟩
noncomputable def fu66 : FE Try.prog := ⟨66, ⟨Try.f66.body.getD .skip, 23, [], some [true, true, false, true, true, false, false, false, false, false, false, true, false, false, false, false, false, false, false, false, false, false, true]⟩, ⟨⟨Try.f66, Try.func66, rfl, rfl, rfl⟩, Try.call66⟩⟩
noncomputable def fu67 : FE Try.prog := ⟨67, ⟨Try.f67.body.getD .skip, 25, [.tmp 2], some [true, true, true, true, true, false, false, true, true, true, false, false, false, false, false, false, false, false, false, false, false, false, false, false, false]⟩, ⟨⟨Try.f67, Try.func67, rfl, rfl, rfl⟩, Try.call67⟩⟩
noncomputable def fu68 : FE Try.prog := ⟨68, ⟨Try.f68.body.getD .skip, 2, [.cell 0 60], some [true, false]⟩, ⟨⟨Try.f68, Try.func68, rfl, rfl, rfl⟩, Try.call68⟩⟩
noncomputable def fu69 : FE Try.prog := ⟨69, ⟨Try.f69.body.getD .skip, 23, [], some [true, true, false, true, false, false, false, false, true, false, false, false, false, false, false, false, false, false, false, false, false, false, true]⟩, ⟨⟨Try.f69, Try.func69, rfl, rfl, rfl⟩, Try.call69⟩⟩
noncomputable def fu70 : FE Try.prog := ⟨70, ⟨Try.f70.body.getD .skip, 20, [.tmp 2], some [true, true, true, true, true, true, true, true, true, false, false, false, true, false, false, false, false, false, false, false]⟩, ⟨⟨Try.f70, Try.func70, rfl, rfl, rfl⟩, Try.call70⟩⟩
noncomputable def fu71 : FE Try.prog := ⟨71, ⟨Try.f71.body.getD .skip, 25, [.tmp 2], some [true, false, true, false, true, false, false, false, true, false, false, false, false, false, true, false, false, false, false, false, false, false, false, false, false]⟩, ⟨⟨Try.f71, Try.func71, rfl, rfl, rfl⟩, Try.call71⟩⟩
noncomputable def ho52 : Hook Try.prog := ⟨52, subAct, sim_sub Try.func52 (by kernel_rfl) (by kernel_rfl) (by kernel_rfl) (by kernel_rfl)⟩
noncomputable def ho55 : Hook Try.prog := ⟨55, addAct, sim_add Try.func55 (by kernel_rfl) (by kernel_rfl) (by kernel_rfl) (by kernel_rfl)⟩
noncomputable def eqs : List (QE Try.prog) := [⟨25, by kernel_rfl, by kernel_rfl⟩]
noncomputable def env : Env := { P := Try.prog, mixed := by kernel_rfl, types := (.node 62 (.node 31 (.node 15 (.node 7 (.node 3 (.node 1 (.leaf ty0) (.node 2 (.leaf ty1) (.leaf ty2))) (.node 5 (.node 4 (.leaf ty3) (.leaf ty4)) (.node 6 (.leaf ty5) (.leaf ty6)))) (.node 11 (.node 9 (.node 8 (.leaf ty7) (.leaf ty8)) (.node 10 (.leaf ty9) (.leaf ty10))) (.node 13 (.node 12 (.leaf ty11) (.leaf ty12)) (.node 14 (.leaf ty13) (.leaf ty14))))) (.node 23 (.node 19 (.node 17 (.node 16 (.leaf ty15) (.leaf ty16)) (.node 18 (.leaf ty17) (.leaf ty18))) (.node 21 (.node 20 (.leaf ty19) (.leaf ty20)) (.node 22 (.leaf ty21) (.leaf ty22)))) (.node 27 (.node 25 (.node 24 (.leaf ty23) (.leaf ty24)) (.node 26 (.leaf ty25) (.leaf ty26))) (.node 29 (.node 28 (.leaf ty27) (.leaf ty28)) (.node 30 (.leaf ty29) (.leaf ty30)))))) (.node 46 (.node 38 (.node 34 (.node 32 (.leaf ty31) (.node 33 (.leaf ty32) (.leaf ty33))) (.node 36 (.node 35 (.leaf ty34) (.leaf ty35)) (.node 37 (.leaf ty36) (.leaf ty37)))) (.node 42 (.node 40 (.node 39 (.leaf ty38) (.leaf ty39)) (.node 41 (.leaf ty40) (.leaf ty41))) (.node 44 (.node 43 (.leaf ty42) (.leaf ty43)) (.node 45 (.leaf ty44) (.leaf ty45))))) (.node 54 (.node 50 (.node 48 (.node 47 (.leaf ty46) (.leaf ty47)) (.node 49 (.leaf ty48) (.leaf ty49))) (.node 52 (.node 51 (.leaf ty50) (.leaf ty51)) (.node 53 (.leaf ty52) (.leaf ty53)))) (.node 58 (.node 56 (.node 55 (.leaf ty54) (.leaf ty55)) (.node 57 (.leaf ty56) (.leaf ty57))) (.node 60 (.node 59 (.leaf ty58) (.leaf ty59)) (.node 61 (.leaf ty60) (.leaf ty61))))))) (.node 93 (.node 77 (.node 69 (.node 65 (.node 63 (.leaf ty62) (.node 64 (.leaf ty63) (.leaf ty64))) (.node 67 (.node 66 (.leaf ty65) (.leaf ty66)) (.node 68 (.leaf ty67) (.leaf ty68)))) (.node 73 (.node 71 (.node 70 (.leaf ty69) (.leaf ty70)) (.node 72 (.leaf ty71) (.leaf ty72))) (.node 75 (.node 74 (.leaf ty73) (.leaf ty74)) (.node 76 (.leaf ty75) (.leaf ty76))))) (.node 85 (.node 81 (.node 79 (.node 78 (.leaf ty77) (.leaf ty78)) (.node 80 (.leaf ty79) (.leaf ty80))) (.node 83 (.node 82 (.leaf ty81) (.leaf ty82)) (.node 84 (.leaf ty83) (.leaf ty84)))) (.node 89 (.node 87 (.node 86 (.leaf ty85) (.leaf ty86)) (.node 88 (.leaf ty87) (.leaf ty88))) (.node 91 (.node 90 (.leaf ty89) (.leaf ty90)) (.node 92 (.leaf ty91) (.leaf ty92)))))) (.node 108 (.node 100 (.node 96 (.node 94 (.leaf ty93) (.node 95 (.leaf ty94) (.leaf ty95))) (.node 98 (.node 97 (.leaf ty96) (.leaf ty97)) (.node 99 (.leaf ty98) (.leaf ty99)))) (.node 104 (.node 102 (.node 101 (.leaf ty100) (.leaf ty101)) (.node 103 (.leaf ty102) (.leaf ty103))) (.node 106 (.node 105 (.leaf ty104) (.leaf ty105)) (.node 107 (.leaf ty106) (.leaf ty107))))) (.node 116 (.node 112 (.node 110 (.node 109 (.leaf ty108) (.leaf ty109)) (.node 111 (.leaf ty110) (.leaf ty111))) (.node 114 (.node 113 (.leaf ty112) (.leaf ty113)) (.node 115 (.leaf ty114) (.leaf ty115)))) (.node 120 (.node 118 (.node 117 (.leaf ty116) (.leaf ty117)) (.node 119 (.leaf ty118) (.leaf ty119))) (.node 122 (.node 121 (.leaf ty120) (.leaf ty121)) (.node 123 (.leaf ty122) (.leaf ty123)))))))), funcs := (.node 36 (.node 19 (.node 10 (.node 6 (.node 4 (.node 3 (.leaf fu2) (.leaf fu3)) (.node 5 (.leaf fu4) (.leaf fu5))) (.node 8 (.node 7 (.leaf fu6) (.leaf fu7)) (.node 9 (.leaf fu8) (.leaf fu9)))) (.node 14 (.node 12 (.node 11 (.leaf fu10) (.leaf fu11)) (.node 13 (.leaf fu12) (.leaf fu13))) (.node 16 (.node 15 (.leaf fu14) (.leaf fu15)) (.node 17 (.leaf fu16) (.node 18 (.leaf fu17) (.leaf fu18)))))) (.node 27 (.node 23 (.node 21 (.node 20 (.leaf fu19) (.leaf fu20)) (.node 22 (.leaf fu21) (.leaf fu22))) (.node 25 (.node 24 (.leaf fu23) (.leaf fu24)) (.node 26 (.leaf fu25) (.leaf fu26)))) (.node 31 (.node 29 (.node 28 (.leaf fu27) (.leaf fu28)) (.node 30 (.leaf fu29) (.leaf fu30))) (.node 33 (.node 32 (.leaf fu31) (.leaf fu32)) (.node 34 (.leaf fu33) (.node 35 (.leaf fu34) (.leaf fu35))))))) (.node 54 (.node 44 (.node 40 (.node 38 (.node 37 (.leaf fu36) (.leaf fu37)) (.node 39 (.leaf fu38) (.leaf fu39))) (.node 42 (.node 41 (.leaf fu40) (.leaf fu41)) (.node 43 (.leaf fu42) (.leaf fu43)))) (.node 48 (.node 46 (.node 45 (.leaf fu44) (.leaf fu45)) (.node 47 (.leaf fu46) (.leaf fu47))) (.node 50 (.node 49 (.leaf fu48) (.leaf fu49)) (.node 51 (.leaf fu50) (.node 53 (.leaf fu51) (.leaf fu53)))))) (.node 63 (.node 59 (.node 57 (.node 56 (.leaf fu54) (.leaf fu56)) (.node 58 (.leaf fu57) (.leaf fu58))) (.node 61 (.node 60 (.leaf fu59) (.leaf fu60)) (.node 62 (.leaf fu61) (.leaf fu62)))) (.node 67 (.node 65 (.node 64 (.leaf fu63) (.leaf fu64)) (.node 66 (.leaf fu65) (.leaf fu66))) (.node 69 (.node 68 (.leaf fu67) (.leaf fu68)) (.node 70 (.leaf fu69) (.node 71 (.leaf fu70) (.leaf fu71)))))))), hooks := [ho52, ho55], eqs := eqs }
theorem ti0 : ti env 0 = M.pure ⟨Go.TypeDesc.tuple #[], 1, 0, .tup []⟩ := rfl
theorem ti1 : ti env 1 = M.pure ⟨Go.TypeDesc.func #[] #[] false, 1, 8, .nilf⟩ := rfl
theorem ti2 : ti env 2 = M.pure ⟨Go.TypeDesc.int (Go.IntKind.i64), 1, 8, .int .i64 (0)⟩ := rfl
theorem ti3 : ti env 3 = M.pure ⟨Go.TypeDesc.int (Go.IntKind.i64), 1, 8, .int .i64 (0)⟩ := rfl
theorem ti4 : ti env 4 = M.pure ⟨Go.TypeDesc.bool, 1, 1, .bool false⟩ := rfl
theorem ti5 : ti env 5 = M.pure ⟨Go.TypeDesc.int (Go.IntKind.u8), 1, 1, .int .u8 (0)⟩ := rfl
theorem ti6 : ti env 6 = M.pure ⟨Go.TypeDesc.int (Go.IntKind.u8), 1, 1, .int .u8 (0)⟩ := rfl
theorem ti7 : ti env 7 = M.pure ⟨Go.TypeDesc.struct #[{ name := "x", type := 2, offset := 0, embedded := false, tag := "", pkgPath := "runtime", byteOffset := 0 }, { name := "y", type := 3, offset := 1, embedded := false, tag := "", pkgPath := "runtime", byteOffset := 8 }, { name := "signed", type := 4, offset := 2, embedded := false, tag := "", pkgPath := "runtime", byteOffset := 16 }, { name := "code", type := 6, offset := 3, embedded := false, tag := "", pkgPath := "runtime", byteOffset := 17 }], 4, 24, .agg [.int .i64 (0), .int .i64 (0), .bool false, .int .u8 (0)]⟩ := rfl
theorem ti8 : ti env 8 = M.pure ⟨Go.TypeDesc.struct #[{ name := "x", type := 2, offset := 0, embedded := false, tag := "", pkgPath := "runtime", byteOffset := 0 }, { name := "y", type := 3, offset := 1, embedded := false, tag := "", pkgPath := "runtime", byteOffset := 8 }, { name := "signed", type := 4, offset := 2, embedded := false, tag := "", pkgPath := "runtime", byteOffset := 16 }, { name := "code", type := 6, offset := 3, embedded := false, tag := "", pkgPath := "runtime", byteOffset := 17 }], 4, 24, .agg [.int .i64 (0), .int .i64 (0), .bool false, .int .u8 (0)]⟩ := rfl
theorem ti9 : ti env 9 = M.pure ⟨Go.TypeDesc.string, 1, 16, .str []⟩ := rfl
theorem ti10 : ti env 10 = M.pure ⟨Go.TypeDesc.string, 1, 16, .str []⟩ := rfl
theorem ti11 : ti env 11 = M.pure ⟨Go.TypeDesc.string, 1, 16, .str []⟩ := rfl
theorem ti12 : ti env 12 = M.pure ⟨Go.TypeDesc.int (Go.IntKind.u64), 1, 8, .int .u64 (0)⟩ := rfl
theorem ti13 : ti env 13 = M.pure ⟨Go.TypeDesc.struct #[{ name := "msg", type := 9, offset := 0, embedded := false, tag := "", pkgPath := "runtime", byteOffset := 0 }, { name := "addr", type := 12, offset := 1, embedded := false, tag := "", pkgPath := "runtime", byteOffset := 16 }], 2, 24, .agg [.str [], .int .u64 (0)]⟩ := rfl
theorem ti14 : ti env 14 = M.pure ⟨Go.TypeDesc.struct #[{ name := "msg", type := 9, offset := 0, embedded := false, tag := "", pkgPath := "runtime", byteOffset := 0 }, { name := "addr", type := 12, offset := 1, embedded := false, tag := "", pkgPath := "runtime", byteOffset := 16 }], 2, 24, .agg [.str [], .int .u64 (0)]⟩ := rfl
theorem ti15 : ti env 15 = M.pure ⟨Go.TypeDesc.pointer 110, 1, 8, .nilp⟩ := rfl
theorem ti16 : ti env 16 = M.pure ⟨Go.TypeDesc.pointer 113, 1, 8, .nilp⟩ := rfl
theorem ti17 : ti env 17 = M.pure ⟨Go.TypeDesc.pointer 122, 1, 8, .nilp⟩ := rfl
theorem ti18 : ti env 18 = M.pure ⟨Go.TypeDesc.struct #[{ name := "typ", type := 17, offset := 0, embedded := false, tag := "", pkgPath := "internal/runtime/maps", byteOffset := 0 }], 1, 8, .agg [.nilp]⟩ := rfl
theorem ti19 : ti env 19 = M.pure ⟨Go.TypeDesc.struct #[{ name := "typ", type := 17, offset := 0, embedded := false, tag := "", pkgPath := "internal/runtime/maps", byteOffset := 0 }], 1, 8, .agg [.nilp]⟩ := rfl
theorem ti20 : ti env 20 = M.pure ⟨Go.TypeDesc.interface #[], 1, 16, .nili⟩ := rfl
theorem ti21 : ti env 21 = M.pure ⟨Go.TypeDesc.int (Go.IntKind.i32), 1, 4, .int .i32 (0)⟩ := rfl
theorem ti22 : ti env 22 = M.pure ⟨Go.TypeDesc.slice 25, 1, 24, .nils⟩ := rfl
theorem ti23 : ti env 23 = M.pure ⟨Go.TypeDesc.int (Go.IntKind.u64), 1, 8, .int .u64 (0)⟩ := rfl
theorem ti24 : ti env 24 = M.pure ⟨Go.TypeDesc.array 4 23, 4, 32, .agg [.int .u64 (0), .int .u64 (0), .int .u64 (0), .int .u64 (0)]⟩ := rfl
theorem ti25 : ti env 25 = M.pure ⟨Go.TypeDesc.array 4 23, 4, 32, .agg [.int .u64 (0), .int .u64 (0), .int .u64 (0), .int .u64 (0)]⟩ := rfl
theorem ti26 : ti env 26 = M.pure ⟨Go.TypeDesc.int (Go.IntKind.i64), 1, 8, .int .i64 (0)⟩ := rfl
theorem ti27 : ti env 27 = M.pure ⟨Go.TypeDesc.tuple #[25, 26], 1, 0, .tup [.agg [.int .u64 (0), .int .u64 (0), .int .u64 (0), .int .u64 (0)], .int .i64 (0)]⟩ := rfl
theorem ti28 : ti env 28 = M.pure ⟨Go.TypeDesc.func #[25, 23, 23, 25] #[25, 26] false, 1, 8, .nilf⟩ := rfl
theorem ti29 : ti env 29 = M.pure ⟨Go.TypeDesc.tuple #[25, 3], 1, 0, .tup [.agg [.int .u64 (0), .int .u64 (0), .int .u64 (0), .int .u64 (0)], .int .i64 (0)]⟩ := rfl
theorem ti30 : ti env 30 = M.pure ⟨Go.TypeDesc.func #[25, 23, 23, 25] #[25, 3] false, 1, 8, .nilf⟩ := rfl
theorem ti31 : ti env 31 = M.pure ⟨Go.TypeDesc.func #[22] #[25] true, 1, 8, .nilf⟩ := rfl
theorem ti32 : ti env 32 = M.pure ⟨Go.TypeDesc.func #[22] #[25] false, 1, 8, .nilf⟩ := rfl
theorem ti33 : ti env 33 = M.pure ⟨Go.TypeDesc.func #[22, 25, 23, 23, 25] #[4] false, 1, 8, .nilf⟩ := rfl
theorem ti34 : ti env 34 = M.pure ⟨Go.TypeDesc.func #[] #[4] false, 1, 8, .nilf⟩ := rfl
theorem ti35 : ti env 35 = M.pure ⟨Go.TypeDesc.int (Go.IntKind.u32), 1, 4, .int .u32 (0)⟩ := rfl
theorem ti36 : ti env 36 = M.pure ⟨Go.TypeDesc.tuple #[35, 26], 1, 0, .tup [.int .u32 (0), .int .i64 (0)]⟩ := rfl
theorem ti37 : ti env 37 = M.pure ⟨Go.TypeDesc.func #[25] #[35, 26] false, 1, 8, .nilf⟩ := rfl
theorem ti38 : ti env 38 = M.pure ⟨Go.TypeDesc.func #[35] #[25, 26] false, 1, 8, .nilf⟩ := rfl
theorem ti39 : ti env 39 = M.pure ⟨Go.TypeDesc.func #[25, 25] #[3] false, 1, 8, .nilf⟩ := rfl
theorem ti40 : ti env 40 = M.pure ⟨Go.TypeDesc.int (Go.IntKind.u64), 1, 8, .int .u64 (0)⟩ := rfl
theorem ti41 : ti env 41 = M.pure ⟨Go.TypeDesc.tuple #[25, 4], 1, 0, .tup [.agg [.int .u64 (0), .int .u64 (0), .int .u64 (0), .int .u64 (0)], .bool false]⟩ := rfl
theorem ti42 : ti env 42 = M.pure ⟨Go.TypeDesc.func #[25, 25] #[25, 4] false, 1, 8, .nilf⟩ := rfl
theorem ti43 : ti env 43 = M.pure ⟨Go.TypeDesc.func #[23] #[25] false, 1, 8, .nilf⟩ := rfl
theorem ti44 : ti env 44 = M.pure ⟨Go.TypeDesc.func #[25, 3] #[25] false, 1, 8, .nilf⟩ := rfl
theorem ti45 : ti env 45 = M.pure ⟨Go.TypeDesc.func #[25] #[4] false, 1, 8, .nilf⟩ := rfl
theorem ti46 : ti env 46 = M.pure ⟨Go.TypeDesc.array 32 5, 32, 32, .agg [.int .u8 (0), .int .u8 (0), .int .u8 (0), .int .u8 (0), .int .u8 (0), .int .u8 (0), .int .u8 (0), .int .u8 (0), .int .u8 (0), .int .u8 (0), .int .u8 (0), .int .u8 (0), .int .u8 (0), .int .u8 (0), .int .u8 (0), .int .u8 (0), .int .u8 (0), .int .u8 (0), .int .u8 (0), .int .u8 (0), .int .u8 (0), .int .u8 (0), .int .u8 (0), .int .u8 (0), .int .u8 (0), .int .u8 (0), .int .u8 (0), .int .u8 (0), .int .u8 (0), .int .u8 (0), .int .u8 (0), .int .u8 (0)]⟩ := rfl
theorem ti47 : ti env 47 = M.pure ⟨Go.TypeDesc.array 32 5, 32, 32, .agg [.int .u8 (0), .int .u8 (0), .int .u8 (0), .int .u8 (0), .int .u8 (0), .int .u8 (0), .int .u8 (0), .int .u8 (0), .int .u8 (0), .int .u8 (0), .int .u8 (0), .int .u8 (0), .int .u8 (0), .int .u8 (0), .int .u8 (0), .int .u8 (0), .int .u8 (0), .int .u8 (0), .int .u8 (0), .int .u8 (0), .int .u8 (0), .int .u8 (0), .int .u8 (0), .int .u8 (0), .int .u8 (0), .int .u8 (0), .int .u8 (0), .int .u8 (0), .int .u8 (0), .int .u8 (0), .int .u8 (0), .int .u8 (0)]⟩ := rfl
theorem ti48 : ti env 48 = M.pure ⟨Go.TypeDesc.func #[35] #[25, 3] false, 1, 8, .nilf⟩ := rfl
theorem ti49 : ti env 49 = M.pure ⟨Go.TypeDesc.tuple #[35, 3], 1, 0, .tup [.int .u32 (0), .int .i64 (0)]⟩ := rfl
theorem ti50 : ti env 50 = M.pure ⟨Go.TypeDesc.func #[25] #[35, 3] false, 1, 8, .nilf⟩ := rfl
theorem ti51 : ti env 51 = M.pure ⟨Go.TypeDesc.func #[25] #[25, 26] false, 1, 8, .nilf⟩ := rfl
theorem ti52 : ti env 52 = M.pure ⟨Go.TypeDesc.func #[25] #[25, 3] false, 1, 8, .nilf⟩ := rfl
theorem ti53 : ti env 53 = M.pure ⟨Go.TypeDesc.func #[47, 25] #[4] false, 1, 8, .nilf⟩ := rfl
theorem ti54 : ti env 54 = M.pure ⟨Go.TypeDesc.func #[35, 25, 47] #[4] false, 1, 8, .nilf⟩ := rfl
theorem ti55 : ti env 55 = M.pure ⟨Go.TypeDesc.tuple #[25, 25], 1, 0, .tup [.agg [.int .u64 (0), .int .u64 (0), .int .u64 (0), .int .u64 (0)], .agg [.int .u64 (0), .int .u64 (0), .int .u64 (0), .int .u64 (0)]]⟩ := rfl
theorem ti56 : ti env 56 = M.pure ⟨Go.TypeDesc.func #[25, 25] #[25, 25] false, 1, 8, .nilf⟩ := rfl
theorem ti57 : ti env 57 = M.pure ⟨Go.TypeDesc.func #[25, 25] #[4] false, 1, 8, .nilf⟩ := rfl
theorem ti58 : ti env 58 = M.pure ⟨Go.TypeDesc.func #[25, 23, 23, 25] #[4] false, 1, 8, .nilf⟩ := rfl
theorem ti59 : ti env 59 = M.pure ⟨Go.TypeDesc.struct #[{ name := "Limit", type := 35, offset := 0, embedded := false, tag := "", pkgPath := "", byteOffset := 0 }, { name := "Every", type := 3, offset := 1, embedded := false, tag := "", pkgPath := "", byteOffset := 8 }, { name := "Span", type := 2, offset := 2, embedded := false, tag := "", pkgPath := "", byteOffset := 16 }, { name := "Subsidy", type := 2, offset := 3, embedded := false, tag := "", pkgPath := "", byteOffset := 24 }, { name := "Halving", type := 3, offset := 4, embedded := false, tag := "", pkgPath := "", byteOffset := 32 }, { name := "Maturity", type := 3, offset := 5, embedded := false, tag := "", pkgPath := "", byteOffset := 40 }, { name := "Depth", type := 3, offset := 6, embedded := false, tag := "", pkgPath := "", byteOffset := 48 }, { name := "Extra", type := 3, offset := 7, embedded := false, tag := "", pkgPath := "", byteOffset := 56 }, { name := "Time", type := 35, offset := 8, embedded := false, tag := "", pkgPath := "", byteOffset := 64 }], 9, 72, .agg [.int .u32 (0), .int .i64 (0), .int .i64 (0), .int .i64 (0), .int .i64 (0), .int .i64 (0), .int .i64 (0), .int .i64 (0), .int .u32 (0)]⟩ := rfl
theorem ti60 : ti env 60 = M.pure ⟨Go.TypeDesc.struct #[{ name := "Limit", type := 35, offset := 0, embedded := false, tag := "", pkgPath := "", byteOffset := 0 }, { name := "Every", type := 3, offset := 1, embedded := false, tag := "", pkgPath := "", byteOffset := 8 }, { name := "Span", type := 2, offset := 2, embedded := false, tag := "", pkgPath := "", byteOffset := 16 }, { name := "Subsidy", type := 2, offset := 3, embedded := false, tag := "", pkgPath := "", byteOffset := 24 }, { name := "Halving", type := 3, offset := 4, embedded := false, tag := "", pkgPath := "", byteOffset := 32 }, { name := "Maturity", type := 3, offset := 5, embedded := false, tag := "", pkgPath := "", byteOffset := 40 }, { name := "Depth", type := 3, offset := 6, embedded := false, tag := "", pkgPath := "", byteOffset := 48 }, { name := "Extra", type := 3, offset := 7, embedded := false, tag := "", pkgPath := "", byteOffset := 56 }, { name := "Time", type := 35, offset := 8, embedded := false, tag := "", pkgPath := "", byteOffset := 64 }], 9, 72, .agg [.int .u32 (0), .int .i64 (0), .int .i64 (0), .int .i64 (0), .int .i64 (0), .int .i64 (0), .int .i64 (0), .int .i64 (0), .int .u32 (0)]⟩ := rfl
theorem ti61 : ti env 61 = M.pure ⟨Go.TypeDesc.func #[60] #[26] false, 1, 8, .nilf⟩ := rfl
theorem ti62 : ti env 62 = M.pure ⟨Go.TypeDesc.slice 64, 1, 24, .nils⟩ := rfl
theorem ti63 : ti env 63 = M.pure ⟨Go.TypeDesc.struct #[{ name := "Version", type := 35, offset := 0, embedded := false, tag := "", pkgPath := "", byteOffset := 0 }, { name := "Prev", type := 47, offset := 1, embedded := false, tag := "", pkgPath := "", byteOffset := 4 }, { name := "Root", type := 47, offset := 33, embedded := false, tag := "", pkgPath := "", byteOffset := 36 }, { name := "Time", type := 35, offset := 65, embedded := false, tag := "", pkgPath := "", byteOffset := 68 }, { name := "Bits", type := 35, offset := 66, embedded := false, tag := "", pkgPath := "", byteOffset := 72 }, { name := "Nonce", type := 35, offset := 67, embedded := false, tag := "", pkgPath := "", byteOffset := 76 }], 68, 80, .agg [.int .u32 (0), .int .u8 (0), .int .u8 (0), .int .u8 (0), .int .u8 (0), .int .u8 (0), .int .u8 (0), .int .u8 (0), .int .u8 (0), .int .u8 (0), .int .u8 (0), .int .u8 (0), .int .u8 (0), .int .u8 (0), .int .u8 (0), .int .u8 (0), .int .u8 (0), .int .u8 (0), .int .u8 (0), .int .u8 (0), .int .u8 (0), .int .u8 (0), .int .u8 (0), .int .u8 (0), .int .u8 (0), .int .u8 (0), .int .u8 (0), .int .u8 (0), .int .u8 (0), .int .u8 (0), .int .u8 (0), .int .u8 (0), .int .u8 (0), .int .u8 (0), .int .u8 (0), .int .u8 (0), .int .u8 (0), .int .u8 (0), .int .u8 (0), .int .u8 (0), .int .u8 (0), .int .u8 (0), .int .u8 (0), .int .u8 (0), .int .u8 (0), .int .u8 (0), .int .u8 (0), .int .u8 (0), .int .u8 (0), .int .u8 (0), .int .u8 (0), .int .u8 (0), .int .u8 (0), .int .u8 (0), .int .u8 (0), .int .u8 (0), .int .u8 (0), .int .u8 (0), .int .u8 (0), .int .u8 (0), .int .u8 (0), .int .u8 (0), .int .u8 (0), .int .u8 (0), .int .u8 (0), .int .u32 (0), .int .u32 (0), .int .u32 (0)]⟩ := rfl
theorem ti64 : ti env 64 = M.pure ⟨Go.TypeDesc.struct #[{ name := "Version", type := 35, offset := 0, embedded := false, tag := "", pkgPath := "", byteOffset := 0 }, { name := "Prev", type := 47, offset := 1, embedded := false, tag := "", pkgPath := "", byteOffset := 4 }, { name := "Root", type := 47, offset := 33, embedded := false, tag := "", pkgPath := "", byteOffset := 36 }, { name := "Time", type := 35, offset := 65, embedded := false, tag := "", pkgPath := "", byteOffset := 68 }, { name := "Bits", type := 35, offset := 66, embedded := false, tag := "", pkgPath := "", byteOffset := 72 }, { name := "Nonce", type := 35, offset := 67, embedded := false, tag := "", pkgPath := "", byteOffset := 76 }], 68, 80, .agg [.int .u32 (0), .int .u8 (0), .int .u8 (0), .int .u8 (0), .int .u8 (0), .int .u8 (0), .int .u8 (0), .int .u8 (0), .int .u8 (0), .int .u8 (0), .int .u8 (0), .int .u8 (0), .int .u8 (0), .int .u8 (0), .int .u8 (0), .int .u8 (0), .int .u8 (0), .int .u8 (0), .int .u8 (0), .int .u8 (0), .int .u8 (0), .int .u8 (0), .int .u8 (0), .int .u8 (0), .int .u8 (0), .int .u8 (0), .int .u8 (0), .int .u8 (0), .int .u8 (0), .int .u8 (0), .int .u8 (0), .int .u8 (0), .int .u8 (0), .int .u8 (0), .int .u8 (0), .int .u8 (0), .int .u8 (0), .int .u8 (0), .int .u8 (0), .int .u8 (0), .int .u8 (0), .int .u8 (0), .int .u8 (0), .int .u8 (0), .int .u8 (0), .int .u8 (0), .int .u8 (0), .int .u8 (0), .int .u8 (0), .int .u8 (0), .int .u8 (0), .int .u8 (0), .int .u8 (0), .int .u8 (0), .int .u8 (0), .int .u8 (0), .int .u8 (0), .int .u8 (0), .int .u8 (0), .int .u8 (0), .int .u8 (0), .int .u8 (0), .int .u8 (0), .int .u8 (0), .int .u8 (0), .int .u32 (0), .int .u32 (0), .int .u32 (0)]⟩ := rfl
theorem ti65 : ti env 65 = M.pure ⟨Go.TypeDesc.func #[60, 3, 66] #[35, 26] false, 1, 8, .nilf⟩ := rfl
theorem ti66 : ti env 66 = M.pure ⟨Go.TypeDesc.func #[3] #[64] false, 1, 8, .nilf⟩ := rfl
theorem ti67 : ti env 67 = M.pure ⟨Go.TypeDesc.func #[62, 68] #[66] false, 1, 8, .nilf⟩ := rfl
theorem ti68 : ti env 68 = M.pure ⟨Go.TypeDesc.pointer 3, 1, 8, .nilp⟩ := rfl
theorem ti69 : ti env 69 = M.pure ⟨Go.TypeDesc.func #[60, 62] #[35, 3] false, 1, 8, .nilf⟩ := rfl
theorem ti70 : ti env 70 = M.pure ⟨Go.TypeDesc.tuple #[25, 25, 26], 1, 0, .tup [.agg [.int .u64 (0), .int .u64 (0), .int .u64 (0), .int .u64 (0)], .agg [.int .u64 (0), .int .u64 (0), .int .u64 (0), .int .u64 (0)], .int .i64 (0)]⟩ := rfl
theorem ti71 : ti env 71 = M.pure ⟨Go.TypeDesc.func #[25, 25] #[25, 25, 26] false, 1, 8, .nilf⟩ := rfl
theorem ti72 : ti env 72 = M.pure ⟨Go.TypeDesc.func #[60, 35, 35, 35] #[4] false, 1, 8, .nilf⟩ := rfl
theorem ti73 : ti env 73 = M.pure ⟨Go.TypeDesc.func #[35, 25] #[4] false, 1, 8, .nilf⟩ := rfl
theorem ti74 : ti env 74 = M.pure ⟨Go.TypeDesc.func #[23, 3] #[25] false, 1, 8, .nilf⟩ := rfl
theorem ti75 : ti env 75 = M.pure ⟨Go.TypeDesc.func #[35] #[4] false, 1, 8, .nilf⟩ := rfl
theorem ti76 : ti env 76 = M.pure ⟨Go.TypeDesc.func #[25] #[25] false, 1, 8, .nilf⟩ := rfl
theorem ti77 : ti env 77 = M.pure ⟨Go.TypeDesc.func #[23] #[4] false, 1, 8, .nilf⟩ := rfl
theorem ti78 : ti env 78 = M.pure ⟨Go.TypeDesc.slice 3, 1, 24, .nils⟩ := rfl
theorem ti79 : ti env 79 = M.pure ⟨Go.TypeDesc.func #[25] #[78] false, 1, 8, .nilf⟩ := rfl
theorem ti80 : ti env 80 = M.pure ⟨Go.TypeDesc.func #[25] #[3] false, 1, 8, .nilf⟩ := rfl
theorem ti81 : ti env 81 = M.pure ⟨Go.TypeDesc.func #[103] #[] false, 1, 8, .nilf⟩ := rfl
theorem ti82 : ti env 82 = M.pure ⟨Go.TypeDesc.func #[103] #[] false, 1, 8, .nilf⟩ := rfl
theorem ti83 : ti env 83 = M.pure ⟨Go.TypeDesc.func #[25] #[82] false, 1, 8, .nilf⟩ := rfl
theorem ti84 : ti env 84 = M.pure ⟨Go.TypeDesc.tuple #[23, 23], 1, 0, .tup [.int .u64 (0), .int .u64 (0)]⟩ := rfl
theorem ti85 : ti env 85 = M.pure ⟨Go.TypeDesc.func #[23, 23, 23] #[23, 23] false, 1, 8, .nilf⟩ := rfl
theorem ti86 : ti env 86 = M.pure ⟨Go.TypeDesc.slice 5, 1, 24, .nils⟩ := rfl
theorem ti87 : ti env 87 = M.pure ⟨Go.TypeDesc.func #[25] #[86] false, 1, 8, .nilf⟩ := rfl
theorem ti88 : ti env 88 = M.pure ⟨Go.TypeDesc.func #[86] #[25, 26] false, 1, 8, .nilf⟩ := rfl
theorem ti89 : ti env 89 = M.pure ⟨Go.TypeDesc.array 8 23, 8, 64, .agg [.int .u64 (0), .int .u64 (0), .int .u64 (0), .int .u64 (0), .int .u64 (0), .int .u64 (0), .int .u64 (0), .int .u64 (0)]⟩ := rfl
theorem ti90 : ti env 90 = M.pure ⟨Go.TypeDesc.func #[23, 23] #[23, 23] false, 1, 8, .nilf⟩ := rfl
theorem ti91 : ti env 91 = M.pure ⟨Go.TypeDesc.slice 23, 1, 24, .nils⟩ := rfl
theorem ti92 : ti env 92 = M.pure ⟨Go.TypeDesc.func #[62] #[35, 26] false, 1, 8, .nilf⟩ := rfl
theorem ti93 : ti env 93 = M.pure ⟨Go.TypeDesc.func #[105] #[62] true, 1, 8, .nilf⟩ := rfl
theorem ti94 : ti env 94 = M.pure ⟨Go.TypeDesc.func #[3, 3, 3] #[4] false, 1, 8, .nilf⟩ := rfl
theorem ti95 : ti env 95 = M.pure ⟨Go.TypeDesc.func #[60, 25, 2] #[35, 26] false, 1, 8, .nilf⟩ := rfl
theorem ti96 : ti env 96 = M.pure ⟨Go.TypeDesc.func #[60] #[3] false, 1, 8, .nilf⟩ := rfl
theorem ti97 : ti env 97 = M.pure ⟨Go.TypeDesc.func #[106] #[] false, 1, 8, .nilf⟩ := rfl
theorem ti98 : ti env 98 = M.pure ⟨Go.TypeDesc.func #[106] #[] false, 1, 8, .nilf⟩ := rfl
theorem ti99 : ti env 99 = M.pure ⟨Go.TypeDesc.func #[25] #[98] false, 1, 8, .nilf⟩ := rfl
theorem ti100 : ti env 100 = M.pure ⟨Go.TypeDesc.tuple #[78, 3], 1, 0, .tup [.nils, .int .i64 (0)]⟩ := rfl
theorem ti101 : ti env 101 = M.pure ⟨Go.TypeDesc.func #[78, 78] #[78, 3] false, 1, 8, .nilf⟩ := rfl
theorem ti102 : ti env 102 = M.pure ⟨Go.TypeDesc.func #[78] #[25] false, 1, 8, .nilf⟩ := rfl
theorem ti103 : ti env 103 = M.pure ⟨Go.TypeDesc.func #[3, 5] #[4] false, 1, 8, .nilf⟩ := rfl
theorem ti104 : ti env 104 = M.pure ⟨Go.TypeDesc.func #[] #[60] false, 1, 8, .nilf⟩ := rfl
theorem ti105 : ti env 105 = M.pure ⟨Go.TypeDesc.slice 35, 1, 24, .nils⟩ := rfl
theorem ti106 : ti env 106 = M.pure ⟨Go.TypeDesc.func #[3, 23] #[4] false, 1, 8, .nilf⟩ := rfl
theorem ti107 : ti env 107 = M.pure ⟨Go.TypeDesc.func #[23] #[3] false, 1, 8, .nilf⟩ := rfl
theorem ti108 : ti env 108 = M.pure ⟨Go.TypeDesc.func #[] #[9] false, 1, 8, .nilf⟩ := rfl
theorem ti109 : ti env 109 = M.pure ⟨Go.TypeDesc.struct #[{ name := "_interface", type := 17, offset := 0, embedded := false, tag := "", pkgPath := "runtime", byteOffset := 0 }, { name := "concrete", type := 17, offset := 1, embedded := false, tag := "", pkgPath := "runtime", byteOffset := 8 }, { name := "asserted", type := 17, offset := 2, embedded := false, tag := "", pkgPath := "runtime", byteOffset := 16 }, { name := "missingMethod", type := 9, offset := 3, embedded := false, tag := "", pkgPath := "runtime", byteOffset := 24 }], 4, 40, .agg [.nilp, .nilp, .nilp, .str []]⟩ := rfl
theorem ti110 : ti env 110 = M.pure ⟨Go.TypeDesc.struct #[{ name := "_interface", type := 17, offset := 0, embedded := false, tag := "", pkgPath := "runtime", byteOffset := 0 }, { name := "concrete", type := 17, offset := 1, embedded := false, tag := "", pkgPath := "runtime", byteOffset := 8 }, { name := "asserted", type := 17, offset := 2, embedded := false, tag := "", pkgPath := "runtime", byteOffset := 16 }, { name := "missingMethod", type := 9, offset := 3, embedded := false, tag := "", pkgPath := "runtime", byteOffset := 24 }], 4, 40, .agg [.nilp, .nilp, .nilp, .str []]⟩ := rfl
theorem ti111 : ti env 111 = M.pure ⟨Go.TypeDesc.array 0 16, 0, 0, .agg []⟩ := rfl
theorem ti112 : ti env 112 = M.pure ⟨Go.TypeDesc.struct #[{ name := "_", type := 111, offset := 0, embedded := false, tag := "", pkgPath := "runtime", byteOffset := 0 }], 0, 0, .agg []⟩ := rfl
theorem ti113 : ti env 113 = M.pure ⟨Go.TypeDesc.struct #[{ name := "_", type := 111, offset := 0, embedded := false, tag := "", pkgPath := "runtime", byteOffset := 0 }], 0, 0, .agg []⟩ := rfl
theorem ti114 : ti env 114 = M.pure ⟨Go.TypeDesc.func #[] #[3] false, 1, 8, .nilf⟩ := rfl
theorem ti115 : ti env 115 = M.pure ⟨Go.TypeDesc.int (Go.IntKind.u8), 1, 1, .int .u8 (0)⟩ := rfl
theorem ti116 : ti env 116 = M.pure ⟨Go.TypeDesc.int (Go.IntKind.u8), 1, 1, .int .u8 (0)⟩ := rfl
theorem ti117 : ti env 117 = M.pure ⟨Go.TypeDesc.func #[123, 123] #[4] false, 1, 8, .nilf⟩ := rfl
theorem ti118 : ti env 118 = M.pure ⟨Go.TypeDesc.pointer 5, 1, 8, .nilp⟩ := rfl
theorem ti119 : ti env 119 = M.pure ⟨Go.TypeDesc.int (Go.IntKind.i32), 1, 4, .int .i32 (0)⟩ := rfl
theorem ti120 : ti env 120 = M.pure ⟨Go.TypeDesc.int (Go.IntKind.i32), 1, 4, .int .i32 (0)⟩ := rfl
theorem ti121 : ti env 121 = M.pure ⟨Go.TypeDesc.struct #[{ name := "Size_", type := 12, offset := 0, embedded := false, tag := "", pkgPath := "", byteOffset := 0 }, { name := "PtrBytes", type := 12, offset := 1, embedded := false, tag := "", pkgPath := "", byteOffset := 8 }, { name := "Hash", type := 35, offset := 2, embedded := false, tag := "", pkgPath := "", byteOffset := 16 }, { name := "TFlag", type := 115, offset := 3, embedded := false, tag := "", pkgPath := "", byteOffset := 20 }, { name := "Align_", type := 5, offset := 4, embedded := false, tag := "", pkgPath := "", byteOffset := 21 }, { name := "FieldAlign_", type := 5, offset := 5, embedded := false, tag := "", pkgPath := "", byteOffset := 22 }, { name := "Kind_", type := 116, offset := 6, embedded := false, tag := "", pkgPath := "", byteOffset := 23 }, { name := "Equal", type := 117, offset := 7, embedded := false, tag := "", pkgPath := "", byteOffset := 24 }, { name := "GCData", type := 118, offset := 8, embedded := false, tag := "", pkgPath := "", byteOffset := 32 }, { name := "Str", type := 119, offset := 9, embedded := false, tag := "", pkgPath := "", byteOffset := 40 }, { name := "PtrToThis", type := 120, offset := 10, embedded := false, tag := "", pkgPath := "", byteOffset := 44 }], 11, 48, .agg [.int .u64 (0), .int .u64 (0), .int .u32 (0), .int .u8 (0), .int .u8 (0), .int .u8 (0), .int .u8 (0), .nilf, .nilp, .int .i32 (0), .int .i32 (0)]⟩ := rfl
theorem ti122 : ti env 122 = M.pure ⟨Go.TypeDesc.struct #[{ name := "Size_", type := 12, offset := 0, embedded := false, tag := "", pkgPath := "", byteOffset := 0 }, { name := "PtrBytes", type := 12, offset := 1, embedded := false, tag := "", pkgPath := "", byteOffset := 8 }, { name := "Hash", type := 35, offset := 2, embedded := false, tag := "", pkgPath := "", byteOffset := 16 }, { name := "TFlag", type := 115, offset := 3, embedded := false, tag := "", pkgPath := "", byteOffset := 20 }, { name := "Align_", type := 5, offset := 4, embedded := false, tag := "", pkgPath := "", byteOffset := 21 }, { name := "FieldAlign_", type := 5, offset := 5, embedded := false, tag := "", pkgPath := "", byteOffset := 22 }, { name := "Kind_", type := 116, offset := 6, embedded := false, tag := "", pkgPath := "", byteOffset := 23 }, { name := "Equal", type := 117, offset := 7, embedded := false, tag := "", pkgPath := "", byteOffset := 24 }, { name := "GCData", type := 118, offset := 8, embedded := false, tag := "", pkgPath := "", byteOffset := 32 }, { name := "Str", type := 119, offset := 9, embedded := false, tag := "", pkgPath := "", byteOffset := 40 }, { name := "PtrToThis", type := 120, offset := 10, embedded := false, tag := "", pkgPath := "", byteOffset := 44 }], 11, 48, .agg [.int .u64 (0), .int .u64 (0), .int .u32 (0), .int .u8 (0), .int .u8 (0), .int .u8 (0), .int .u8 (0), .nilf, .nilp, .int .i32 (0), .int .i32 (0)]⟩ := rfl
theorem ti123 : ti env 123 = M.pure ⟨Go.TypeDesc.unsafePointer, 1, 8, .nilp⟩ := rfl
theorem fi2 : (env.funcs.find 2).i = fu2.i := rfl
theorem ff2 : (env.funcs.find 2).f.beq 2 = true := rfl
theorem hk2 : ∀ args : List AVal, callF env (evalW env) 2 args = callI env (evalW env) 2 args := fun _ => rfl
theorem fg2 : ∀ tm : List AVal, forget env 2 tm = forgetL [false] tm := fun _ => rfl
theorem fi3 : (env.funcs.find 3).i = fu3.i := rfl
theorem ff3 : (env.funcs.find 3).f.beq 3 = true := rfl
theorem hk3 : ∀ args : List AVal, callF env (evalW env) 3 args = callI env (evalW env) 3 args := fun _ => rfl
theorem fg3 : ∀ tm : List AVal, forget env 3 tm = forgetL [true, true, true, true, true, false, true, false, false, true, true, true, true, true, true, true, true, false, false, true, false, false, false, false, false, false, false, false, false, false, false, false, false, false, false, false, false, false, false, false, false, false, false, false, false, false, false, false, false, false, false, false, false, true, false, true, true, true, false, false, false, false, false, false, false, false, false, true, false] tm := fun _ => rfl
theorem fi4 : (env.funcs.find 4).i = fu4.i := rfl
theorem ff4 : (env.funcs.find 4).f.beq 4 = true := rfl
theorem hk4 : ∀ args : List AVal, callF env (evalW env) 4 args = callI env (evalW env) 4 args := fun _ => rfl
theorem fg4 : ∀ tm : List AVal, forget env 4 tm = forgetL [true, true, true, true, true, true, true, true, true, true, true, true, true, true, false, false, false, false, false, false, false, false, false, false, false, false, true, false, false, false, false, false, false, false, false, false, false, false, false, false, false, false, false, false, false, false, false, false, false, false, false, false, false, false, false, false, false, false, false, false, false, false, true, false, false, false, false, false, false, false, false, false, false, false, false, true, false, false, false, false, false, false, false, false, false, false, false, false, false, false, false] tm := fun _ => rfl
theorem fi5 : (env.funcs.find 5).i = fu5.i := rfl
theorem ff5 : (env.funcs.find 5).f.beq 5 = true := rfl
theorem hk5 : ∀ args : List AVal, callF env (evalW env) 5 args = callI env (evalW env) 5 args := fun _ => rfl
theorem fg5 : ∀ tm : List AVal, forget env 5 tm = forgetL [true, true, true, false, true, true, true, true, true, true, true, true, true, true, true, true, true, true, true, false, false, false, false, false, false, false, false, false, false, false, false, false, false, false, false, false, false, false, false, false, false, false, false, false, false, false, false, false, false, false, false, false, false, false, false, false, false, false, false, false, false, false, false, false, false, false, false, false, false, false, false, false, false, false, false, false, false, false, false, false, false, false, false, false, false, false] tm := fun _ => rfl
theorem fi6 : (env.funcs.find 6).i = fu6.i := rfl
theorem ff6 : (env.funcs.find 6).f.beq 6 = true := rfl
theorem hk6 : ∀ args : List AVal, callF env (evalW env) 6 args = callI env (evalW env) 6 args := fun _ => rfl
theorem fg6 : ∀ tm : List AVal, forget env 6 tm = forgetL [true, true, true, true, true, true, true, true, true, true, true, true, true, true, true, true, false, false, false, false, false, false, false, false, false, false, false, false, false, false, false, false, false, false, false, false, true, false, false, false, false, false, false, false, false, false, false, false, false, false, false, false, false, false, false, false, false, false, false, false, false, false, false, false, false, false, false, false, false, false, false, false, false, false, false, true, false, false, false, false, false, false, true, false, false, false, false, false, false, false, false, false, false, false, false, false, false, false, false, false, false, false, false, false, false, false, false, false, false, false, false, false, false, false, true, false, false, false, false, false, false, false, false, false, false, false, false, false, false, false, false, false, false, false, false, false, false, false, false, false] tm := fun _ => rfl
theorem fi7 : (env.funcs.find 7).i = fu7.i := rfl
theorem ff7 : (env.funcs.find 7).f.beq 7 = true := rfl
theorem hk7 : ∀ args : List AVal, callF env (evalW env) 7 args = callI env (evalW env) 7 args := fun _ => rfl
theorem fg7 : ∀ tm : List AVal, forget env 7 tm = forgetL [true, true, true, true, true, false, false, true, true, true, true, true, true, true, true, true, true, false, false, false, false, false, false, false, false, false, false, true, false, false, false, false, false, false, false, false, false, false, false, false, false, false, false, false, false, false, false, false, false, false, false, false, false, false, false, false, false, false, true, false, false, false, false, false, false, false, false, false, false, false, false, false, false, false, false, false, false, false, false, false, false, false, false, false, false, false, true, false, false, true, false, false, false, false, false, false, false, false, false, false, false, false, false, false] tm := fun _ => rfl
theorem fi8 : (env.funcs.find 8).i = fu8.i := rfl
theorem ff8 : (env.funcs.find 8).f.beq 8 = true := rfl
theorem hk8 : ∀ args : List AVal, callF env (evalW env) 8 args = callI env (evalW env) 8 args := fun _ => rfl
theorem fg8 : ∀ tm : List AVal, forget env 8 tm = forgetL [true, true, true, true, true, false, false, false, true, true, true, true, true, true, true, true, true, true, true, true, true, true, true, true, true, false, false, false, false, false, false, false, false, false, false, false, false, false, false, false, false, false, false, true, false, false, false, false, false, false, false, false, false, false, false, false, false, false, false, false, false, false, false, false, false, false, false, false, false, false, false, false, false, false, false, false, false, false, false, false, false, false, true, false, false, false, false, false, false, false, false, false, false, false, false, false, false, false, false, false, false, false, false, false, false, false, false, false, false, false, false, false, false, true, false, false, false, false, false, false, false, false, false, false, false, false, false, false, true, false, false, false, false, false, false, false, false, true, false, false, false, false, false, false, false, false, false, false, false, false, false, false, false] tm := fun _ => rfl
theorem fi9 : (env.funcs.find 9).i = fu9.i := rfl
theorem ff9 : (env.funcs.find 9).f.beq 9 = true := rfl
theorem hk9 : ∀ args : List AVal, callF env (evalW env) 9 args = callI env (evalW env) 9 args := fun _ => rfl
theorem fg9 : ∀ tm : List AVal, forget env 9 tm = forgetL [true, true, true, true, true, true, true, false, true, true, true, false, true, true, true, true, true, true, true, true, true, true, true, true, true, false, true, false, true, false, true, false, true, true, false, false, false, false, false, false, false, false, false, false, false, false, false, false, false, false, false, false, false, false, false, false, false, false, false, false, false, false, false, false, false, false, false, false, false, false, false, false, false, false, false, false, false, false, false, false, false, false, false, false, false, false, false, false, false, false, false, false, false, false, false, false, false, false, false, false, false, false, false, false, false, false, false, false, false, false, false, false, false, false, false, false, false, false, false, false, false, false, false, false, false, false, false, false, false, false, false, false, false, false, false, false, false, false, false, false, false, false, false, false, false, false, false, false, false, false, false, false, false, false, false, false, false, false, false, false, false, false, false, false, false, false, false, false, false, false, false, false, false, false, false, false, false, false, false, false, false, false, false, false, false, false, false, false, false, false, false, false, false, false, false, false, false, false, false, false, false, false, false, false, false, false, false, false, false, false, false, false, false, false, false, false, false, false, false, false, false, false, false, false, false, false, false, false, false, false, false, false, false, false, false, false, false, false, false, false, false, false, false, false, false, false, false, false, false, false, false, false, false, false, false, false, false, false, false, false, false, false, false, false, false, false, false, false, false, false, false, false, false, false, false, false, false, false, false, false, false, false, false, false, false, false, false, false, false, false, false, false, false, false, false, false, false, false, false, false, false, false, false, false, false, false, false, false, false, false, false, false, false, false, false, false, false, false] tm := fun _ => rfl
theorem fi10 : (env.funcs.find 10).i = fu10.i := rfl
theorem ff10 : (env.funcs.find 10).f.beq 10 = true := rfl
theorem hk10 : ∀ args : List AVal, callF env (evalW env) 10 args = callI env (evalW env) 10 args := fun _ => rfl
theorem fg10 : ∀ tm : List AVal, forget env 10 tm = forgetL [true, true, true, true, true, false, false, true, true, true, true, true, false, true, true, true, false, true, true, false, false, false, false, false, false, false, false, false, false, false, false, false, false, false, true, false, false, false, false, false, false, false, false, false, false, false, false, false, false, false, false, false, false, false, false, false, false, false, false, false, false, false, false, false, false, false, false, false, false, false, false, false, true, false, false, false, false, false, false, false, false, false, false, false, false, false, true, false, false, false, false] tm := fun _ => rfl
theorem fi11 : (env.funcs.find 11).i = fu11.i := rfl
theorem ff11 : (env.funcs.find 11).f.beq 11 = true := rfl
theorem hk11 : ∀ args : List AVal, callF env (evalW env) 11 args = callI env (evalW env) 11 args := fun _ => rfl
theorem fg11 : ∀ tm : List AVal, forget env 11 tm = forgetL [true, true, true, true, true, false, false, true, true, true, true, true, true, true, true, true, true, false, false, false, false, false, false, false, false, false, false, false, false, false, false, false, false, false, false, false, false, false, true, false, false, false, false, false, false, false, false, false, false, false, false, false, false, false, false, false, false, true, false, false, false, false, false, false, false, false, false, false, false, false, false, false, false, false, false, false, false, false, true, false, false, false, false, false, false, false, false, false, false, false, false, false, false, false, true, false, false, true, false, false] tm := fun _ => rfl
theorem fi12 : (env.funcs.find 12).i = fu12.i := rfl
theorem ff12 : (env.funcs.find 12).f.beq 12 = true := rfl
theorem hk12 : ∀ args : List AVal, callF env (evalW env) 12 args = callI env (evalW env) 12 args := fun _ => rfl
theorem fg12 : ∀ tm : List AVal, forget env 12 tm = forgetL [true, false, true, true, false, true, true, true, true, true, true, true, false, false, false, false, false, false, false, false, true, false, false, false, false, false] tm := fun _ => rfl
theorem fi13 : (env.funcs.find 13).i = fu13.i := rfl
theorem ff13 : (env.funcs.find 13).f.beq 13 = true := rfl
theorem hk13 : ∀ args : List AVal, callF env (evalW env) 13 args = callI env (evalW env) 13 args := fun _ => rfl
theorem fg13 : ∀ tm : List AVal, forget env 13 tm = forgetL [true, false, true, true, true, true, true, false, false, false, false, true, false, false, false, false, false, false, false, false, false, false, false, true, false, false, false, false] tm := fun _ => rfl
theorem fi14 : (env.funcs.find 14).i = fu14.i := rfl
theorem ff14 : (env.funcs.find 14).f.beq 14 = true := rfl
theorem hk14 : ∀ args : List AVal, callF env (evalW env) 14 args = callI env (evalW env) 14 args := fun _ => rfl
theorem fg14 : ∀ tm : List AVal, forget env 14 tm = forgetL [true, true, true, false, false, false, false, false, false, false, false, false, false, false, false, false, false, false, false] tm := fun _ => rfl
theorem fi15 : (env.funcs.find 15).i = fu15.i := rfl
theorem ff15 : (env.funcs.find 15).f.beq 15 = true := rfl
theorem hk15 : ∀ args : List AVal, callF env (evalW env) 15 args = callI env (evalW env) 15 args := fun _ => rfl
theorem fg15 : ∀ tm : List AVal, forget env 15 tm = forgetL [true, true, true, true, true, true, true, true, true, false, true, false, true, true, true, false, false, false, false, false, true, false, false, true, false, false, false, false, false, false, false, false, true, false, true, false, false, false, false, false, true, false, false, false, false, false, false, false, false, false] tm := fun _ => rfl
theorem fi16 : (env.funcs.find 16).i = fu16.i := rfl
theorem ff16 : (env.funcs.find 16).f.beq 16 = true := rfl
theorem hk16 : ∀ args : List AVal, callF env (evalW env) 16 args = callI env (evalW env) 16 args := fun _ => rfl
theorem fg16 : ∀ tm : List AVal, forget env 16 tm = forgetL [true, false, true, true, true, true, true, true, true, false, false, false, false, false, false, false, false, false, false, false, false, false, true, false, false, false, false, false, false, true, false, false, false, false, false, false, false, false, false, false, false, false, true, false, false] tm := fun _ => rfl
theorem fi17 : (env.funcs.find 17).i = fu17.i := rfl
theorem ff17 : (env.funcs.find 17).f.beq 17 = true := rfl
theorem hk17 : ∀ args : List AVal, callF env (evalW env) 17 args = callI env (evalW env) 17 args := fun _ => rfl
theorem fg17 : ∀ tm : List AVal, forget env 17 tm = forgetL [true, true, true, true, true, false, true, false, false, true, false, false, false, false, false, false, true] tm := fun _ => rfl
theorem fi18 : (env.funcs.find 18).i = fu18.i := rfl
theorem ff18 : (env.funcs.find 18).f.beq 18 = true := rfl
theorem hk18 : ∀ args : List AVal, callF env (evalW env) 18 args = callI env (evalW env) 18 args := fun _ => rfl
theorem fg18 : ∀ tm : List AVal, forget env 18 tm = forgetL [true, true, true, true, true, true, true, true, true, true, false, false, false, false, false, false, false, false, false, false, false, false, false, false, false, false, false, false] tm := fun _ => rfl
theorem fi19 : (env.funcs.find 19).i = fu19.i := rfl
theorem ff19 : (env.funcs.find 19).f.beq 19 = true := rfl
theorem hk19 : ∀ args : List AVal, callF env (evalW env) 19 args = callI env (evalW env) 19 args := fun _ => rfl
theorem fg19 : ∀ tm : List AVal, forget env 19 tm = forgetL [true, false, true, false, false] tm := fun _ => rfl
theorem fi20 : (env.funcs.find 20).i = fu20.i := rfl
theorem ff20 : (env.funcs.find 20).f.beq 20 = true := rfl
theorem hk20 : ∀ args : List AVal, callF env (evalW env) 20 args = callI env (evalW env) 20 args := fun _ => rfl
theorem fg20 : ∀ tm : List AVal, forget env 20 tm = forgetL [true, true, true, false, true, true, true, true, true, false, true, false, false, true, false, false, false, false, false, false, false, true, false, false, false, false, false, false, false, false, false, false, false, false, false, true, false, false, false, false, false, false, false, false, false, false, false, false, false, false, false] tm := fun _ => rfl
theorem fi21 : (env.funcs.find 21).i = fu21.i := rfl
theorem ff21 : (env.funcs.find 21).f.beq 21 = true := rfl
theorem hk21 : ∀ args : List AVal, callF env (evalW env) 21 args = callI env (evalW env) 21 args := fun _ => rfl
theorem fg21 : ∀ tm : List AVal, forget env 21 tm = forgetL [true, false, true, true, true, true, true, true, true, true, false, false, false, false, false, false, true, false, false, false, false, false, false, false, false, false, true, false, false, false, false, true, false, false, false, false, false, false, false, false, false, false, false, false, false, false, true, false, false] tm := fun _ => rfl
theorem fi22 : (env.funcs.find 22).i = fu22.i := rfl
theorem ff22 : (env.funcs.find 22).f.beq 22 = true := rfl
theorem hk22 : ∀ args : List AVal, callF env (evalW env) 22 args = callI env (evalW env) 22 args := fun _ => rfl
theorem fg22 : ∀ tm : List AVal, forget env 22 tm = forgetL [true, true, true, true, true, true, true, false, true, false, false, false, false, false, false, false, false, false, false, false, false, false, false, false, false, false, false, false, false, false, false, false, false, false, false, false, false, false, false, true, false, false, false, false, false, false, false, false, false] tm := fun _ => rfl
theorem fi23 : (env.funcs.find 23).i = fu23.i := rfl
theorem ff23 : (env.funcs.find 23).f.beq 23 = true := rfl
theorem hk23 : ∀ args : List AVal, callF env (evalW env) 23 args = callI env (evalW env) 23 args := fun _ => rfl
theorem fg23 : ∀ tm : List AVal, forget env 23 tm = forgetL [true, true, true, true, true, true, true, true, false, false, true, false, false, true, false, false, false, false, false, false, false, false, true, false, false, false, false, false, false, false, false, false, false, false, false, false, false, false, false] tm := fun _ => rfl
theorem fi24 : (env.funcs.find 24).i = fu24.i := rfl
theorem ff24 : (env.funcs.find 24).f.beq 24 = true := rfl
theorem hk24 : ∀ args : List AVal, callF env (evalW env) 24 args = callI env (evalW env) 24 args := fun _ => rfl
theorem fg24 : ∀ tm : List AVal, forget env 24 tm = forgetL [true, true, true, true, true, true, true, true, true, false, true, true, true, false, true, false, false, false, false, false, false, false, true, false, false, false, true, false, false, false, false, false, false, false, false, false, false, false, false, false, false, false, false, false, false, false, false, false, false, false, false, false, false, false, false, true, false, false] tm := fun _ => rfl
theorem fi25 : (env.funcs.find 25).i = fu25.i := rfl
theorem ff25 : (env.funcs.find 25).f.beq 25 = true := rfl
theorem hk25 : ∀ args : List AVal, callF env (evalW env) 25 args = callI env (evalW env) 25 args := fun _ => rfl
theorem fg25 : ∀ tm : List AVal, forget env 25 tm = forgetL [true, true, true, true, true, true, false, false, false, false, false, false, false, false, false, false] tm := fun _ => rfl
theorem fi26 : (env.funcs.find 26).i = fu26.i := rfl
theorem ff26 : (env.funcs.find 26).f.beq 26 = true := rfl
theorem hk26 : ∀ args : List AVal, callF env (evalW env) 26 args = callI env (evalW env) 26 args := fun _ => rfl
theorem fg26 : ∀ tm : List AVal, forget env 26 tm = forgetL [true, true, true, true, true, true, true, false, false, false, true, false, false, false, false, false, false, false, false, false, true, false, false, false, false, false, false, false, false] tm := fun _ => rfl
theorem fi27 : (env.funcs.find 27).i = fu27.i := rfl
theorem ff27 : (env.funcs.find 27).f.beq 27 = true := rfl
theorem hk27 : ∀ args : List AVal, callF env (evalW env) 27 args = callI env (evalW env) 27 args := fun _ => rfl
theorem fg27 : ∀ tm : List AVal, forget env 27 tm = forgetL [true, true, true, true, true, true, true, true, true, true, false, false, false, false, false, false, false, false, false, false, false, false, false, false, false, false, false, false] tm := fun _ => rfl
theorem fi28 : (env.funcs.find 28).i = fu28.i := rfl
theorem ff28 : (env.funcs.find 28).f.beq 28 = true := rfl
theorem hk28 : ∀ args : List AVal, callF env (evalW env) 28 args = callI env (evalW env) 28 args := fun _ => rfl
theorem fg28 : ∀ tm : List AVal, forget env 28 tm = forgetL [true, true, true, true, true, true, true, true, true, true, true, true, true, true, true, false, true, true, false, false, false, false, false, false, false, false, false, false, false, false, false, false, false, false, false, false, false, false, false, false, false, false, false, false, false, false, false, false, false, false, false, false, false, false, false, false, false, false, false, false, false, false, false, false, false, false, false, false, false] tm := fun _ => rfl
theorem fi29 : (env.funcs.find 29).i = fu29.i := rfl
theorem ff29 : (env.funcs.find 29).f.beq 29 = true := rfl
theorem hk29 : ∀ args : List AVal, callF env (evalW env) 29 args = callI env (evalW env) 29 args := fun _ => rfl
theorem fg29 : ∀ tm : List AVal, forget env 29 tm = forgetL [true, true, true, true, true, true, true, false, false, false, false, false, false, false, false, false, false, false, false, false, false, false, false, false, false, false, false, false, false, false, false, false, false, false, false, false, false, false, false, false, false, false, false, false, false, false, false] tm := fun _ => rfl
theorem fi30 : (env.funcs.find 30).i = fu30.i := rfl
theorem ff30 : (env.funcs.find 30).f.beq 30 = true := rfl
theorem hk30 : ∀ args : List AVal, callF env (evalW env) 30 args = callI env (evalW env) 30 args := fun _ => rfl
theorem fg30 : ∀ tm : List AVal, forget env 30 tm = forgetL [true, true, true, true, false, true, false, false, false, false, false, false, false, false, false, false, false, false, false, false, false, false, false, false, false, false, false, false, false, false, false, false, false, false, false, false, false, false, false, false, false, false, false, false, false, false, false, false, false, false, false, false, false, false, false, false, false, false, true, false, false, false, false, false, false, false, false, false, false, true] tm := fun _ => rfl
theorem fi31 : (env.funcs.find 31).i = fu31.i := rfl
theorem ff31 : (env.funcs.find 31).f.beq 31 = true := rfl
theorem hk31 : ∀ args : List AVal, callF env (evalW env) 31 args = callI env (evalW env) 31 args := fun _ => rfl
theorem fg31 : ∀ tm : List AVal, forget env 31 tm = forgetL [true, true, true, true, false, false, true, true, true, true, true, false, false, false, false, false, false, false, false, false, false, true, false, false, false, false, false, false, false, false, false, false, true, false, false, true, false, false, false, false, false, false, false, false, false, false, false, false, false, false, false, false, false, false, false, false, false, false, false, false] tm := fun _ => rfl
theorem fi32 : (env.funcs.find 32).i = fu32.i := rfl
theorem ff32 : (env.funcs.find 32).f.beq 32 = true := rfl
theorem hk32 : ∀ args : List AVal, callF env (evalW env) 32 args = callI env (evalW env) 32 args := fun _ => rfl
theorem fg32 : ∀ tm : List AVal, forget env 32 tm = forgetL [true, true, true, true, true, false] tm := fun _ => rfl
theorem fi33 : (env.funcs.find 33).i = fu33.i := rfl
theorem ff33 : (env.funcs.find 33).f.beq 33 = true := rfl
theorem hk33 : ∀ args : List AVal, callF env (evalW env) 33 args = callI env (evalW env) 33 args := fun _ => rfl
theorem fg33 : ∀ tm : List AVal, forget env 33 tm = forgetL [true, true, true, false, true, true, true, true, true, true, true, false, true, false, false, false, false, false, false, false, false, false, true, false, false, false, false, false, false, false, false, false, false, false, true, false, false, false, false, true, false, false, false, false, false, false, false, false, false, false, false, false, false, false, false, false, false, false, false, false, false, false, false, false, false, false, false, true, false, false, false, false, false, false, false, true, false, false, false, false, true, false, false, false, false, false, false, false, false, false, false, false, false, false, false, false, false, false, false, false, false, false] tm := fun _ => rfl
theorem fi34 : (env.funcs.find 34).i = fu34.i := rfl
theorem ff34 : (env.funcs.find 34).f.beq 34 = true := rfl
theorem hk34 : ∀ args : List AVal, callF env (evalW env) 34 args = callI env (evalW env) 34 args := fun _ => rfl
theorem fg34 : ∀ tm : List AVal, forget env 34 tm = forgetL [true, true, true, true, true, true, true, true, true, true, false, false, true, false, false, false, true, true, true, false, false, false, false, false, false, false, false, false, false, false, false, false, false, false, false, false, true, false, false, false, false, false, false, false, false, false, false, false, false, false, false, false, false, false] tm := fun _ => rfl
theorem fi35 : (env.funcs.find 35).i = fu35.i := rfl
theorem ff35 : (env.funcs.find 35).f.beq 35 = true := rfl
theorem hk35 : ∀ args : List AVal, callF env (evalW env) 35 args = callI env (evalW env) 35 args := fun _ => rfl
theorem fg35 : ∀ tm : List AVal, forget env 35 tm = forgetL [true, true, false, true, true, true, true, true, true, false, false, false, false, false, false, false, false, false, false, false, false, false, false, false, false, false, false, false, false, false, false, false, false, false, false] tm := fun _ => rfl
theorem fi36 : (env.funcs.find 36).i = fu36.i := rfl
theorem ff36 : (env.funcs.find 36).f.beq 36 = true := rfl
theorem hk36 : ∀ args : List AVal, callF env (evalW env) 36 args = callI env (evalW env) 36 args := fun _ => rfl
theorem fg36 : ∀ tm : List AVal, forget env 36 tm = forgetL [true, true, false, false, true, false, false, false, false] tm := fun _ => rfl
theorem fi37 : (env.funcs.find 37).i = fu37.i := rfl
theorem ff37 : (env.funcs.find 37).f.beq 37 = true := rfl
theorem hk37 : ∀ args : List AVal, callF env (evalW env) 37 args = callI env (evalW env) 37 args := fun _ => rfl
theorem fg37 : ∀ tm : List AVal, forget env 37 tm = forgetL [true, false, true, true, true, false, false, false, false, false, false, false, false, false, false, false, false] tm := fun _ => rfl
theorem fi38 : (env.funcs.find 38).i = fu38.i := rfl
theorem ff38 : (env.funcs.find 38).f.beq 38 = true := rfl
theorem hk38 : ∀ args : List AVal, callF env (evalW env) 38 args = callI env (evalW env) 38 args := fun _ => rfl
theorem fg38 : ∀ tm : List AVal, forget env 38 tm = forgetL [true, true, true, true, true, true, false, false, false, false, false, false, false, false, false] tm := fun _ => rfl
theorem fi39 : (env.funcs.find 39).i = fu39.i := rfl
theorem ff39 : (env.funcs.find 39).f.beq 39 = true := rfl
theorem hk39 : ∀ args : List AVal, callF env (evalW env) 39 args = callI env (evalW env) 39 args := fun _ => rfl
theorem fg39 : ∀ tm : List AVal, forget env 39 tm = forgetL [true, true, true, false, false, false] tm := fun _ => rfl
theorem fi40 : (env.funcs.find 40).i = fu40.i := rfl
theorem ff40 : (env.funcs.find 40).f.beq 40 = true := rfl
theorem hk40 : ∀ args : List AVal, callF env (evalW env) 40 args = callI env (evalW env) 40 args := fun _ => rfl
theorem fg40 : ∀ tm : List AVal, forget env 40 tm = forgetL [true, false, true, false, false, false, false, false, false] tm := fun _ => rfl
theorem fi41 : (env.funcs.find 41).i = fu41.i := rfl
theorem ff41 : (env.funcs.find 41).f.beq 41 = true := rfl
theorem hk41 : ∀ args : List AVal, callF env (evalW env) 41 args = callI env (evalW env) 41 args := fun _ => rfl
theorem fg41 : ∀ tm : List AVal, forget env 41 tm = forgetL [true, true, true, false, false, false] tm := fun _ => rfl
theorem fi42 : (env.funcs.find 42).i = fu42.i := rfl
theorem ff42 : (env.funcs.find 42).f.beq 42 = true := rfl
theorem hk42 : ∀ args : List AVal, callF env (evalW env) 42 args = callI env (evalW env) 42 args := fun _ => rfl
theorem fg42 : ∀ tm : List AVal, forget env 42 tm = forgetL [true, true, true, true, true, true, true, true, true, true, true, true, false, false, false, false, false, false, true, false, false, false, false, false, false, true, false, false, true, false, false, false, false, false, false, false, false, false, false, false, false, false, false, false, false, false, false, false, false, false, false, false] tm := fun _ => rfl
theorem fi43 : (env.funcs.find 43).i = fu43.i := rfl
theorem ff43 : (env.funcs.find 43).f.beq 43 = true := rfl
theorem hk43 : ∀ args : List AVal, callF env (evalW env) 43 args = callI env (evalW env) 43 args := fun _ => rfl
theorem fg43 : ∀ tm : List AVal, forget env 43 tm = forgetL [true, false, true, true, false, false, false] tm := fun _ => rfl
theorem fi44 : (env.funcs.find 44).i = fu44.i := rfl
theorem ff44 : (env.funcs.find 44).f.beq 44 = true := rfl
theorem hk44 : ∀ args : List AVal, callF env (evalW env) 44 args = callI env (evalW env) 44 args := fun _ => rfl
theorem fg44 : ∀ tm : List AVal, forget env 44 tm = forgetL [true, true, true, true, true, false, false, true, false, false, false, false, false, false, false, false, false, false, false, false, false, false, false, false] tm := fun _ => rfl
theorem fi45 : (env.funcs.find 45).i = fu45.i := rfl
theorem ff45 : (env.funcs.find 45).f.beq 45 = true := rfl
theorem hk45 : ∀ args : List AVal, callF env (evalW env) 45 args = callI env (evalW env) 45 args := fun _ => rfl
theorem fg45 : ∀ tm : List AVal, forget env 45 tm = forgetL [true, true, true, true, true, false, false, false, false, false, false, false, false, false, false, false, true, false, false, false] tm := fun _ => rfl
theorem fi46 : (env.funcs.find 46).i = fu46.i := rfl
theorem ff46 : (env.funcs.find 46).f.beq 46 = true := rfl
theorem hk46 : ∀ args : List AVal, callF env (evalW env) 46 args = callI env (evalW env) 46 args := fun _ => rfl
theorem fg46 : ∀ tm : List AVal, forget env 46 tm = forgetL [true, true, true, false, true, true, true, true, false, true, false, false, false, false, false, false, true, false, false, false, false, false, false, false, false, false, false, false, false, false] tm := fun _ => rfl
theorem fi47 : (env.funcs.find 47).i = fu47.i := rfl
theorem ff47 : (env.funcs.find 47).f.beq 47 = true := rfl
theorem hk47 : ∀ args : List AVal, callF env (evalW env) 47 args = callI env (evalW env) 47 args := fun _ => rfl
theorem fg47 : ∀ tm : List AVal, forget env 47 tm = forgetL [true, true, true, true, true, true, true, true, false, false, false, false, false, false, false, false, false, false, false, false] tm := fun _ => rfl
theorem fi48 : (env.funcs.find 48).i = fu48.i := rfl
theorem ff48 : (env.funcs.find 48).f.beq 48 = true := rfl
theorem hk48 : ∀ args : List AVal, callF env (evalW env) 48 args = callI env (evalW env) 48 args := fun _ => rfl
theorem fg48 : ∀ tm : List AVal, forget env 48 tm = forgetL [true, true, true, true, true, true, true, true, false, false, false, false, false, true, false, false, false, false, false, false, false, false, false, false, true, false, false, false, false, false, false, false, false, true] tm := fun _ => rfl
theorem fi49 : (env.funcs.find 49).i = fu49.i := rfl
theorem ff49 : (env.funcs.find 49).f.beq 49 = true := rfl
theorem hk49 : ∀ args : List AVal, callF env (evalW env) 49 args = callI env (evalW env) 49 args := fun _ => rfl
theorem fg49 : ∀ tm : List AVal, forget env 49 tm = forgetL [true, true, true, true, true, false, false, false, true, false, false, false, false, false, false, false, false, false, false, false, false] tm := fun _ => rfl
theorem fi50 : (env.funcs.find 50).i = fu50.i := rfl
theorem ff50 : (env.funcs.find 50).f.beq 50 = true := rfl
theorem hk50 : ∀ args : List AVal, callF env (evalW env) 50 args = callI env (evalW env) 50 args := fun _ => rfl
theorem fg50 : ∀ tm : List AVal, forget env 50 tm = forgetL [true, true, true, false] tm := fun _ => rfl
theorem fi51 : (env.funcs.find 51).i = fu51.i := rfl
theorem ff51 : (env.funcs.find 51).f.beq 51 = true := rfl
theorem hk51 : ∀ args : List AVal, callF env (evalW env) 51 args = callI env (evalW env) 51 args := fun _ => rfl
theorem fg51 : ∀ tm : List AVal, forget env 51 tm = forgetL [true, true, true, false, true, true, true, true, true, false, true, false, false, true, false, false, false, false, false, false, false, true, false, false, false, false, false, false, false, false, false, false, false, false, false, true, false, false, false, false, false, false, false, false, false, false, false, false, false, false, false] tm := fun _ => rfl
theorem fi53 : (env.funcs.find 53).i = fu53.i := rfl
theorem ff53 : (env.funcs.find 53).f.beq 53 = true := rfl
theorem hk53 : ∀ args : List AVal, callF env (evalW env) 53 args = callI env (evalW env) 53 args := fun _ => rfl
theorem fg53 : ∀ tm : List AVal, forget env 53 tm = forgetL [true, true, true, true, true, true, false, false, false, false, true, false, false, false, false, false, false, true, false, false, false, false, false, false, false, false, false, false, false, false, false, false, false] tm := fun _ => rfl
theorem fi54 : (env.funcs.find 54).i = fu54.i := rfl
theorem ff54 : (env.funcs.find 54).f.beq 54 = true := rfl
theorem hk54 : ∀ args : List AVal, callF env (evalW env) 54 args = callI env (evalW env) 54 args := fun _ => rfl
theorem fg54 : ∀ tm : List AVal, forget env 54 tm = forgetL [true, false, true, true, true, true, true, false, false, true, false, true, true, true, true, false, false, false, false, false, false, false, false, false, false, false, false, false, false, false, false, false] tm := fun _ => rfl
theorem fi56 : (env.funcs.find 56).i = fu56.i := rfl
theorem ff56 : (env.funcs.find 56).f.beq 56 = true := rfl
theorem hk56 : ∀ args : List AVal, callF env (evalW env) 56 args = callI env (evalW env) 56 args := fun _ => rfl
theorem fg56 : ∀ tm : List AVal, forget env 56 tm = forgetL [true, true, false, false, true, true, true, true, true, true, true, true, true, true, false, false, false, false, false, false, false, false, false, false, false, false, false, false, false, false, false, false, false, false, false, false, false, false, false, false, false, false, false, false, false, false, false, false, false, false, false] tm := fun _ => rfl
theorem fi57 : (env.funcs.find 57).i = fu57.i := rfl
theorem ff57 : (env.funcs.find 57).f.beq 57 = true := rfl
theorem hk57 : ∀ args : List AVal, callF env (evalW env) 57 args = callI env (evalW env) 57 args := fun _ => rfl
theorem fg57 : ∀ tm : List AVal, forget env 57 tm = forgetL [true, false, true, true, true, false, false, false, false, false, false, false, false] tm := fun _ => rfl
theorem fi58 : (env.funcs.find 58).i = fu58.i := rfl
theorem ff58 : (env.funcs.find 58).f.beq 58 = true := rfl
theorem hk58 : ∀ args : List AVal, callF env (evalW env) 58 args = callI env (evalW env) 58 args := fun _ => rfl
theorem fg58 : ∀ tm : List AVal, forget env 58 tm = forgetL [true, false, true, true, false, true, true, true, true, true, false, false, false, false, false, false, false, false, false] tm := fun _ => rfl
theorem fi59 : (env.funcs.find 59).i = fu59.i := rfl
theorem ff59 : (env.funcs.find 59).f.beq 59 = true := rfl
theorem hk59 : ∀ args : List AVal, callF env (evalW env) 59 args = callI env (evalW env) 59 args := fun _ => rfl
theorem fg59 : ∀ tm : List AVal, forget env 59 tm = forgetL [true, true, true, false, false, false, true, false, false, false, false, false, false, false, false] tm := fun _ => rfl
theorem fi60 : (env.funcs.find 60).i = fu60.i := rfl
theorem ff60 : (env.funcs.find 60).f.beq 60 = true := rfl
theorem hk60 : ∀ args : List AVal, callF env (evalW env) 60 args = callI env (evalW env) 60 args := fun _ => rfl
theorem fg60 : ∀ tm : List AVal, forget env 60 tm = forgetL [true, true, true, true, true, false, true, true, true, false, true, true, false, false, false, false, false, false, false, false, false, false, false, false, false, false, false, false, false, false, false, false, false, false, false, false, false, false, false, true, false, false, false, false, false] tm := fun _ => rfl
theorem fi61 : (env.funcs.find 61).i = fu61.i := rfl
theorem ff61 : (env.funcs.find 61).f.beq 61 = true := rfl
theorem hk61 : ∀ args : List AVal, callF env (evalW env) 61 args = callI env (evalW env) 61 args := fun _ => rfl
theorem fg61 : ∀ tm : List AVal, forget env 61 tm = forgetL [true, true, true, false, true, false, false, false, false, false, false, false, true, false, false, false, false, false, false, false, false, false, false, false] tm := fun _ => rfl
theorem fi62 : (env.funcs.find 62).i = fu62.i := rfl
theorem ff62 : (env.funcs.find 62).f.beq 62 = true := rfl
theorem hk62 : ∀ args : List AVal, callF env (evalW env) 62 args = callI env (evalW env) 62 args := fun _ => rfl
theorem fg62 : ∀ tm : List AVal, forget env 62 tm = forgetL [true, true, true, false, true, false, false, false, false, false, false, false, false, false, false, false, false, false, false, false, false, false, false, false, false, false, false, false, false, false, false, false, false, false, false, false, false, false, false, false, false, false, false, false, false, false, false, false, false, false, false, false, false, false, false, false, false, false, false, false, false, false, false, false, false, false, false, false, false, false, false, false, true, false, false, false, false, false, false, false, false, false, false, false, false, false, false, false, false, false, false, false, false, true] tm := fun _ => rfl
theorem fi63 : (env.funcs.find 63).i = fu63.i := rfl
theorem ff63 : (env.funcs.find 63).f.beq 63 = true := rfl
theorem hk63 : ∀ args : List AVal, callF env (evalW env) 63 args = callI env (evalW env) 63 args := fun _ => rfl
theorem fg63 : ∀ tm : List AVal, forget env 63 tm = forgetL [true, true, true, false] tm := fun _ => rfl
theorem fi64 : (env.funcs.find 64).i = fu64.i := rfl
theorem ff64 : (env.funcs.find 64).f.beq 64 = true := rfl
theorem hk64 : ∀ args : List AVal, callF env (evalW env) 64 args = callI env (evalW env) 64 args := fun _ => rfl
theorem fg64 : ∀ tm : List AVal, forget env 64 tm = forgetL [true, true, false, false, true, true, true, true, true, true, false, false, false, false, false, false, true, false, false, false, false, false, false, false, false, false, false, false, false, false, false, false, false, false, false, false, false, false, false] tm := fun _ => rfl
theorem fi65 : (env.funcs.find 65).i = fu65.i := rfl
theorem ff65 : (env.funcs.find 65).f.beq 65 = true := rfl
theorem hk65 : ∀ args : List AVal, callF env (evalW env) 65 args = callI env (evalW env) 65 args := fun _ => rfl
theorem fg65 : ∀ tm : List AVal, forget env 65 tm = forgetL [true, false, true, true, true, false, false, false, false, false, false, false, true, false, false, false, false, false, false, true, false, false, false, false, false, false, false, false, false, false, false, false, false] tm := fun _ => rfl
theorem fi66 : (env.funcs.find 66).i = fu66.i := rfl
theorem ff66 : (env.funcs.find 66).f.beq 66 = true := rfl
theorem hk66 : ∀ args : List AVal, callF env (evalW env) 66 args = callI env (evalW env) 66 args := fun _ => rfl
theorem fg66 : ∀ tm : List AVal, forget env 66 tm = forgetL [true, true, false, true, true, false, false, false, false, false, false, true, false, false, false, false, false, false, false, false, false, false, true] tm := fun _ => rfl
theorem fi67 : (env.funcs.find 67).i = fu67.i := rfl
theorem ff67 : (env.funcs.find 67).f.beq 67 = true := rfl
theorem hk67 : ∀ args : List AVal, callF env (evalW env) 67 args = callI env (evalW env) 67 args := fun _ => rfl
theorem fg67 : ∀ tm : List AVal, forget env 67 tm = forgetL [true, true, true, true, true, false, false, true, true, true, false, false, false, false, false, false, false, false, false, false, false, false, false, false, false] tm := fun _ => rfl
theorem fi68 : (env.funcs.find 68).i = fu68.i := rfl
theorem ff68 : (env.funcs.find 68).f.beq 68 = true := rfl
theorem hk68 : ∀ args : List AVal, callF env (evalW env) 68 args = callI env (evalW env) 68 args := fun _ => rfl
theorem fg68 : ∀ tm : List AVal, forget env 68 tm = forgetL [true, false] tm := fun _ => rfl
theorem fi69 : (env.funcs.find 69).i = fu69.i := rfl
theorem ff69 : (env.funcs.find 69).f.beq 69 = true := rfl
theorem hk69 : ∀ args : List AVal, callF env (evalW env) 69 args = callI env (evalW env) 69 args := fun _ => rfl
theorem fg69 : ∀ tm : List AVal, forget env 69 tm = forgetL [true, true, false, true, false, false, false, false, true, false, false, false, false, false, false, false, false, false, false, false, false, false, true] tm := fun _ => rfl
theorem fi70 : (env.funcs.find 70).i = fu70.i := rfl
theorem ff70 : (env.funcs.find 70).f.beq 70 = true := rfl
theorem hk70 : ∀ args : List AVal, callF env (evalW env) 70 args = callI env (evalW env) 70 args := fun _ => rfl
theorem fg70 : ∀ tm : List AVal, forget env 70 tm = forgetL [true, true, true, true, true, true, true, true, true, false, false, false, true, false, false, false, false, false, false, false] tm := fun _ => rfl
theorem fi71 : (env.funcs.find 71).i = fu71.i := rfl
theorem ff71 : (env.funcs.find 71).f.beq 71 = true := rfl
theorem hk71 : ∀ args : List AVal, callF env (evalW env) 71 args = callI env (evalW env) 71 args := fun _ => rfl
theorem fg71 : ∀ tm : List AVal, forget env 71 tm = forgetL [true, false, true, false, true, false, false, false, true, false, false, false, false, false, true, false, false, false, false, false, false, false, false, false, false] tm := fun _ => rfl
theorem hk52 : ∀ args : List AVal, callF env (evalW env) 52 args = subAct args := fun _ => rfl
theorem hk55 : ∀ args : List AVal, callF env (evalW env) 55 args = addAct args := fun _ => rfl
theorem bl9s : ∀ ts l, bLen env (9 :: ts) (.str l) = M.pure (.int .i64 (l.length : Nat)) := fun _ _ => rfl
theorem bl10s : ∀ ts l, bLen env (10 :: ts) (.str l) = M.pure (.int .i64 (l.length : Nat)) := fun _ _ => rfl
theorem bl11s : ∀ ts l, bLen env (11 :: ts) (.str l) = M.pure (.int .i64 (l.length : Nat)) := fun _ _ => rfl
theorem bl22a : ∀ ts id off len cap sz, bLen env (22 :: ts) (.sl id off len cap sz) = M.pure (.int .i64 (len : Nat)) := fun _ _ _ _ _ _ => rfl
theorem bl22b : ∀ ts g sz off len, bLen env (22 :: ts) (.isl g sz off len) = M.pure (.int .i64 (len : Nat)) := fun _ _ _ _ _ => rfl
theorem bl22c : ∀ ts, bLen env (22 :: ts) .nils = M.pure (.int .i64 0) := fun _ => rfl
theorem bl22d : ∀ ts, bLen env (22 :: ts) .emp = M.pure (.int .i64 0) := fun _ => rfl
theorem bl24r : ∀ ts v, bLen env (24 :: ts) v = M.pure (.int .i64 4) := fun _ _ => rfl
theorem bl25r : ∀ ts v, bLen env (25 :: ts) v = M.pure (.int .i64 4) := fun _ _ => rfl
theorem bl46r : ∀ ts v, bLen env (46 :: ts) v = M.pure (.int .i64 32) := fun _ _ => rfl
theorem bl47r : ∀ ts v, bLen env (47 :: ts) v = M.pure (.int .i64 32) := fun _ _ => rfl
theorem bl62a : ∀ ts id off len cap sz, bLen env (62 :: ts) (.sl id off len cap sz) = M.pure (.int .i64 (len : Nat)) := fun _ _ _ _ _ _ => rfl
theorem bl62b : ∀ ts g sz off len, bLen env (62 :: ts) (.isl g sz off len) = M.pure (.int .i64 (len : Nat)) := fun _ _ _ _ _ => rfl
theorem bl62c : ∀ ts, bLen env (62 :: ts) .nils = M.pure (.int .i64 0) := fun _ => rfl
theorem bl62d : ∀ ts, bLen env (62 :: ts) .emp = M.pure (.int .i64 0) := fun _ => rfl
theorem bl78a : ∀ ts id off len cap sz, bLen env (78 :: ts) (.sl id off len cap sz) = M.pure (.int .i64 (len : Nat)) := fun _ _ _ _ _ _ => rfl
theorem bl78b : ∀ ts g sz off len, bLen env (78 :: ts) (.isl g sz off len) = M.pure (.int .i64 (len : Nat)) := fun _ _ _ _ _ => rfl
theorem bl78c : ∀ ts, bLen env (78 :: ts) .nils = M.pure (.int .i64 0) := fun _ => rfl
theorem bl78d : ∀ ts, bLen env (78 :: ts) .emp = M.pure (.int .i64 0) := fun _ => rfl
theorem bl86a : ∀ ts id off len cap sz, bLen env (86 :: ts) (.sl id off len cap sz) = M.pure (.int .i64 (len : Nat)) := fun _ _ _ _ _ _ => rfl
theorem bl86b : ∀ ts g sz off len, bLen env (86 :: ts) (.isl g sz off len) = M.pure (.int .i64 (len : Nat)) := fun _ _ _ _ _ => rfl
theorem bl86c : ∀ ts, bLen env (86 :: ts) .nils = M.pure (.int .i64 0) := fun _ => rfl
theorem bl86d : ∀ ts, bLen env (86 :: ts) .emp = M.pure (.int .i64 0) := fun _ => rfl
theorem bl89r : ∀ ts v, bLen env (89 :: ts) v = M.pure (.int .i64 8) := fun _ _ => rfl
theorem bl91a : ∀ ts id off len cap sz, bLen env (91 :: ts) (.sl id off len cap sz) = M.pure (.int .i64 (len : Nat)) := fun _ _ _ _ _ _ => rfl
theorem bl91b : ∀ ts g sz off len, bLen env (91 :: ts) (.isl g sz off len) = M.pure (.int .i64 (len : Nat)) := fun _ _ _ _ _ => rfl
theorem bl91c : ∀ ts, bLen env (91 :: ts) .nils = M.pure (.int .i64 0) := fun _ => rfl
theorem bl91d : ∀ ts, bLen env (91 :: ts) .emp = M.pure (.int .i64 0) := fun _ => rfl
theorem bl105a : ∀ ts id off len cap sz, bLen env (105 :: ts) (.sl id off len cap sz) = M.pure (.int .i64 (len : Nat)) := fun _ _ _ _ _ _ => rfl
theorem bl105b : ∀ ts g sz off len, bLen env (105 :: ts) (.isl g sz off len) = M.pure (.int .i64 (len : Nat)) := fun _ _ _ _ _ => rfl
theorem bl105c : ∀ ts, bLen env (105 :: ts) .nils = M.pure (.int .i64 0) := fun _ => rfl
theorem bl105d : ∀ ts, bLen env (105 :: ts) .emp = M.pure (.int .i64 0) := fun _ => rfl
theorem bl111r : ∀ ts v, bLen env (111 :: ts) v = M.pure (.int .i64 0) := fun _ _ => rfl
noncomputable def lp3_0 : Code := (loopsOf (Try.f3.body.getD .skip)).getD 0 .skip
noncomputable def lp11_0 : Code := (loopsOf (Try.f11.body.getD .skip)).getD 0 .skip
noncomputable def lp12_0 : Code := (loopsOf (Try.f12.body.getD .skip)).getD 0 .skip
noncomputable def lp13_0 : Code := (loopsOf (Try.f13.body.getD .skip)).getD 0 .skip
noncomputable def lp15_0 : Code := (loopsOf (Try.f15.body.getD .skip)).getD 0 .skip
noncomputable def ra15_0 : Code := ((rangesOf (Try.f15.body.getD .skip)).getD 0 (.skip, .skip)).1
noncomputable def rb15_0 : Code := ((rangesOf (Try.f15.body.getD .skip)).getD 0 (.skip, .skip)).2
noncomputable def lp18_0 : Code := (loopsOf (Try.f18.body.getD .skip)).getD 0 .skip
noncomputable def lp20_0 : Code := (loopsOf (Try.f20.body.getD .skip)).getD 0 .skip
noncomputable def lp21_0 : Code := (loopsOf (Try.f21.body.getD .skip)).getD 0 .skip
noncomputable def lp21_1 : Code := (loopsOf (Try.f21.body.getD .skip)).getD 1 .skip
noncomputable def lp24_0 : Code := (loopsOf (Try.f24.body.getD .skip)).getD 0 .skip
noncomputable def lp26_0 : Code := (loopsOf (Try.f26.body.getD .skip)).getD 0 .skip
noncomputable def lp27_0 : Code := (loopsOf (Try.f27.body.getD .skip)).getD 0 .skip
noncomputable def lp28_0 : Code := (loopsOf (Try.f28.body.getD .skip)).getD 0 .skip
noncomputable def lp28_1 : Code := (loopsOf (Try.f28.body.getD .skip)).getD 1 .skip
noncomputable def ra34_0 : Code := ((rangesOf (Try.f34.body.getD .skip)).getD 0 (.skip, .skip)).1
noncomputable def rb34_0 : Code := ((rangesOf (Try.f34.body.getD .skip)).getD 0 (.skip, .skip)).2
noncomputable def lp38_0 : Code := (loopsOf (Try.f38.body.getD .skip)).getD 0 .skip
noncomputable def lp42_0 : Code := (loopsOf (Try.f42.body.getD .skip)).getD 0 .skip
noncomputable def lp42_1 : Code := (loopsOf (Try.f42.body.getD .skip)).getD 1 .skip
noncomputable def lp44_0 : Code := (loopsOf (Try.f44.body.getD .skip)).getD 0 .skip
noncomputable def lp45_0 : Code := (loopsOf (Try.f45.body.getD .skip)).getD 0 .skip
noncomputable def lp46_0 : Code := (loopsOf (Try.f46.body.getD .skip)).getD 0 .skip
noncomputable def lp48_0 : Code := (loopsOf (Try.f48.body.getD .skip)).getD 0 .skip
noncomputable def lp49_0 : Code := (loopsOf (Try.f49.body.getD .skip)).getD 0 .skip
noncomputable def lp51_0 : Code := (loopsOf (Try.f51.body.getD .skip)).getD 0 .skip
noncomputable def lp53_0 : Code := (loopsOf (Try.f53.body.getD .skip)).getD 0 .skip
noncomputable def lp54_0 : Code := (loopsOf (Try.f54.body.getD .skip)).getD 0 .skip
noncomputable def lp58_0 : Code := (loopsOf (Try.f58.body.getD .skip)).getD 0 .skip
noncomputable def lp64_0 : Code := (loopsOf (Try.f64.body.getD .skip)).getD 0 .skip
noncomputable def lp65_0 : Code := (loopsOf (Try.f65.body.getD .skip)).getD 0 .skip
noncomputable def lp66_0 : Code := (loopsOf (Try.f66.body.getD .skip)).getD 0 .skip
noncomputable def lp67_0 : Code := (loopsOf (Try.f67.body.getD .skip)).getD 0 .skip
noncomputable def lp69_0 : Code := (loopsOf (Try.f69.body.getD .skip)).getD 0 .skip
noncomputable def lp70_0 : Code := (loopsOf (Try.f70.body.getD .skip)).getD 0 .skip
def tyr := (And.intro ti0 (And.intro ti1 (And.intro ti2 (And.intro ti3 (And.intro ti4 (And.intro ti5 (And.intro ti6 (And.intro ti7 (And.intro ti8 (And.intro ti9 (And.intro ti10 (And.intro ti11 (And.intro ti12 (And.intro ti13 (And.intro ti14 (And.intro ti15 (And.intro ti16 (And.intro ti17 (And.intro ti18 (And.intro ti19 (And.intro ti20 (And.intro ti21 (And.intro ti22 (And.intro ti23 (And.intro ti24 (And.intro ti25 (And.intro ti26 (And.intro ti27 (And.intro ti28 (And.intro ti29 (And.intro ti30 (And.intro ti31 (And.intro ti32 (And.intro ti33 (And.intro ti34 (And.intro ti35 (And.intro ti36 (And.intro ti37 (And.intro ti38 (And.intro ti39 (And.intro ti40 (And.intro ti41 (And.intro ti42 (And.intro ti43 (And.intro ti44 (And.intro ti45 (And.intro ti46 (And.intro ti47 (And.intro ti48 (And.intro ti49 (And.intro ti50 (And.intro ti51 (And.intro ti52 (And.intro ti53 (And.intro ti54 (And.intro ti55 (And.intro ti56 (And.intro ti57 (And.intro ti58 (And.intro ti59 (And.intro ti60 (And.intro ti61 (And.intro ti62 (And.intro ti63 (And.intro ti64 (And.intro ti65 (And.intro ti66 (And.intro ti67 (And.intro ti68 (And.intro ti69 (And.intro ti70 (And.intro ti71 (And.intro ti72 (And.intro ti73 (And.intro ti74 (And.intro ti75 (And.intro ti76 (And.intro ti77 (And.intro ti78 (And.intro ti79 (And.intro ti80 (And.intro ti81 (And.intro ti82 (And.intro ti83 (And.intro ti84 (And.intro ti85 (And.intro ti86 (And.intro ti87 (And.intro ti88 (And.intro ti89 (And.intro ti90 (And.intro ti91 (And.intro ti92 (And.intro ti93 (And.intro ti94 (And.intro ti95 (And.intro ti96 (And.intro ti97 (And.intro ti98 (And.intro ti99 (And.intro ti100 (And.intro ti101 (And.intro ti102 (And.intro ti103 (And.intro ti104 (And.intro ti105 (And.intro ti106 (And.intro ti107 (And.intro ti108 (And.intro ti109 (And.intro ti110 (And.intro ti111 (And.intro ti112 (And.intro ti113 (And.intro ti114 (And.intro ti115 (And.intro ti116 (And.intro ti117 (And.intro ti118 (And.intro ti119 (And.intro ti120 (And.intro ti121 (And.intro ti122 ti123)))))))))))))))))))))))))))))))))))))))))))))))))))))))))))))))))))))))))))))))))))))))))))))))))))))))))))))))))))))))))))
def blr := (And.intro bl9s (And.intro bl10s (And.intro bl11s (And.intro bl22a (And.intro bl22b (And.intro bl22c (And.intro bl22d (And.intro bl24r (And.intro bl25r (And.intro bl46r (And.intro bl47r (And.intro bl62a (And.intro bl62b (And.intro bl62c (And.intro bl62d (And.intro bl78a (And.intro bl78b (And.intro bl78c (And.intro bl78d (And.intro bl86a (And.intro bl86b (And.intro bl86c (And.intro bl86d (And.intro bl89r (And.intro bl91a (And.intro bl91b (And.intro bl91c (And.intro bl91d (And.intro bl105a (And.intro bl105b (And.intro bl105c (And.intro bl105d bl111r))))))))))))))))))))))))))))))))
def fgr := (And.intro fg2 (And.intro fg3 (And.intro fg4 (And.intro fg5 (And.intro fg6 (And.intro fg7 (And.intro fg8 (And.intro fg9 (And.intro fg10 (And.intro fg11 (And.intro fg12 (And.intro fg13 (And.intro fg14 (And.intro fg15 (And.intro fg16 (And.intro fg17 (And.intro fg18 (And.intro fg19 (And.intro fg20 (And.intro fg21 (And.intro fg22 (And.intro fg23 (And.intro fg24 (And.intro fg25 (And.intro fg26 (And.intro fg27 (And.intro fg28 (And.intro fg29 (And.intro fg30 (And.intro fg31 (And.intro fg32 (And.intro fg33 (And.intro fg34 (And.intro fg35 (And.intro fg36 (And.intro fg37 (And.intro fg38 (And.intro fg39 (And.intro fg40 (And.intro fg41 (And.intro fg42 (And.intro fg43 (And.intro fg44 (And.intro fg45 (And.intro fg46 (And.intro fg47 (And.intro fg48 (And.intro fg49 (And.intro fg50 (And.intro fg51 (And.intro fg53 (And.intro fg54 (And.intro fg56 (And.intro fg57 (And.intro fg58 (And.intro fg59 (And.intro fg60 (And.intro fg61 (And.intro fg62 (And.intro fg63 (And.intro fg64 (And.intro fg65 (And.intro fg66 (And.intro fg67 (And.intro fg68 (And.intro fg69 (And.intro fg70 fg71)))))))))))))))))))))))))))))))))))))))))))))))))))))))))))))))))))
def hkr := (And.intro hk2 (And.intro hk3 (And.intro hk4 (And.intro hk5 (And.intro hk6 (And.intro hk7 (And.intro hk8 (And.intro hk9 (And.intro hk10 (And.intro hk11 (And.intro hk12 (And.intro hk13 (And.intro hk14 (And.intro hk15 (And.intro hk16 (And.intro hk17 (And.intro hk18 (And.intro hk19 (And.intro hk20 (And.intro hk21 (And.intro hk22 (And.intro hk23 (And.intro hk24 (And.intro hk25 (And.intro hk26 (And.intro hk27 (And.intro hk28 (And.intro hk29 (And.intro hk30 (And.intro hk31 (And.intro hk32 (And.intro hk33 (And.intro hk34 (And.intro hk35 (And.intro hk36 (And.intro hk37 (And.intro hk38 (And.intro hk39 (And.intro hk40 (And.intro hk41 (And.intro hk42 (And.intro hk43 (And.intro hk44 (And.intro hk45 (And.intro hk46 (And.intro hk47 (And.intro hk48 (And.intro hk49 (And.intro hk50 (And.intro hk51 (And.intro hk53 (And.intro hk54 (And.intro hk56 (And.intro hk57 (And.intro hk58 (And.intro hk59 (And.intro hk60 (And.intro hk61 (And.intro hk62 (And.intro hk63 (And.intro hk64 (And.intro hk65 (And.intro hk66 (And.intro hk67 (And.intro hk68 (And.intro hk69 (And.intro hk70 (And.intro hk71 (And.intro hk52 hk55)))))))))))))))))))))))))))))))))))))))))))))))))))))))))))))))))))))
end Go.Am.Ytmlagocbphoedaa
