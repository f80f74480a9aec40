/- The types of the translation, as the symbolic walk reads them; each row is checked by the kernel. Written by a program of this session (gentab.py). No condition. -/
import Derived.Test.YtiibmnoikgfcbaaDoorProg
import Derived.Test.YtiibmnoikgfcbaaDoorX10
import Derived.KernelRfl
namespace Go.Proofs.YtiibmnoikgfcbaaDoor
open Go Go.Sx
set_option maxRecDepth 100000
theorem sz2 : (Tryd.prog.info? 2).map (·.size) = some 1 := by kernel_rfl
theorem sz3 : (Tryd.prog.info? 3).map (·.size) = some 1 := by kernel_rfl
theorem sz4 : (Tryd.prog.info? 4).map (·.size) = some 1 := by kernel_rfl
theorem sz5 : (Tryd.prog.info? 5).map (·.size) = some 1 := by kernel_rfl
theorem sz6 : (Tryd.prog.info? 6).map (·.size) = some 1 := by kernel_rfl
theorem sz9 : (Tryd.prog.info? 9).map (·.size) = some 1 := by kernel_rfl
theorem sz12 : (Tryd.prog.info? 12).map (·.size) = some 1 := by kernel_rfl
theorem sz17 : (Tryd.prog.info? 17).map (·.size) = some 1 := by kernel_rfl
theorem sz22 : (Tryd.prog.info? 22).map (·.size) = some 1 := by kernel_rfl
theorem sz24 : (Tryd.prog.info? 24).map (·.size) = some 2 := by kernel_rfl
theorem sz25 : (Tryd.prog.info? 25).map (·.size) = some 1 := by kernel_rfl
theorem sz26 : (Tryd.prog.info? 26).map (·.size) = some 1 := by kernel_rfl
theorem sz29 : (Tryd.prog.info? 29).map (·.size) = some 1 := by kernel_rfl
theorem sz66 : (Tryd.prog.info? 66).map (·.size) = some 1 := by kernel_rfl
theorem sz67 : (Tryd.prog.info? 67).map (·.size) = some 1 := by kernel_rfl
theorem sz68 : (Tryd.prog.info? 68).map (·.size) = some 1 := by kernel_rfl
theorem sz75 : (Tryd.prog.info? 75).map (·.size) = some 1 := by kernel_rfl
theorem sz119 : (Tryd.prog.info? 119).map (·.size) = some 1 := by kernel_rfl
theorem sz128 : (Tryd.prog.info? 128).map (·.size) = some 1 := by kernel_rfl
theorem sz134 : (Tryd.prog.info? 134).map (·.size) = some 1 := by kernel_rfl
theorem sz161 : (Tryd.prog.info? 161).map (·.size) = some 1 := by kernel_rfl
theorem sz162 : (Tryd.prog.info? 162).map (·.size) = some 1 := by kernel_rfl
theorem sz163 : (Tryd.prog.info? 163).map (·.size) = some 1 := by kernel_rfl
theorem sz164 : (Tryd.prog.info? 164).map (·.size) = some 1 := by kernel_rfl
theorem sz165 : (Tryd.prog.info? 165).map (·.size) = some 1 := by kernel_rfl
theorem inf1 : (Tryd.prog.info? 1).map (fun x => (x.size, x.bytes, x.zero)) = some (1, 8, some (.nilFunc)) := by kernel_rfl
def ty1 : Ti := ⟨.func, 1, 8, [.nilf]⟩
theorem tyOk1 : TiOk Tryd.prog 1 ty1 := TiOk.mk2 Tryd.underlying1 trivial inf1 rfl rfl rfl
theorem inf2 : (Tryd.prog.info? 2).map (fun x => (x.size, x.bytes, x.zero)) = some (1, 8, some (.int .i64 0)) := by kernel_rfl
def ty2 : Ti := ⟨.int .i64, 1, 8, [.n .i64 0]⟩
theorem tyOk2 : TiOk Tryd.prog 2 ty2 := TiOk.mk2 Tryd.underlying2 rfl inf2 rfl rfl rfl
theorem inf3 : (Tryd.prog.info? 3).map (fun x => (x.size, x.bytes, x.zero)) = some (1, 8, some (.int .i64 0)) := by kernel_rfl
def ty3 : Ti := ⟨.int .i64, 1, 8, [.n .i64 0]⟩
theorem tyOk3 : TiOk Tryd.prog 3 ty3 := TiOk.mk2 Tryd.underlying3 rfl inf3 rfl rfl rfl
theorem inf4 : (Tryd.prog.info? 4).map (fun x => (x.size, x.bytes, x.zero)) = some (1, 1, some (.bool false)) := by kernel_rfl
def ty4 : Ti := ⟨.bool, 1, 1, [.lb false]⟩
theorem tyOk4 : TiOk Tryd.prog 4 ty4 := TiOk.mk2 Tryd.underlying4 trivial inf4 rfl rfl rfl
theorem inf5 : (Tryd.prog.info? 5).map (fun x => (x.size, x.bytes, x.zero)) = some (1, 1, some (.int .u8 0)) := by kernel_rfl
def ty5 : Ti := ⟨.int .u8, 1, 1, [.n .u8 0]⟩
theorem tyOk5 : TiOk Tryd.prog 5 ty5 := TiOk.mk2 Tryd.underlying5 rfl inf5 rfl rfl rfl
theorem inf6 : (Tryd.prog.info? 6).map (fun x => (x.size, x.bytes, x.zero)) = some (1, 1, some (.int .u8 0)) := by kernel_rfl
def ty6 : Ti := ⟨.int .u8, 1, 1, [.n .u8 0]⟩
theorem tyOk6 : TiOk Tryd.prog 6 ty6 := TiOk.mk2 Tryd.underlying6 rfl inf6 rfl rfl rfl
theorem inf7 : (Tryd.prog.info? 7).map (fun x => (x.size, x.bytes, x.zero)) = some (4, 24, some (.agg #[.int .i64 0, .int .i64 0, .bool false, .int .u8 0])) := by kernel_rfl
def ty7 : Ti := ⟨.st [(2, 0, 1), (3, 1, 1), (4, 2, 1), (6, 3, 1)], 4, 24, [.n .i64 0, .n .i64 0, .lb false, .n .u8 0]⟩
theorem tyOk7 : TiOk Tryd.prog 7 ty7 := TiOk.mk2 Tryd.underlying7 ⟨rfl, fsOk_all ⟨⟨sz2, by decide⟩, ⟨sz3, by decide⟩, ⟨sz4, by decide⟩, ⟨sz6, by decide⟩, trivial⟩⟩ inf7 rfl rfl rfl
theorem inf8 : (Tryd.prog.info? 8).map (fun x => (x.size, x.bytes, x.zero)) = some (4, 24, some (.agg #[.int .i64 0, .int .i64 0, .bool false, .int .u8 0])) := by kernel_rfl
def ty8 : Ti := ⟨.st [(2, 0, 1), (3, 1, 1), (4, 2, 1), (6, 3, 1)], 4, 24, [.n .i64 0, .n .i64 0, .lb false, .n .u8 0]⟩
theorem tyOk8 : TiOk Tryd.prog 8 ty8 := TiOk.mk2 Tryd.underlying8 ⟨rfl, fsOk_all ⟨⟨sz2, by decide⟩, ⟨sz3, by decide⟩, ⟨sz4, by decide⟩, ⟨sz6, by decide⟩, trivial⟩⟩ inf8 rfl rfl rfl
theorem inf9 : (Tryd.prog.info? 9).map (fun x => (x.size, x.bytes, x.zero)) = some (1, 16, some (.string ⟨#[]⟩)) := by kernel_rfl
def ty9 : Ti := ⟨.str, 1, 16, [.s ⟨#[]⟩]⟩
theorem tyOk9 : TiOk Tryd.prog 9 ty9 := TiOk.mk2 Tryd.underlying9 trivial inf9 rfl rfl rfl
theorem inf10 : (Tryd.prog.info? 10).map (fun x => (x.size, x.bytes, x.zero)) = some (1, 16, some (.string ⟨#[]⟩)) := by kernel_rfl
def ty10 : Ti := ⟨.str, 1, 16, [.s ⟨#[]⟩]⟩
theorem tyOk10 : TiOk Tryd.prog 10 ty10 := TiOk.mk2 Tryd.underlying10 trivial inf10 rfl rfl rfl
theorem inf11 : (Tryd.prog.info? 11).map (fun x => (x.size, x.bytes, x.zero)) = some (1, 16, some (.string ⟨#[]⟩)) := by kernel_rfl
def ty11 : Ti := ⟨.str, 1, 16, [.s ⟨#[]⟩]⟩
theorem tyOk11 : TiOk Tryd.prog 11 ty11 := TiOk.mk2 Tryd.underlying11 trivial inf11 rfl rfl rfl
theorem inf12 : (Tryd.prog.info? 12).map (fun x => (x.size, x.bytes, x.zero)) = some (1, 8, some (.int .u64 0)) := by kernel_rfl
def ty12 : Ti := ⟨.int .u64, 1, 8, [.n .u64 0]⟩
theorem tyOk12 : TiOk Tryd.prog 12 ty12 := TiOk.mk2 Tryd.underlying12 rfl inf12 rfl rfl rfl
theorem inf13 : (Tryd.prog.info? 13).map (fun x => (x.size, x.bytes, x.zero)) = some (2, 24, some (.agg #[.string ⟨#[]⟩, .int .u64 0])) := by kernel_rfl
def ty13 : Ti := ⟨.st [(9, 0, 1), (12, 1, 1)], 2, 24, [.s ⟨#[]⟩, .n .u64 0]⟩
theorem tyOk13 : TiOk Tryd.prog 13 ty13 := TiOk.mk2 Tryd.underlying13 ⟨rfl, fsOk_all ⟨⟨sz9, by decide⟩, ⟨sz12, by decide⟩, trivial⟩⟩ inf13 rfl rfl rfl
theorem inf14 : (Tryd.prog.info? 14).map (fun x => (x.size, x.bytes, x.zero)) = some (2, 24, some (.agg #[.string ⟨#[]⟩, .int .u64 0])) := by kernel_rfl
def ty14 : Ti := ⟨.st [(9, 0, 1), (12, 1, 1)], 2, 24, [.s ⟨#[]⟩, .n .u64 0]⟩
theorem tyOk14 : TiOk Tryd.prog 14 ty14 := TiOk.mk2 Tryd.underlying14 ⟨rfl, fsOk_all ⟨⟨sz9, by decide⟩, ⟨sz12, by decide⟩, trivial⟩⟩ inf14 rfl rfl rfl
theorem inf15 : (Tryd.prog.info? 15).map (fun x => (x.size, x.bytes, x.zero)) = some (1, 8, some (.pointer none)) := by kernel_rfl
def ty15 : Ti := ⟨.ptr 156, 1, 8, [.nilp]⟩
theorem tyOk15 : TiOk Tryd.prog 15 ty15 := TiOk.mk2 Tryd.underlying15 rfl inf15 rfl rfl rfl
theorem inf16 : (Tryd.prog.info? 16).map (fun x => (x.size, x.bytes, x.zero)) = some (1, 8, some (.pointer none)) := by kernel_rfl
def ty16 : Ti := ⟨.ptr 159, 1, 8, [.nilp]⟩
theorem tyOk16 : TiOk Tryd.prog 16 ty16 := TiOk.mk2 Tryd.underlying16 rfl inf16 rfl rfl rfl
theorem inf17 : (Tryd.prog.info? 17).map (fun x => (x.size, x.bytes, x.zero)) = some (1, 8, some (.pointer none)) := by kernel_rfl
def ty17 : Ti := ⟨.ptr 167, 1, 8, [.nilp]⟩
theorem tyOk17 : TiOk Tryd.prog 17 ty17 := TiOk.mk2 Tryd.underlying17 rfl inf17 rfl rfl rfl
theorem inf18 : (Tryd.prog.info? 18).map (fun x => (x.size, x.bytes, x.zero)) = some (1, 8, some (.agg #[.pointer none])) := by kernel_rfl
def ty18 : Ti := ⟨.st [(17, 0, 1)], 1, 8, [.nilp]⟩
theorem tyOk18 : TiOk Tryd.prog 18 ty18 := TiOk.mk2 Tryd.underlying18 ⟨rfl, fsOk_all ⟨⟨sz17, by decide⟩, trivial⟩⟩ inf18 rfl rfl rfl
theorem inf19 : (Tryd.prog.info? 19).map (fun x => (x.size, x.bytes, x.zero)) = some (1, 8, some (.agg #[.pointer none])) := by kernel_rfl
def ty19 : Ti := ⟨.st [(17, 0, 1)], 1, 8, [.nilp]⟩
theorem tyOk19 : TiOk Tryd.prog 19 ty19 := TiOk.mk2 Tryd.underlying19 ⟨rfl, fsOk_all ⟨⟨sz17, by decide⟩, trivial⟩⟩ inf19 rfl rfl rfl
theorem inf20 : (Tryd.prog.info? 20).map (fun x => (x.size, x.bytes, x.zero)) = some (1, 16, some (.nilIface)) := by kernel_rfl
def ty20 : Ti := ⟨.ifc, 1, 16, [.nili]⟩
theorem tyOk20 : TiOk Tryd.prog 20 ty20 := TiOk.mk2 Tryd.underlying20 trivial inf20 rfl rfl rfl
theorem inf21 : (Tryd.prog.info? 21).map (fun x => (x.size, x.bytes, x.zero)) = some (1, 4, some (.int .i32 0)) := by kernel_rfl
def ty21 : Ti := ⟨.int .i32, 1, 4, [.n .i32 0]⟩
theorem tyOk21 : TiOk Tryd.prog 21 ty21 := TiOk.mk2 Tryd.underlying21 rfl inf21 rfl rfl rfl
theorem inf22 : (Tryd.prog.info? 22).map (fun x => (x.size, x.bytes, x.zero)) = some (1, 8, some (.int .i64 0)) := by kernel_rfl
def ty22 : Ti := ⟨.int .i64, 1, 8, [.n .i64 0]⟩
theorem tyOk22 : TiOk Tryd.prog 22 ty22 := TiOk.mk2 Tryd.underlying22 rfl inf22 rfl rfl rfl
theorem inf23 : (Tryd.prog.info? 23).map (fun x => (x.size, x.bytes, x.zero)) = some (2, 16, some (.agg #[.int .i64 0, .int .i64 0])) := by kernel_rfl
def ty23 : Ti := ⟨.st [(3, 0, 1), (3, 1, 1)], 2, 16, [.n .i64 0, .n .i64 0]⟩
theorem tyOk23 : TiOk Tryd.prog 23 ty23 := TiOk.mk2 Tryd.underlying23 ⟨rfl, fsOk_all ⟨⟨sz3, by decide⟩, ⟨sz3, by decide⟩, trivial⟩⟩ inf23 rfl rfl rfl
theorem inf24 : (Tryd.prog.info? 24).map (fun x => (x.size, x.bytes, x.zero)) = some (2, 16, some (.agg #[.int .i64 0, .int .i64 0])) := by kernel_rfl
def ty24 : Ti := ⟨.st [(3, 0, 1), (3, 1, 1)], 2, 16, [.n .i64 0, .n .i64 0]⟩
theorem tyOk24 : TiOk Tryd.prog 24 ty24 := TiOk.mk2 Tryd.underlying24 ⟨rfl, fsOk_all ⟨⟨sz3, by decide⟩, ⟨sz3, by decide⟩, trivial⟩⟩ inf24 rfl rfl rfl
theorem inf25 : (Tryd.prog.info? 25).map (fun x => (x.size, x.bytes, x.zero)) = some (1, 4, some (.int .u32 0)) := by kernel_rfl
def ty25 : Ti := ⟨.int .u32, 1, 4, [.n .u32 0]⟩
theorem tyOk25 : TiOk Tryd.prog 25 ty25 := TiOk.mk2 Tryd.underlying25 rfl inf25 rfl rfl rfl
theorem inf26 : (Tryd.prog.info? 26).map (fun x => (x.size, x.bytes, x.zero)) = some (1, 8, some (.int .i64 0)) := by kernel_rfl
def ty26 : Ti := ⟨.int .i64, 1, 8, [.n .i64 0]⟩
theorem tyOk26 : TiOk Tryd.prog 26 ty26 := TiOk.mk2 Tryd.underlying26 rfl inf26 rfl rfl rfl
theorem inf27 : (Tryd.prog.info? 27).map (fun x => (x.size, x.bytes, x.zero)) = some (9, 72, some (.agg #[.int .i64 0, .int .i64 0, .int .i64 0, .int .i64 0, .int .u32 0, .int .i64 0, .int .i64 0, .int .i64 0, .int .i64 0])) := by kernel_rfl
def ty27 : Ti := ⟨.st [(3, 0, 1), (22, 1, 1), (24, 2, 2), (25, 4, 1), (3, 5, 1), (3, 6, 1), (2, 7, 1), (26, 8, 1)], 9, 72, [.n .i64 0, .n .i64 0, .n .i64 0, .n .i64 0, .n .u32 0, .n .i64 0, .n .i64 0, .n .i64 0, .n .i64 0]⟩
theorem tyOk27 : TiOk Tryd.prog 27 ty27 := TiOk.mk2 Tryd.underlying27 ⟨rfl, fsOk_all ⟨⟨sz3, by decide⟩, ⟨sz22, by decide⟩, ⟨sz24, by decide⟩, ⟨sz25, by decide⟩, ⟨sz3, by decide⟩, ⟨sz3, by decide⟩, ⟨sz2, by decide⟩, ⟨sz26, by decide⟩, trivial⟩⟩ inf27 rfl rfl rfl
theorem inf28 : (Tryd.prog.info? 28).map (fun x => (x.size, x.bytes, x.zero)) = some (9, 72, some (.agg #[.int .i64 0, .int .i64 0, .int .i64 0, .int .i64 0, .int .u32 0, .int .i64 0, .int .i64 0, .int .i64 0, .int .i64 0])) := by kernel_rfl
def ty28 : Ti := ⟨.st [(3, 0, 1), (22, 1, 1), (24, 2, 2), (25, 4, 1), (3, 5, 1), (3, 6, 1), (2, 7, 1), (26, 8, 1)], 9, 72, [.n .i64 0, .n .i64 0, .n .i64 0, .n .i64 0, .n .u32 0, .n .i64 0, .n .i64 0, .n .i64 0, .n .i64 0]⟩
theorem tyOk28 : TiOk Tryd.prog 28 ty28 := TiOk.mk2 Tryd.underlying28 ⟨rfl, fsOk_all ⟨⟨sz3, by decide⟩, ⟨sz22, by decide⟩, ⟨sz24, by decide⟩, ⟨sz25, by decide⟩, ⟨sz3, by decide⟩, ⟨sz3, by decide⟩, ⟨sz2, by decide⟩, ⟨sz26, by decide⟩, trivial⟩⟩ inf28 rfl rfl rfl
theorem inf29 : (Tryd.prog.info? 29).map (fun x => (x.size, x.bytes, x.zero)) = some (1, 24, some (.slice none 0 0)) := by kernel_rfl
def ty29 : Ti := ⟨.slc 5, 1, 24, [.nils]⟩
theorem tyOk29 : TiOk Tryd.prog 29 ty29 := TiOk.mk2 Tryd.underlying29 rfl inf29 rfl rfl rfl
theorem inf30 : (Tryd.prog.info? 30).map (fun x => (x.size, x.bytes, x.zero)) = some (1, 8, some (.nilFunc)) := by kernel_rfl
def ty30 : Ti := ⟨.func, 1, 8, [.nilf]⟩
theorem tyOk30 : TiOk Tryd.prog 30 ty30 := TiOk.mk2 Tryd.underlying30 trivial inf30 rfl rfl rfl
theorem inf31 : (Tryd.prog.info? 31).map (fun x => (x.size, x.bytes, x.zero)) = some (1, 8, some (.int .i64 0)) := by kernel_rfl
def ty31 : Ti := ⟨.int .i64, 1, 8, [.n .i64 0]⟩
theorem tyOk31 : TiOk Tryd.prog 31 ty31 := TiOk.mk2 Tryd.underlying31 rfl inf31 rfl rfl rfl
theorem inf33 : (Tryd.prog.info? 33).map (fun x => (x.size, x.bytes, x.zero)) = some (1, 8, some (.nilFunc)) := by kernel_rfl
def ty33 : Ti := ⟨.func, 1, 8, [.nilf]⟩
theorem tyOk33 : TiOk Tryd.prog 33 ty33 := TiOk.mk2 Tryd.underlying33 trivial inf33 rfl rfl rfl
theorem inf35 : (Tryd.prog.info? 35).map (fun x => (x.size, x.bytes, x.zero)) = some (1, 8, some (.nilFunc)) := by kernel_rfl
def ty35 : Ti := ⟨.func, 1, 8, [.nilf]⟩
theorem tyOk35 : TiOk Tryd.prog 35 ty35 := TiOk.mk2 Tryd.underlying35 trivial inf35 rfl rfl rfl
theorem inf37 : (Tryd.prog.info? 37).map (fun x => (x.size, x.bytes, x.zero)) = some (1, 8, some (.nilFunc)) := by kernel_rfl
def ty37 : Ti := ⟨.func, 1, 8, [.nilf]⟩
theorem tyOk37 : TiOk Tryd.prog 37 ty37 := TiOk.mk2 Tryd.underlying37 trivial inf37 rfl rfl rfl
theorem inf38 : (Tryd.prog.info? 38).map (fun x => (x.size, x.bytes, x.zero)) = some (1, 8, some (.nilFunc)) := by kernel_rfl
def ty38 : Ti := ⟨.func, 1, 8, [.nilf]⟩
theorem tyOk38 : TiOk Tryd.prog 38 ty38 := TiOk.mk2 Tryd.underlying38 trivial inf38 rfl rfl rfl
theorem inf39 : (Tryd.prog.info? 39).map (fun x => (x.size, x.bytes, x.zero)) = some (1, 8, some (.nilFunc)) := by kernel_rfl
def ty39 : Ti := ⟨.func, 1, 8, [.nilf]⟩
theorem tyOk39 : TiOk Tryd.prog 39 ty39 := TiOk.mk2 Tryd.underlying39 trivial inf39 rfl rfl rfl
theorem inf40 : (Tryd.prog.info? 40).map (fun x => (x.size, x.bytes, x.zero)) = some (1, 8, some (.nilFunc)) := by kernel_rfl
def ty40 : Ti := ⟨.func, 1, 8, [.nilf]⟩
theorem tyOk40 : TiOk Tryd.prog 40 ty40 := TiOk.mk2 Tryd.underlying40 trivial inf40 rfl rfl rfl
theorem inf41 : (Tryd.prog.info? 41).map (fun x => (x.size, x.bytes, x.zero)) = some (1, 8, some (.nilFunc)) := by kernel_rfl
def ty41 : Ti := ⟨.func, 1, 8, [.nilf]⟩
theorem tyOk41 : TiOk Tryd.prog 41 ty41 := TiOk.mk2 Tryd.underlying41 trivial inf41 rfl rfl rfl
theorem inf42 : (Tryd.prog.info? 42).map (fun x => (x.size, x.bytes, x.zero)) = some (1, 8, some (.nilFunc)) := by kernel_rfl
def ty42 : Ti := ⟨.func, 1, 8, [.nilf]⟩
theorem tyOk42 : TiOk Tryd.prog 42 ty42 := TiOk.mk2 Tryd.underlying42 trivial inf42 rfl rfl rfl
theorem inf44 : (Tryd.prog.info? 44).map (fun x => (x.size, x.bytes, x.zero)) = some (1, 8, some (.nilFunc)) := by kernel_rfl
def ty44 : Ti := ⟨.func, 1, 8, [.nilf]⟩
theorem tyOk44 : TiOk Tryd.prog 44 ty44 := TiOk.mk2 Tryd.underlying44 trivial inf44 rfl rfl rfl
theorem inf45 : (Tryd.prog.info? 45).map (fun x => (x.size, x.bytes, x.zero)) = some (1, 8, some (.nilFunc)) := by kernel_rfl
def ty45 : Ti := ⟨.func, 1, 8, [.nilf]⟩
theorem tyOk45 : TiOk Tryd.prog 45 ty45 := TiOk.mk2 Tryd.underlying45 trivial inf45 rfl rfl rfl
theorem inf46 : (Tryd.prog.info? 46).map (fun x => (x.size, x.bytes, x.zero)) = some (1, 8, some (.nilFunc)) := by kernel_rfl
def ty46 : Ti := ⟨.func, 1, 8, [.nilf]⟩
theorem tyOk46 : TiOk Tryd.prog 46 ty46 := TiOk.mk2 Tryd.underlying46 trivial inf46 rfl rfl rfl
theorem inf47 : (Tryd.prog.info? 47).map (fun x => (x.size, x.bytes, x.zero)) = some (1, 24, some (.slice none 0 0)) := by kernel_rfl
def ty47 : Ti := ⟨.slc 3, 1, 24, [.nils]⟩
theorem tyOk47 : TiOk Tryd.prog 47 ty47 := TiOk.mk2 Tryd.underlying47 rfl inf47 rfl rfl rfl
theorem inf48 : (Tryd.prog.info? 48).map (fun x => (x.size, x.bytes, x.zero)) = some (1, 24, some (.slice none 0 0)) := by kernel_rfl
def ty48 : Ti := ⟨.slc 28, 1, 24, [.nils]⟩
theorem tyOk48 : TiOk Tryd.prog 48 ty48 := TiOk.mk2 Tryd.underlying48 rfl inf48 rfl rfl rfl
theorem inf49 : (Tryd.prog.info? 49).map (fun x => (x.size, x.bytes, x.zero)) = some (1, 8, some (.nilFunc)) := by kernel_rfl
def ty49 : Ti := ⟨.func, 1, 8, [.nilf]⟩
theorem tyOk49 : TiOk Tryd.prog 49 ty49 := TiOk.mk2 Tryd.underlying49 trivial inf49 rfl rfl rfl
theorem inf50 : (Tryd.prog.info? 50).map (fun x => (x.size, x.bytes, x.zero)) = some (1, 8, some (.nilFunc)) := by kernel_rfl
def ty50 : Ti := ⟨.func, 1, 8, [.nilf]⟩
theorem tyOk50 : TiOk Tryd.prog 50 ty50 := TiOk.mk2 Tryd.underlying50 trivial inf50 rfl rfl rfl
theorem inf51 : (Tryd.prog.info? 51).map (fun x => (x.size, x.bytes, x.zero)) = some (1, 8, some (.nilFunc)) := by kernel_rfl
def ty51 : Ti := ⟨.func, 1, 8, [.nilf]⟩
theorem tyOk51 : TiOk Tryd.prog 51 ty51 := TiOk.mk2 Tryd.underlying51 trivial inf51 rfl rfl rfl
theorem inf52 : (Tryd.prog.info? 52).map (fun x => (x.size, x.bytes, x.zero)) = some (1, 8, some (.nilFunc)) := by kernel_rfl
def ty52 : Ti := ⟨.func, 1, 8, [.nilf]⟩
theorem tyOk52 : TiOk Tryd.prog 52 ty52 := TiOk.mk2 Tryd.underlying52 trivial inf52 rfl rfl rfl
theorem inf53 : (Tryd.prog.info? 53).map (fun x => (x.size, x.bytes, x.zero)) = some (1, 8, some (.nilFunc)) := by kernel_rfl
def ty53 : Ti := ⟨.func, 1, 8, [.nilf]⟩
theorem tyOk53 : TiOk Tryd.prog 53 ty53 := TiOk.mk2 Tryd.underlying53 trivial inf53 rfl rfl rfl
theorem inf54 : (Tryd.prog.info? 54).map (fun x => (x.size, x.bytes, x.zero)) = some (1, 8, some (.nilFunc)) := by kernel_rfl
def ty54 : Ti := ⟨.func, 1, 8, [.nilf]⟩
theorem tyOk54 : TiOk Tryd.prog 54 ty54 := TiOk.mk2 Tryd.underlying54 trivial inf54 rfl rfl rfl
theorem inf55 : (Tryd.prog.info? 55).map (fun x => (x.size, x.bytes, x.zero)) = some (1, 24, some (.slice none 0 0)) := by kernel_rfl
def ty55 : Ti := ⟨.slc 9, 1, 24, [.nils]⟩
theorem tyOk55 : TiOk Tryd.prog 55 ty55 := TiOk.mk2 Tryd.underlying55 rfl inf55 rfl rfl rfl
theorem inf56 : (Tryd.prog.info? 56).map (fun x => (x.size, x.bytes, x.zero)) = some (1, 8, some (.nilFunc)) := by kernel_rfl
def ty56 : Ti := ⟨.func, 1, 8, [.nilf]⟩
theorem tyOk56 : TiOk Tryd.prog 56 ty56 := TiOk.mk2 Tryd.underlying56 trivial inf56 rfl rfl rfl
theorem inf57 : (Tryd.prog.info? 57).map (fun x => (x.size, x.bytes, x.zero)) = some (1, 8, some (.nilFunc)) := by kernel_rfl
def ty57 : Ti := ⟨.func, 1, 8, [.nilf]⟩
theorem tyOk57 : TiOk Tryd.prog 57 ty57 := TiOk.mk2 Tryd.underlying57 trivial inf57 rfl rfl rfl
theorem inf58 : (Tryd.prog.info? 58).map (fun x => (x.size, x.bytes, x.zero)) = some (1, 8, some (.pointer none)) := by kernel_rfl
def ty58 : Ti := ⟨.ptr 60, 1, 8, [.nilp]⟩
theorem tyOk58 : TiOk Tryd.prog 58 ty58 := TiOk.mk2 Tryd.underlying58 rfl inf58 rfl rfl rfl
theorem inf59 : (Tryd.prog.info? 59).map (fun x => (x.size, x.bytes, x.zero)) = some (1, 24, some (.agg #[.slice none 0 0])) := by kernel_rfl
def ty59 : Ti := ⟨.st [(29, 0, 1)], 1, 24, [.nils]⟩
theorem tyOk59 : TiOk Tryd.prog 59 ty59 := TiOk.mk2 Tryd.underlying59 ⟨rfl, fsOk_all ⟨⟨sz29, by decide⟩, trivial⟩⟩ inf59 rfl rfl rfl
theorem inf60 : (Tryd.prog.info? 60).map (fun x => (x.size, x.bytes, x.zero)) = some (1, 24, some (.agg #[.slice none 0 0])) := by kernel_rfl
def ty60 : Ti := ⟨.st [(29, 0, 1)], 1, 24, [.nils]⟩
theorem tyOk60 : TiOk Tryd.prog 60 ty60 := TiOk.mk2 Tryd.underlying60 ⟨rfl, fsOk_all ⟨⟨sz29, by decide⟩, trivial⟩⟩ inf60 rfl rfl rfl
theorem inf61 : (Tryd.prog.info? 61).map (fun x => (x.size, x.bytes, x.zero)) = some (1, 8, some (.nilFunc)) := by kernel_rfl
def ty61 : Ti := ⟨.func, 1, 8, [.nilf]⟩
theorem tyOk61 : TiOk Tryd.prog 61 ty61 := TiOk.mk2 Tryd.underlying61 trivial inf61 rfl rfl rfl
theorem inf62 : (Tryd.prog.info? 62).map (fun x => (x.size, x.bytes, x.zero)) = some (1, 8, some (.nilFunc)) := by kernel_rfl
def ty62 : Ti := ⟨.func, 1, 8, [.nilf]⟩
theorem tyOk62 : TiOk Tryd.prog 62 ty62 := TiOk.mk2 Tryd.underlying62 trivial inf62 rfl rfl rfl
theorem inf63 : (Tryd.prog.info? 63).map (fun x => (x.size, x.bytes, x.zero)) = some (1, 24, some (.slice none 0 0)) := by kernel_rfl
def ty63 : Ti := ⟨.slc 70, 1, 24, [.nils]⟩
theorem tyOk63 : TiOk Tryd.prog 63 ty63 := TiOk.mk2 Tryd.underlying63 rfl inf63 rfl rfl rfl
theorem inf65 : (Tryd.prog.info? 65).map (fun x => (x.size, x.bytes, x.zero)) = some (1, 8, some (.nilFunc)) := by kernel_rfl
def ty65 : Ti := ⟨.func, 1, 8, [.nilf]⟩
theorem tyOk65 : TiOk Tryd.prog 65 ty65 := TiOk.mk2 Tryd.underlying65 trivial inf65 rfl rfl rfl
theorem inf66 : (Tryd.prog.info? 66).map (fun x => (x.size, x.bytes, x.zero)) = some (1, 8, some (.nilFunc)) := by kernel_rfl
def ty66 : Ti := ⟨.func, 1, 8, [.nilf]⟩
theorem tyOk66 : TiOk Tryd.prog 66 ty66 := TiOk.mk2 Tryd.underlying66 trivial inf66 rfl rfl rfl
theorem inf67 : (Tryd.prog.info? 67).map (fun x => (x.size, x.bytes, x.zero)) = some (1, 8, some (.nilFunc)) := by kernel_rfl
def ty67 : Ti := ⟨.func, 1, 8, [.nilf]⟩
theorem tyOk67 : TiOk Tryd.prog 67 ty67 := TiOk.mk2 Tryd.underlying67 trivial inf67 rfl rfl rfl
theorem inf68 : (Tryd.prog.info? 68).map (fun x => (x.size, x.bytes, x.zero)) = some (1, 8, some (.nilFunc)) := by kernel_rfl
def ty68 : Ti := ⟨.func, 1, 8, [.nilf]⟩
theorem tyOk68 : TiOk Tryd.prog 68 ty68 := TiOk.mk2 Tryd.underlying68 trivial inf68 rfl rfl rfl
theorem inf69 : (Tryd.prog.info? 69).map (fun x => (x.size, x.bytes, x.zero)) = some (6, 48, some (.agg #[.int .i64 0, .int .i64 0, .int .i64 0, .nilFunc, .nilFunc, .nilFunc])) := by kernel_rfl
def ty69 : Ti := ⟨.st [(2, 0, 1), (2, 1, 1), (3, 2, 1), (66, 3, 1), (67, 4, 1), (68, 5, 1)], 6, 48, [.n .i64 0, .n .i64 0, .n .i64 0, .nilf, .nilf, .nilf]⟩
theorem tyOk69 : TiOk Tryd.prog 69 ty69 := TiOk.mk2 Tryd.underlying69 ⟨rfl, fsOk_all ⟨⟨sz2, by decide⟩, ⟨sz2, by decide⟩, ⟨sz3, by decide⟩, ⟨sz66, by decide⟩, ⟨sz67, by decide⟩, ⟨sz68, by decide⟩, trivial⟩⟩ inf69 rfl rfl rfl
theorem inf70 : (Tryd.prog.info? 70).map (fun x => (x.size, x.bytes, x.zero)) = some (6, 48, some (.agg #[.int .i64 0, .int .i64 0, .int .i64 0, .nilFunc, .nilFunc, .nilFunc])) := by kernel_rfl
def ty70 : Ti := ⟨.st [(2, 0, 1), (2, 1, 1), (3, 2, 1), (66, 3, 1), (67, 4, 1), (68, 5, 1)], 6, 48, [.n .i64 0, .n .i64 0, .n .i64 0, .nilf, .nilf, .nilf]⟩
theorem tyOk70 : TiOk Tryd.prog 70 ty70 := TiOk.mk2 Tryd.underlying70 ⟨rfl, fsOk_all ⟨⟨sz2, by decide⟩, ⟨sz2, by decide⟩, ⟨sz3, by decide⟩, ⟨sz66, by decide⟩, ⟨sz67, by decide⟩, ⟨sz68, by decide⟩, trivial⟩⟩ inf70 rfl rfl rfl
theorem inf71 : (Tryd.prog.info? 71).map (fun x => (x.size, x.bytes, x.zero)) = some (1, 8, some (.nilFunc)) := by kernel_rfl
def ty71 : Ti := ⟨.func, 1, 8, [.nilf]⟩
theorem tyOk71 : TiOk Tryd.prog 71 ty71 := TiOk.mk2 Tryd.underlying71 trivial inf71 rfl rfl rfl
theorem inf72 : (Tryd.prog.info? 72).map (fun x => (x.size, x.bytes, x.zero)) = some (1, 8, some (.pointer none)) := by kernel_rfl
def ty72 : Ti := ⟨.ptr 31, 1, 8, [.nilp]⟩
theorem tyOk72 : TiOk Tryd.prog 72 ty72 := TiOk.mk2 Tryd.underlying72 rfl inf72 rfl rfl rfl
theorem inf73 : (Tryd.prog.info? 73).map (fun x => (x.size, x.bytes, x.zero)) = some (1, 8, some (.pointer none)) := by kernel_rfl
def ty73 : Ti := ⟨.ptr 77, 1, 8, [.nilp]⟩
theorem tyOk73 : TiOk Tryd.prog 73 ty73 := TiOk.mk2 Tryd.underlying73 rfl inf73 rfl rfl rfl
theorem inf74 : (Tryd.prog.info? 74).map (fun x => (x.size, x.bytes, x.zero)) = some (1, 24, some (.agg #[.slice none 0 0])) := by kernel_rfl
def ty74 : Ti := ⟨.st [(29, 0, 1)], 1, 24, [.nils]⟩
theorem tyOk74 : TiOk Tryd.prog 74 ty74 := TiOk.mk2 Tryd.underlying74 ⟨rfl, fsOk_all ⟨⟨sz29, by decide⟩, trivial⟩⟩ inf74 rfl rfl rfl
theorem inf75 : (Tryd.prog.info? 75).map (fun x => (x.size, x.bytes, x.zero)) = some (1, 24, some (.agg #[.slice none 0 0])) := by kernel_rfl
def ty75 : Ti := ⟨.st [(29, 0, 1)], 1, 24, [.nils]⟩
theorem tyOk75 : TiOk Tryd.prog 75 ty75 := TiOk.mk2 Tryd.underlying75 ⟨rfl, fsOk_all ⟨⟨sz29, by decide⟩, trivial⟩⟩ inf75 rfl rfl rfl
theorem inf76 : (Tryd.prog.info? 76).map (fun x => (x.size, x.bytes, x.zero)) = some (2, 32, some (.agg #[.slice none 0 0, .int .i64 0])) := by kernel_rfl
def ty76 : Ti := ⟨.st [(75, 0, 1), (3, 1, 1)], 2, 32, [.nils, .n .i64 0]⟩
theorem tyOk76 : TiOk Tryd.prog 76 ty76 := TiOk.mk2 Tryd.underlying76 ⟨rfl, fsOk_all ⟨⟨sz75, by decide⟩, ⟨sz3, by decide⟩, trivial⟩⟩ inf76 rfl rfl rfl
theorem inf77 : (Tryd.prog.info? 77).map (fun x => (x.size, x.bytes, x.zero)) = some (2, 32, some (.agg #[.slice none 0 0, .int .i64 0])) := by kernel_rfl
def ty77 : Ti := ⟨.st [(75, 0, 1), (3, 1, 1)], 2, 32, [.nils, .n .i64 0]⟩
theorem tyOk77 : TiOk Tryd.prog 77 ty77 := TiOk.mk2 Tryd.underlying77 ⟨rfl, fsOk_all ⟨⟨sz75, by decide⟩, ⟨sz3, by decide⟩, trivial⟩⟩ inf77 rfl rfl rfl
theorem inf78 : (Tryd.prog.info? 78).map (fun x => (x.size, x.bytes, x.zero)) = some (1, 8, some (.nilFunc)) := by kernel_rfl
def ty78 : Ti := ⟨.func, 1, 8, [.nilf]⟩
theorem tyOk78 : TiOk Tryd.prog 78 ty78 := TiOk.mk2 Tryd.underlying78 trivial inf78 rfl rfl rfl
theorem inf79 : (Tryd.prog.info? 79).map (fun x => (x.size, x.bytes, x.zero)) = some (1, 8, some (.nilFunc)) := by kernel_rfl
def ty79 : Ti := ⟨.func, 1, 8, [.nilf]⟩
theorem tyOk79 : TiOk Tryd.prog 79 ty79 := TiOk.mk2 Tryd.underlying79 trivial inf79 rfl rfl rfl
theorem inf80 : (Tryd.prog.info? 80).map (fun x => (x.size, x.bytes, x.zero)) = some (1, 8, some (.pointer none)) := by kernel_rfl
def ty80 : Ti := ⟨.ptr 28, 1, 8, [.nilp]⟩
theorem tyOk80 : TiOk Tryd.prog 80 ty80 := TiOk.mk2 Tryd.underlying80 rfl inf80 rfl rfl rfl
theorem inf81 : (Tryd.prog.info? 81).map (fun x => (x.size, x.bytes, x.zero)) = some (1, 8, some (.nilFunc)) := by kernel_rfl
def ty81 : Ti := ⟨.func, 1, 8, [.nilf]⟩
theorem tyOk81 : TiOk Tryd.prog 81 ty81 := TiOk.mk2 Tryd.underlying81 trivial inf81 rfl rfl rfl
theorem inf82 : (Tryd.prog.info? 82).map (fun x => (x.size, x.bytes, x.zero)) = some (1, 8, some (.int .u64 0)) := by kernel_rfl
def ty82 : Ti := ⟨.int .u64, 1, 8, [.n .u64 0]⟩
theorem tyOk82 : TiOk Tryd.prog 82 ty82 := TiOk.mk2 Tryd.underlying82 rfl inf82 rfl rfl rfl
theorem inf84 : (Tryd.prog.info? 84).map (fun x => (x.size, x.bytes, x.zero)) = some (1, 8, some (.nilFunc)) := by kernel_rfl
def ty84 : Ti := ⟨.func, 1, 8, [.nilf]⟩
theorem tyOk84 : TiOk Tryd.prog 84 ty84 := TiOk.mk2 Tryd.underlying84 trivial inf84 rfl rfl rfl
theorem inf85 : (Tryd.prog.info? 85).map (fun x => (x.size, x.bytes, x.zero)) = some (1, 8, some (.nilFunc)) := by kernel_rfl
def ty85 : Ti := ⟨.func, 1, 8, [.nilf]⟩
theorem tyOk85 : TiOk Tryd.prog 85 ty85 := TiOk.mk2 Tryd.underlying85 trivial inf85 rfl rfl rfl
theorem inf86 : (Tryd.prog.info? 86).map (fun x => (x.size, x.bytes, x.zero)) = some (1, 8, some (.nilFunc)) := by kernel_rfl
def ty86 : Ti := ⟨.func, 1, 8, [.nilf]⟩
theorem tyOk86 : TiOk Tryd.prog 86 ty86 := TiOk.mk2 Tryd.underlying86 trivial inf86 rfl rfl rfl
theorem inf87 : (Tryd.prog.info? 87).map (fun x => (x.size, x.bytes, x.zero)) = some (1, 8, some (.nilFunc)) := by kernel_rfl
def ty87 : Ti := ⟨.func, 1, 8, [.nilf]⟩
theorem tyOk87 : TiOk Tryd.prog 87 ty87 := TiOk.mk2 Tryd.underlying87 trivial inf87 rfl rfl rfl
theorem inf88 : (Tryd.prog.info? 88).map (fun x => (x.size, x.bytes, x.zero)) = some (1, 8, some (.nilFunc)) := by kernel_rfl
def ty88 : Ti := ⟨.func, 1, 8, [.nilf]⟩
theorem tyOk88 : TiOk Tryd.prog 88 ty88 := TiOk.mk2 Tryd.underlying88 trivial inf88 rfl rfl rfl
theorem inf89 : (Tryd.prog.info? 89).map (fun x => (x.size, x.bytes, x.zero)) = some (1, 8, some (.map none)) := by kernel_rfl
def ty89 : Ti := ⟨.map 92 3, 1, 8, [.nilm]⟩
theorem tyOk89 : TiOk Tryd.prog 89 ty89 := TiOk.mk2 Tryd.underlying89 ⟨rfl, rfl⟩ inf89 rfl rfl rfl
theorem inf90 : (Tryd.prog.info? 90).map (fun x => (x.size, x.bytes, x.zero)) = some (1, 8, some (.nilFunc)) := by kernel_rfl
def ty90 : Ti := ⟨.func, 1, 8, [.nilf]⟩
theorem tyOk90 : TiOk Tryd.prog 90 ty90 := TiOk.mk2 Tryd.underlying90 trivial inf90 rfl rfl rfl
theorem inf91 : (Tryd.prog.info? 91).map (fun x => (x.size, x.bytes, x.zero)) = some (2, 16, some (.agg #[.int .i64 0, .int .i64 0])) := by kernel_rfl
def ty91 : Ti := ⟨.st [(22, 0, 1), (22, 1, 1)], 2, 16, [.n .i64 0, .n .i64 0]⟩
theorem tyOk91 : TiOk Tryd.prog 91 ty91 := TiOk.mk2 Tryd.underlying91 ⟨rfl, fsOk_all ⟨⟨sz22, by decide⟩, ⟨sz22, by decide⟩, trivial⟩⟩ inf91 rfl rfl rfl
theorem inf92 : (Tryd.prog.info? 92).map (fun x => (x.size, x.bytes, x.zero)) = some (2, 16, some (.agg #[.int .i64 0, .int .i64 0])) := by kernel_rfl
def ty92 : Ti := ⟨.st [(22, 0, 1), (22, 1, 1)], 2, 16, [.n .i64 0, .n .i64 0]⟩
theorem tyOk92 : TiOk Tryd.prog 92 ty92 := TiOk.mk2 Tryd.underlying92 ⟨rfl, fsOk_all ⟨⟨sz22, by decide⟩, ⟨sz22, by decide⟩, trivial⟩⟩ inf92 rfl rfl rfl
theorem inf93 : (Tryd.prog.info? 93).map (fun x => (x.size, x.bytes, x.zero)) = some (1, 8, some (.nilFunc)) := by kernel_rfl
def ty93 : Ti := ⟨.func, 1, 8, [.nilf]⟩
theorem tyOk93 : TiOk Tryd.prog 93 ty93 := TiOk.mk2 Tryd.underlying93 trivial inf93 rfl rfl rfl
theorem inf94 : (Tryd.prog.info? 94).map (fun x => (x.size, x.bytes, x.zero)) = some (1, 8, some (.nilFunc)) := by kernel_rfl
def ty94 : Ti := ⟨.func, 1, 8, [.nilf]⟩
theorem tyOk94 : TiOk Tryd.prog 94 ty94 := TiOk.mk2 Tryd.underlying94 trivial inf94 rfl rfl rfl
theorem inf95 : (Tryd.prog.info? 95).map (fun x => (x.size, x.bytes, x.zero)) = some (15, 240, some (.agg #[.string ⟨#[]⟩, .string ⟨#[]⟩, .string ⟨#[]⟩, .string ⟨#[]⟩, .string ⟨#[]⟩, .string ⟨#[]⟩, .string ⟨#[]⟩, .string ⟨#[]⟩, .string ⟨#[]⟩, .string ⟨#[]⟩, .string ⟨#[]⟩, .string ⟨#[]⟩, .string ⟨#[]⟩, .string ⟨#[]⟩, .string ⟨#[]⟩])) := by kernel_rfl
def ty95 : Ti := ⟨.arr 15 9, 15, 240, [.s ⟨#[]⟩, .s ⟨#[]⟩, .s ⟨#[]⟩, .s ⟨#[]⟩, .s ⟨#[]⟩, .s ⟨#[]⟩, .s ⟨#[]⟩, .s ⟨#[]⟩, .s ⟨#[]⟩, .s ⟨#[]⟩, .s ⟨#[]⟩, .s ⟨#[]⟩, .s ⟨#[]⟩, .s ⟨#[]⟩, .s ⟨#[]⟩]⟩
theorem tyOk95 : TiOk Tryd.prog 95 ty95 := TiOk.mk2 Tryd.underlying95 ⟨rfl, rfl⟩ inf95 rfl rfl rfl
theorem inf96 : (Tryd.prog.info? 96).map (fun x => (x.size, x.bytes, x.zero)) = some (1, 8, some (.nilFunc)) := by kernel_rfl
def ty96 : Ti := ⟨.func, 1, 8, [.nilf]⟩
theorem tyOk96 : TiOk Tryd.prog 96 ty96 := TiOk.mk2 Tryd.underlying96 trivial inf96 rfl rfl rfl
theorem inf97 : (Tryd.prog.info? 97).map (fun x => (x.size, x.bytes, x.zero)) = some (1, 8, some (.nilFunc)) := by kernel_rfl
def ty97 : Ti := ⟨.func, 1, 8, [.nilf]⟩
theorem tyOk97 : TiOk Tryd.prog 97 ty97 := TiOk.mk2 Tryd.underlying97 trivial inf97 rfl rfl rfl
theorem inf98 : (Tryd.prog.info? 98).map (fun x => (x.size, x.bytes, x.zero)) = some (1, 8, some (.nilFunc)) := by kernel_rfl
def ty98 : Ti := ⟨.func, 1, 8, [.nilf]⟩
theorem tyOk98 : TiOk Tryd.prog 98 ty98 := TiOk.mk2 Tryd.underlying98 trivial inf98 rfl rfl rfl
theorem inf99 : (Tryd.prog.info? 99).map (fun x => (x.size, x.bytes, x.zero)) = some (1, 8, some (.nilFunc)) := by kernel_rfl
def ty99 : Ti := ⟨.func, 1, 8, [.nilf]⟩
theorem tyOk99 : TiOk Tryd.prog 99 ty99 := TiOk.mk2 Tryd.underlying99 trivial inf99 rfl rfl rfl
theorem inf100 : (Tryd.prog.info? 100).map (fun x => (x.size, x.bytes, x.zero)) = some (1, 8, some (.nilFunc)) := by kernel_rfl
def ty100 : Ti := ⟨.func, 1, 8, [.nilf]⟩
theorem tyOk100 : TiOk Tryd.prog 100 ty100 := TiOk.mk2 Tryd.underlying100 trivial inf100 rfl rfl rfl
theorem inf101 : (Tryd.prog.info? 101).map (fun x => (x.size, x.bytes, x.zero)) = some (1, 8, some (.nilFunc)) := by kernel_rfl
def ty101 : Ti := ⟨.func, 1, 8, [.nilf]⟩
theorem tyOk101 : TiOk Tryd.prog 101 ty101 := TiOk.mk2 Tryd.underlying101 trivial inf101 rfl rfl rfl
theorem inf102 : (Tryd.prog.info? 102).map (fun x => (x.size, x.bytes, x.zero)) = some (1, 8, some (.nilFunc)) := by kernel_rfl
def ty102 : Ti := ⟨.func, 1, 8, [.nilf]⟩
theorem tyOk102 : TiOk Tryd.prog 102 ty102 := TiOk.mk2 Tryd.underlying102 trivial inf102 rfl rfl rfl
theorem inf103 : (Tryd.prog.info? 103).map (fun x => (x.size, x.bytes, x.zero)) = some (1, 8, some (.nilFunc)) := by kernel_rfl
def ty103 : Ti := ⟨.func, 1, 8, [.nilf]⟩
theorem tyOk103 : TiOk Tryd.prog 103 ty103 := TiOk.mk2 Tryd.underlying103 trivial inf103 rfl rfl rfl
theorem inf104 : (Tryd.prog.info? 104).map (fun x => (x.size, x.bytes, x.zero)) = some (7, 112, some (.agg #[.string ⟨#[]⟩, .string ⟨#[]⟩, .string ⟨#[]⟩, .string ⟨#[]⟩, .string ⟨#[]⟩, .string ⟨#[]⟩, .string ⟨#[]⟩])) := by kernel_rfl
def ty104 : Ti := ⟨.arr 7 9, 7, 112, [.s ⟨#[]⟩, .s ⟨#[]⟩, .s ⟨#[]⟩, .s ⟨#[]⟩, .s ⟨#[]⟩, .s ⟨#[]⟩, .s ⟨#[]⟩]⟩
theorem tyOk104 : TiOk Tryd.prog 104 ty104 := TiOk.mk2 Tryd.underlying104 ⟨rfl, rfl⟩ inf104 rfl rfl rfl
theorem inf105 : (Tryd.prog.info? 105).map (fun x => (x.size, x.bytes, x.zero)) = some (1, 8, some (.nilFunc)) := by kernel_rfl
def ty105 : Ti := ⟨.func, 1, 8, [.nilf]⟩
theorem tyOk105 : TiOk Tryd.prog 105 ty105 := TiOk.mk2 Tryd.underlying105 trivial inf105 rfl rfl rfl
theorem inf106 : (Tryd.prog.info? 106).map (fun x => (x.size, x.bytes, x.zero)) = some (1, 24, some (.slice none 0 0)) := by kernel_rfl
def ty106 : Ti := ⟨.slc 2, 1, 24, [.nils]⟩
theorem tyOk106 : TiOk Tryd.prog 106 ty106 := TiOk.mk2 Tryd.underlying106 rfl inf106 rfl rfl rfl
theorem inf107 : (Tryd.prog.info? 107).map (fun x => (x.size, x.bytes, x.zero)) = some (1, 8, some (.nilFunc)) := by kernel_rfl
def ty107 : Ti := ⟨.func, 1, 8, [.nilf]⟩
theorem tyOk107 : TiOk Tryd.prog 107 ty107 := TiOk.mk2 Tryd.underlying107 trivial inf107 rfl rfl rfl
theorem inf108 : (Tryd.prog.info? 108).map (fun x => (x.size, x.bytes, x.zero)) = some (1, 8, some (.nilFunc)) := by kernel_rfl
def ty108 : Ti := ⟨.func, 1, 8, [.nilf]⟩
theorem tyOk108 : TiOk Tryd.prog 108 ty108 := TiOk.mk2 Tryd.underlying108 trivial inf108 rfl rfl rfl
theorem inf109 : (Tryd.prog.info? 109).map (fun x => (x.size, x.bytes, x.zero)) = some (1, 8, some (.nilFunc)) := by kernel_rfl
def ty109 : Ti := ⟨.func, 1, 8, [.nilf]⟩
theorem tyOk109 : TiOk Tryd.prog 109 ty109 := TiOk.mk2 Tryd.underlying109 trivial inf109 rfl rfl rfl
theorem inf110 : (Tryd.prog.info? 110).map (fun x => (x.size, x.bytes, x.zero)) = some (1, 8, some (.map none)) := by kernel_rfl
def ty110 : Ti := ⟨.map 22 63, 1, 8, [.nilm]⟩
theorem tyOk110 : TiOk Tryd.prog 110 ty110 := TiOk.mk2 Tryd.underlying110 ⟨rfl, rfl⟩ inf110 rfl rfl rfl
theorem inf112 : (Tryd.prog.info? 112).map (fun x => (x.size, x.bytes, x.zero)) = some (1, 8, some (.nilFunc)) := by kernel_rfl
def ty112 : Ti := ⟨.func, 1, 8, [.nilf]⟩
theorem tyOk112 : TiOk Tryd.prog 112 ty112 := TiOk.mk2 Tryd.underlying112 trivial inf112 rfl rfl rfl
theorem inf114 : (Tryd.prog.info? 114).map (fun x => (x.size, x.bytes, x.zero)) = some (1, 8, some (.nilFunc)) := by kernel_rfl
def ty114 : Ti := ⟨.func, 1, 8, [.nilf]⟩
theorem tyOk114 : TiOk Tryd.prog 114 ty114 := TiOk.mk2 Tryd.underlying114 trivial inf114 rfl rfl rfl
theorem inf115 : (Tryd.prog.info? 115).map (fun x => (x.size, x.bytes, x.zero)) = some (1, 8, some (.nilFunc)) := by kernel_rfl
def ty115 : Ti := ⟨.func, 1, 8, [.nilf]⟩
theorem tyOk115 : TiOk Tryd.prog 115 ty115 := TiOk.mk2 Tryd.underlying115 trivial inf115 rfl rfl rfl
theorem inf116 : (Tryd.prog.info? 116).map (fun x => (x.size, x.bytes, x.zero)) = some (1, 8, some (.nilFunc)) := by kernel_rfl
def ty116 : Ti := ⟨.func, 1, 8, [.nilf]⟩
theorem tyOk116 : TiOk Tryd.prog 116 ty116 := TiOk.mk2 Tryd.underlying116 trivial inf116 rfl rfl rfl
theorem inf118 : (Tryd.prog.info? 118).map (fun x => (x.size, x.bytes, x.zero)) = some (1, 8, some (.nilFunc)) := by kernel_rfl
def ty118 : Ti := ⟨.func, 1, 8, [.nilf]⟩
theorem tyOk118 : TiOk Tryd.prog 118 ty118 := TiOk.mk2 Tryd.underlying118 trivial inf118 rfl rfl rfl
theorem inf119 : (Tryd.prog.info? 119).map (fun x => (x.size, x.bytes, x.zero)) = some (1, 8, some (.pointer none)) := by kernel_rfl
def ty119 : Ti := ⟨.ptr 121, 1, 8, [.nilp]⟩
theorem tyOk119 : TiOk Tryd.prog 119 ty119 := TiOk.mk2 Tryd.underlying119 rfl inf119 rfl rfl rfl
theorem inf120 : (Tryd.prog.info? 120).map (fun x => (x.size, x.bytes, x.zero)) = some (2, 32, some (.agg #[.pointer none, .slice none 0 0])) := by kernel_rfl
def ty120 : Ti := ⟨.st [(119, 0, 1), (29, 1, 1)], 2, 32, [.nilp, .nils]⟩
theorem tyOk120 : TiOk Tryd.prog 120 ty120 := TiOk.mk2 Tryd.underlying120 ⟨rfl, fsOk_all ⟨⟨sz119, by decide⟩, ⟨sz29, by decide⟩, trivial⟩⟩ inf120 rfl rfl rfl
theorem inf121 : (Tryd.prog.info? 121).map (fun x => (x.size, x.bytes, x.zero)) = some (2, 32, some (.agg #[.pointer none, .slice none 0 0])) := by kernel_rfl
def ty121 : Ti := ⟨.st [(119, 0, 1), (29, 1, 1)], 2, 32, [.nilp, .nils]⟩
theorem tyOk121 : TiOk Tryd.prog 121 ty121 := TiOk.mk2 Tryd.underlying121 ⟨rfl, fsOk_all ⟨⟨sz119, by decide⟩, ⟨sz29, by decide⟩, trivial⟩⟩ inf121 rfl rfl rfl
theorem inf122 : (Tryd.prog.info? 122).map (fun x => (x.size, x.bytes, x.zero)) = some (1, 8, some (.nilFunc)) := by kernel_rfl
def ty122 : Ti := ⟨.func, 1, 8, [.nilf]⟩
theorem tyOk122 : TiOk Tryd.prog 122 ty122 := TiOk.mk2 Tryd.underlying122 trivial inf122 rfl rfl rfl
theorem inf123 : (Tryd.prog.info? 123).map (fun x => (x.size, x.bytes, x.zero)) = some (1, 16, some (.nilIface)) := by kernel_rfl
def ty123 : Ti := ⟨.ifc, 1, 16, [.nili]⟩
theorem tyOk123 : TiOk Tryd.prog 123 ty123 := TiOk.mk2 Tryd.underlying123 trivial inf123 rfl rfl rfl
theorem inf124 : (Tryd.prog.info? 124).map (fun x => (x.size, x.bytes, x.zero)) = some (1, 16, some (.nilIface)) := by kernel_rfl
def ty124 : Ti := ⟨.ifc, 1, 16, [.nili]⟩
theorem tyOk124 : TiOk Tryd.prog 124 ty124 := TiOk.mk2 Tryd.underlying124 trivial inf124 rfl rfl rfl
theorem inf126 : (Tryd.prog.info? 126).map (fun x => (x.size, x.bytes, x.zero)) = some (1, 8, some (.nilFunc)) := by kernel_rfl
def ty126 : Ti := ⟨.func, 1, 8, [.nilf]⟩
theorem tyOk126 : TiOk Tryd.prog 126 ty126 := TiOk.mk2 Tryd.underlying126 trivial inf126 rfl rfl rfl
theorem inf127 : (Tryd.prog.info? 127).map (fun x => (x.size, x.bytes, x.zero)) = some (1, 8, some (.nilFunc)) := by kernel_rfl
def ty127 : Ti := ⟨.func, 1, 8, [.nilf]⟩
theorem tyOk127 : TiOk Tryd.prog 127 ty127 := TiOk.mk2 Tryd.underlying127 trivial inf127 rfl rfl rfl
theorem inf128 : (Tryd.prog.info? 128).map (fun x => (x.size, x.bytes, x.zero)) = some (1, 8, some (.nilFunc)) := by kernel_rfl
def ty128 : Ti := ⟨.func, 1, 8, [.nilf]⟩
theorem tyOk128 : TiOk Tryd.prog 128 ty128 := TiOk.mk2 Tryd.underlying128 trivial inf128 rfl rfl rfl
theorem inf129 : (Tryd.prog.info? 129).map (fun x => (x.size, x.bytes, x.zero)) = some (2, 16, some (.agg #[.nilFunc, .int .i64 0])) := by kernel_rfl
def ty129 : Ti := ⟨.st [(128, 0, 1), (3, 1, 1)], 2, 16, [.nilf, .n .i64 0]⟩
theorem tyOk129 : TiOk Tryd.prog 129 ty129 := TiOk.mk2 Tryd.underlying129 ⟨rfl, fsOk_all ⟨⟨sz128, by decide⟩, ⟨sz3, by decide⟩, trivial⟩⟩ inf129 rfl rfl rfl
theorem inf130 : (Tryd.prog.info? 130).map (fun x => (x.size, x.bytes, x.zero)) = some (2, 16, some (.agg #[.nilFunc, .int .i64 0])) := by kernel_rfl
def ty130 : Ti := ⟨.st [(128, 0, 1), (3, 1, 1)], 2, 16, [.nilf, .n .i64 0]⟩
theorem tyOk130 : TiOk Tryd.prog 130 ty130 := TiOk.mk2 Tryd.underlying130 ⟨rfl, fsOk_all ⟨⟨sz128, by decide⟩, ⟨sz3, by decide⟩, trivial⟩⟩ inf130 rfl rfl rfl
theorem inf131 : (Tryd.prog.info? 131).map (fun x => (x.size, x.bytes, x.zero)) = some (4, 32, some (.agg #[.nilFunc, .int .i64 0, .nilFunc, .int .i64 0])) := by kernel_rfl
def ty131 : Ti := ⟨.arr 2 130, 4, 32, [.nilf, .n .i64 0, .nilf, .n .i64 0]⟩
theorem tyOk131 : TiOk Tryd.prog 131 ty131 := TiOk.mk2 Tryd.underlying131 ⟨rfl, rfl⟩ inf131 rfl rfl rfl
theorem inf132 : (Tryd.prog.info? 132).map (fun x => (x.size, x.bytes, x.zero)) = some (1, 8, some (.nilFunc)) := by kernel_rfl
def ty132 : Ti := ⟨.func, 1, 8, [.nilf]⟩
theorem tyOk132 : TiOk Tryd.prog 132 ty132 := TiOk.mk2 Tryd.underlying132 trivial inf132 rfl rfl rfl
theorem inf133 : (Tryd.prog.info? 133).map (fun x => (x.size, x.bytes, x.zero)) = some (1, 8, some (.nilFunc)) := by kernel_rfl
def ty133 : Ti := ⟨.func, 1, 8, [.nilf]⟩
theorem tyOk133 : TiOk Tryd.prog 133 ty133 := TiOk.mk2 Tryd.underlying133 trivial inf133 rfl rfl rfl
theorem inf134 : (Tryd.prog.info? 134).map (fun x => (x.size, x.bytes, x.zero)) = some (1, 8, some (.pointer none)) := by kernel_rfl
def ty134 : Ti := ⟨.ptr 5, 1, 8, [.nilp]⟩
theorem tyOk134 : TiOk Tryd.prog 134 ty134 := TiOk.mk2 Tryd.underlying134 rfl inf134 rfl rfl rfl
theorem inf135 : (Tryd.prog.info? 135).map (fun x => (x.size, x.bytes, x.zero)) = some (24, 24, some (.agg #[.int .u8 0, .int .u8 0, .int .u8 0, .int .u8 0, .int .u8 0, .int .u8 0, .int .u8 0, .int .u8 0, .int .u8 0, .int .u8 0, .int .u8 0, .int .u8 0, .int .u8 0, .int .u8 0, .int .u8 0, .int .u8 0, .int .u8 0, .int .u8 0, .int .u8 0, .int .u8 0, .int .u8 0, .int .u8 0, .int .u8 0, .int .u8 0])) := by kernel_rfl
def ty135 : Ti := ⟨.arr 24 5, 24, 24, [.n .u8 0, .n .u8 0, .n .u8 0, .n .u8 0, .n .u8 0, .n .u8 0, .n .u8 0, .n .u8 0, .n .u8 0, .n .u8 0, .n .u8 0, .n .u8 0, .n .u8 0, .n .u8 0, .n .u8 0, .n .u8 0, .n .u8 0, .n .u8 0, .n .u8 0, .n .u8 0, .n .u8 0, .n .u8 0, .n .u8 0, .n .u8 0]⟩
theorem tyOk135 : TiOk Tryd.prog 135 ty135 := TiOk.mk2 Tryd.underlying135 ⟨rfl, rfl⟩ inf135 rfl rfl rfl
theorem inf136 : (Tryd.prog.info? 136).map (fun x => (x.size, x.bytes, x.zero)) = some (1, 8, some (.nilFunc)) := by kernel_rfl
def ty136 : Ti := ⟨.func, 1, 8, [.nilf]⟩
theorem tyOk136 : TiOk Tryd.prog 136 ty136 := TiOk.mk2 Tryd.underlying136 trivial inf136 rfl rfl rfl
theorem inf137 : (Tryd.prog.info? 137).map (fun x => (x.size, x.bytes, x.zero)) = some (1, 8, some (.nilFunc)) := by kernel_rfl
def ty137 : Ti := ⟨.func, 1, 8, [.nilf]⟩
theorem tyOk137 : TiOk Tryd.prog 137 ty137 := TiOk.mk2 Tryd.underlying137 trivial inf137 rfl rfl rfl
theorem inf139 : (Tryd.prog.info? 139).map (fun x => (x.size, x.bytes, x.zero)) = some (1, 8, some (.nilFunc)) := by kernel_rfl
def ty139 : Ti := ⟨.func, 1, 8, [.nilf]⟩
theorem tyOk139 : TiOk Tryd.prog 139 ty139 := TiOk.mk2 Tryd.underlying139 trivial inf139 rfl rfl rfl
theorem inf140 : (Tryd.prog.info? 140).map (fun x => (x.size, x.bytes, x.zero)) = some (4, 32, some (.agg #[.int .i64 0, .int .i64 0, .int .i64 0, .int .i64 0])) := by kernel_rfl
def ty140 : Ti := ⟨.arr 4 3, 4, 32, [.n .i64 0, .n .i64 0, .n .i64 0, .n .i64 0]⟩
theorem tyOk140 : TiOk Tryd.prog 140 ty140 := TiOk.mk2 Tryd.underlying140 ⟨rfl, rfl⟩ inf140 rfl rfl rfl
theorem inf141 : (Tryd.prog.info? 141).map (fun x => (x.size, x.bytes, x.zero)) = some (1, 8, some (.nilFunc)) := by kernel_rfl
def ty141 : Ti := ⟨.func, 1, 8, [.nilf]⟩
theorem tyOk141 : TiOk Tryd.prog 141 ty141 := TiOk.mk2 Tryd.underlying141 trivial inf141 rfl rfl rfl
theorem inf142 : (Tryd.prog.info? 142).map (fun x => (x.size, x.bytes, x.zero)) = some (1, 8, some (.nilFunc)) := by kernel_rfl
def ty142 : Ti := ⟨.func, 1, 8, [.nilf]⟩
theorem tyOk142 : TiOk Tryd.prog 142 ty142 := TiOk.mk2 Tryd.underlying142 trivial inf142 rfl rfl rfl
theorem inf144 : (Tryd.prog.info? 144).map (fun x => (x.size, x.bytes, x.zero)) = some (1, 8, some (.nilFunc)) := by kernel_rfl
def ty144 : Ti := ⟨.func, 1, 8, [.nilf]⟩
theorem tyOk144 : TiOk Tryd.prog 144 ty144 := TiOk.mk2 Tryd.underlying144 trivial inf144 rfl rfl rfl
theorem inf145 : (Tryd.prog.info? 145).map (fun x => (x.size, x.bytes, x.zero)) = some (1, 8, some (.nilFunc)) := by kernel_rfl
def ty145 : Ti := ⟨.func, 1, 8, [.nilf]⟩
theorem tyOk145 : TiOk Tryd.prog 145 ty145 := TiOk.mk2 Tryd.underlying145 trivial inf145 rfl rfl rfl
theorem inf146 : (Tryd.prog.info? 146).map (fun x => (x.size, x.bytes, x.zero)) = some (20, 160, some (.agg #[.int .u64 0, .int .u64 0, .int .u64 0, .int .u64 0, .int .u64 0, .int .u64 0, .int .u64 0, .int .u64 0, .int .u64 0, .int .u64 0, .int .u64 0, .int .u64 0, .int .u64 0, .int .u64 0, .int .u64 0, .int .u64 0, .int .u64 0, .int .u64 0, .int .u64 0, .int .u64 0])) := by kernel_rfl
def ty146 : Ti := ⟨.arr 20 82, 20, 160, [.n .u64 0, .n .u64 0, .n .u64 0, .n .u64 0, .n .u64 0, .n .u64 0, .n .u64 0, .n .u64 0, .n .u64 0, .n .u64 0, .n .u64 0, .n .u64 0, .n .u64 0, .n .u64 0, .n .u64 0, .n .u64 0, .n .u64 0, .n .u64 0, .n .u64 0, .n .u64 0]⟩
theorem tyOk146 : TiOk Tryd.prog 146 ty146 := TiOk.mk2 Tryd.underlying146 ⟨rfl, rfl⟩ inf146 rfl rfl rfl
theorem inf147 : (Tryd.prog.info? 147).map (fun x => (x.size, x.bytes, x.zero)) = some (65, 65, some (.agg #[.int .u8 0, .int .u8 0, .int .u8 0, .int .u8 0, .int .u8 0, .int .u8 0, .int .u8 0, .int .u8 0, .int .u8 0, .int .u8 0, .int .u8 0, .int .u8 0, .int .u8 0, .int .u8 0, .int .u8 0, .int .u8 0, .int .u8 0, .int .u8 0, .int .u8 0, .int .u8 0, .int .u8 0, .int .u8 0, .int .u8 0, .int .u8 0, .int .u8 0, .int .u8 0, .int .u8 0, .int .u8 0, .int .u8 0, .int .u8 0, .int .u8 0, .int .u8 0, .int .u8 0, .int .u8 0, .int .u8 0, .int .u8 0, .int .u8 0, .int .u8 0, .int .u8 0, .int .u8 0, .int .u8 0, .int .u8 0, .int .u8 0, .int .u8 0, .int .u8 0, .int .u8 0, .int .u8 0, .int .u8 0, .int .u8 0, .int .u8 0, .int .u8 0, .int .u8 0, .int .u8 0, .int .u8 0, .int .u8 0, .int .u8 0, .int .u8 0, .int .u8 0, .int .u8 0, .int .u8 0, .int .u8 0, .int .u8 0, .int .u8 0, .int .u8 0, .int .u8 0])) := by kernel_rfl
def ty147 : Ti := ⟨.arr 65 5, 65, 65, [.n .u8 0, .n .u8 0, .n .u8 0, .n .u8 0, .n .u8 0, .n .u8 0, .n .u8 0, .n .u8 0, .n .u8 0, .n .u8 0, .n .u8 0, .n .u8 0, .n .u8 0, .n .u8 0, .n .u8 0, .n .u8 0, .n .u8 0, .n .u8 0, .n .u8 0, .n .u8 0, .n .u8 0, .n .u8 0, .n .u8 0, .n .u8 0, .n .u8 0, .n .u8 0, .n .u8 0, .n .u8 0, .n .u8 0, .n .u8 0, .n .u8 0, .n .u8 0, .n .u8 0, .n .u8 0, .n .u8 0, .n .u8 0, .n .u8 0, .n .u8 0, .n .u8 0, .n .u8 0, .n .u8 0, .n .u8 0, .n .u8 0, .n .u8 0, .n .u8 0, .n .u8 0, .n .u8 0, .n .u8 0, .n .u8 0, .n .u8 0, .n .u8 0, .n .u8 0, .n .u8 0, .n .u8 0, .n .u8 0, .n .u8 0, .n .u8 0, .n .u8 0, .n .u8 0, .n .u8 0, .n .u8 0, .n .u8 0, .n .u8 0, .n .u8 0, .n .u8 0]⟩
theorem tyOk147 : TiOk Tryd.prog 147 ty147 := TiOk.mk2 Tryd.underlying147 ⟨rfl, rfl⟩ inf147 rfl rfl rfl
theorem inf148 : (Tryd.prog.info? 148).map (fun x => (x.size, x.bytes, x.zero)) = some (1, 8, some (.int .u64 0)) := by kernel_rfl
def ty148 : Ti := ⟨.int .u64, 1, 8, [.n .u64 0]⟩
theorem tyOk148 : TiOk Tryd.prog 148 ty148 := TiOk.mk2 Tryd.underlying148 rfl inf148 rfl rfl rfl
theorem inf149 : (Tryd.prog.info? 149).map (fun x => (x.size, x.bytes, x.zero)) = some (1, 8, some (.nilFunc)) := by kernel_rfl
def ty149 : Ti := ⟨.func, 1, 8, [.nilf]⟩
theorem tyOk149 : TiOk Tryd.prog 149 ty149 := TiOk.mk2 Tryd.underlying149 trivial inf149 rfl rfl rfl
theorem inf150 : (Tryd.prog.info? 150).map (fun x => (x.size, x.bytes, x.zero)) = some (1, 8, some (.nilFunc)) := by kernel_rfl
def ty150 : Ti := ⟨.func, 1, 8, [.nilf]⟩
theorem tyOk150 : TiOk Tryd.prog 150 ty150 := TiOk.mk2 Tryd.underlying150 trivial inf150 rfl rfl rfl
theorem inf151 : (Tryd.prog.info? 151).map (fun x => (x.size, x.bytes, x.zero)) = some (1, 8, some (.nilFunc)) := by kernel_rfl
def ty151 : Ti := ⟨.func, 1, 8, [.nilf]⟩
theorem tyOk151 : TiOk Tryd.prog 151 ty151 := TiOk.mk2 Tryd.underlying151 trivial inf151 rfl rfl rfl
theorem inf152 : (Tryd.prog.info? 152).map (fun x => (x.size, x.bytes, x.zero)) = some (1, 8, some (.nilFunc)) := by kernel_rfl
def ty152 : Ti := ⟨.func, 1, 8, [.nilf]⟩
theorem tyOk152 : TiOk Tryd.prog 152 ty152 := TiOk.mk2 Tryd.underlying152 trivial inf152 rfl rfl rfl
theorem inf153 : (Tryd.prog.info? 153).map (fun x => (x.size, x.bytes, x.zero)) = some (32, 32, some (.agg #[.int .u8 0, .int .u8 0, .int .u8 0, .int .u8 0, .int .u8 0, .int .u8 0, .int .u8 0, .int .u8 0, .int .u8 0, .int .u8 0, .int .u8 0, .int .u8 0, .int .u8 0, .int .u8 0, .int .u8 0, .int .u8 0, .int .u8 0, .int .u8 0, .int .u8 0, .int .u8 0, .int .u8 0, .int .u8 0, .int .u8 0, .int .u8 0, .int .u8 0, .int .u8 0, .int .u8 0, .int .u8 0, .int .u8 0, .int .u8 0, .int .u8 0, .int .u8 0])) := by kernel_rfl
def ty153 : Ti := ⟨.arr 32 5, 32, 32, [.n .u8 0, .n .u8 0, .n .u8 0, .n .u8 0, .n .u8 0, .n .u8 0, .n .u8 0, .n .u8 0, .n .u8 0, .n .u8 0, .n .u8 0, .n .u8 0, .n .u8 0, .n .u8 0, .n .u8 0, .n .u8 0, .n .u8 0, .n .u8 0, .n .u8 0, .n .u8 0, .n .u8 0, .n .u8 0, .n .u8 0, .n .u8 0, .n .u8 0, .n .u8 0, .n .u8 0, .n .u8 0, .n .u8 0, .n .u8 0, .n .u8 0, .n .u8 0]⟩
theorem tyOk153 : TiOk Tryd.prog 153 ty153 := TiOk.mk2 Tryd.underlying153 ⟨rfl, rfl⟩ inf153 rfl rfl rfl
theorem inf154 : (Tryd.prog.info? 154).map (fun x => (x.size, x.bytes, x.zero)) = some (64, 64, some (.agg #[.int .u8 0, .int .u8 0, .int .u8 0, .int .u8 0, .int .u8 0, .int .u8 0, .int .u8 0, .int .u8 0, .int .u8 0, .int .u8 0, .int .u8 0, .int .u8 0, .int .u8 0, .int .u8 0, .int .u8 0, .int .u8 0, .int .u8 0, .int .u8 0, .int .u8 0, .int .u8 0, .int .u8 0, .int .u8 0, .int .u8 0, .int .u8 0, .int .u8 0, .int .u8 0, .int .u8 0, .int .u8 0, .int .u8 0, .int .u8 0, .int .u8 0, .int .u8 0, .int .u8 0, .int .u8 0, .int .u8 0, .int .u8 0, .int .u8 0, .int .u8 0, .int .u8 0, .int .u8 0, .int .u8 0, .int .u8 0, .int .u8 0, .int .u8 0, .int .u8 0, .int .u8 0, .int .u8 0, .int .u8 0, .int .u8 0, .int .u8 0, .int .u8 0, .int .u8 0, .int .u8 0, .int .u8 0, .int .u8 0, .int .u8 0, .int .u8 0, .int .u8 0, .int .u8 0, .int .u8 0, .int .u8 0, .int .u8 0, .int .u8 0, .int .u8 0])) := by kernel_rfl
def ty154 : Ti := ⟨.arr 64 5, 64, 64, [.n .u8 0, .n .u8 0, .n .u8 0, .n .u8 0, .n .u8 0, .n .u8 0, .n .u8 0, .n .u8 0, .n .u8 0, .n .u8 0, .n .u8 0, .n .u8 0, .n .u8 0, .n .u8 0, .n .u8 0, .n .u8 0, .n .u8 0, .n .u8 0, .n .u8 0, .n .u8 0, .n .u8 0, .n .u8 0, .n .u8 0, .n .u8 0, .n .u8 0, .n .u8 0, .n .u8 0, .n .u8 0, .n .u8 0, .n .u8 0, .n .u8 0, .n .u8 0, .n .u8 0, .n .u8 0, .n .u8 0, .n .u8 0, .n .u8 0, .n .u8 0, .n .u8 0, .n .u8 0, .n .u8 0, .n .u8 0, .n .u8 0, .n .u8 0, .n .u8 0, .n .u8 0, .n .u8 0, .n .u8 0, .n .u8 0, .n .u8 0, .n .u8 0, .n .u8 0, .n .u8 0, .n .u8 0, .n .u8 0, .n .u8 0, .n .u8 0, .n .u8 0, .n .u8 0, .n .u8 0, .n .u8 0, .n .u8 0, .n .u8 0, .n .u8 0]⟩
theorem tyOk154 : TiOk Tryd.prog 154 ty154 := TiOk.mk2 Tryd.underlying154 ⟨rfl, rfl⟩ inf154 rfl rfl rfl
theorem inf155 : (Tryd.prog.info? 155).map (fun x => (x.size, x.bytes, x.zero)) = some (4, 40, some (.agg #[.pointer none, .pointer none, .pointer none, .string ⟨#[]⟩])) := by kernel_rfl
def ty155 : Ti := ⟨.st [(17, 0, 1), (17, 1, 1), (17, 2, 1), (9, 3, 1)], 4, 40, [.nilp, .nilp, .nilp, .s ⟨#[]⟩]⟩
theorem tyOk155 : TiOk Tryd.prog 155 ty155 := TiOk.mk2 Tryd.underlying155 ⟨rfl, fsOk_all ⟨⟨sz17, by decide⟩, ⟨sz17, by decide⟩, ⟨sz17, by decide⟩, ⟨sz9, by decide⟩, trivial⟩⟩ inf155 rfl rfl rfl
theorem inf156 : (Tryd.prog.info? 156).map (fun x => (x.size, x.bytes, x.zero)) = some (4, 40, some (.agg #[.pointer none, .pointer none, .pointer none, .string ⟨#[]⟩])) := by kernel_rfl
def ty156 : Ti := ⟨.st [(17, 0, 1), (17, 1, 1), (17, 2, 1), (9, 3, 1)], 4, 40, [.nilp, .nilp, .nilp, .s ⟨#[]⟩]⟩
theorem tyOk156 : TiOk Tryd.prog 156 ty156 := TiOk.mk2 Tryd.underlying156 ⟨rfl, fsOk_all ⟨⟨sz17, by decide⟩, ⟨sz17, by decide⟩, ⟨sz17, by decide⟩, ⟨sz9, by decide⟩, trivial⟩⟩ inf156 rfl rfl rfl
theorem inf157 : (Tryd.prog.info? 157).map (fun x => (x.size, x.bytes, x.zero)) = some (0, 0, some (.agg #[])) := by kernel_rfl
def ty157 : Ti := ⟨.arr 0 16, 0, 0, []⟩
theorem tyOk157 : TiOk Tryd.prog 157 ty157 := TiOk.mk2 Tryd.underlying157 ⟨rfl, rfl⟩ inf157 rfl rfl rfl
theorem inf160 : (Tryd.prog.info? 160).map (fun x => (x.size, x.bytes, x.zero)) = some (1, 8, some (.nilFunc)) := by kernel_rfl
def ty160 : Ti := ⟨.func, 1, 8, [.nilf]⟩
theorem tyOk160 : TiOk Tryd.prog 160 ty160 := TiOk.mk2 Tryd.underlying160 trivial inf160 rfl rfl rfl
theorem inf161 : (Tryd.prog.info? 161).map (fun x => (x.size, x.bytes, x.zero)) = some (1, 1, some (.int .u8 0)) := by kernel_rfl
def ty161 : Ti := ⟨.int .u8, 1, 1, [.n .u8 0]⟩
theorem tyOk161 : TiOk Tryd.prog 161 ty161 := TiOk.mk2 Tryd.underlying161 rfl inf161 rfl rfl rfl
theorem inf162 : (Tryd.prog.info? 162).map (fun x => (x.size, x.bytes, x.zero)) = some (1, 1, some (.int .u8 0)) := by kernel_rfl
def ty162 : Ti := ⟨.int .u8, 1, 1, [.n .u8 0]⟩
theorem tyOk162 : TiOk Tryd.prog 162 ty162 := TiOk.mk2 Tryd.underlying162 rfl inf162 rfl rfl rfl
theorem inf163 : (Tryd.prog.info? 163).map (fun x => (x.size, x.bytes, x.zero)) = some (1, 8, some (.nilFunc)) := by kernel_rfl
def ty163 : Ti := ⟨.func, 1, 8, [.nilf]⟩
theorem tyOk163 : TiOk Tryd.prog 163 ty163 := TiOk.mk2 Tryd.underlying163 trivial inf163 rfl rfl rfl
theorem inf164 : (Tryd.prog.info? 164).map (fun x => (x.size, x.bytes, x.zero)) = some (1, 4, some (.int .i32 0)) := by kernel_rfl
def ty164 : Ti := ⟨.int .i32, 1, 4, [.n .i32 0]⟩
theorem tyOk164 : TiOk Tryd.prog 164 ty164 := TiOk.mk2 Tryd.underlying164 rfl inf164 rfl rfl rfl
theorem inf165 : (Tryd.prog.info? 165).map (fun x => (x.size, x.bytes, x.zero)) = some (1, 4, some (.int .i32 0)) := by kernel_rfl
def ty165 : Ti := ⟨.int .i32, 1, 4, [.n .i32 0]⟩
theorem tyOk165 : TiOk Tryd.prog 165 ty165 := TiOk.mk2 Tryd.underlying165 rfl inf165 rfl rfl rfl
theorem inf166 : (Tryd.prog.info? 166).map (fun x => (x.size, x.bytes, x.zero)) = some (11, 48, some (.agg #[.int .u64 0, .int .u64 0, .int .u32 0, .int .u8 0, .int .u8 0, .int .u8 0, .int .u8 0, .nilFunc, .pointer none, .int .i32 0, .int .i32 0])) := by kernel_rfl
def ty166 : Ti := ⟨.st [(12, 0, 1), (12, 1, 1), (25, 2, 1), (161, 3, 1), (5, 4, 1), (5, 5, 1), (162, 6, 1), (163, 7, 1), (134, 8, 1), (164, 9, 1), (165, 10, 1)], 11, 48, [.n .u64 0, .n .u64 0, .n .u32 0, .n .u8 0, .n .u8 0, .n .u8 0, .n .u8 0, .nilf, .nilp, .n .i32 0, .n .i32 0]⟩
theorem tyOk166 : TiOk Tryd.prog 166 ty166 := TiOk.mk2 Tryd.underlying166 ⟨rfl, fsOk_all ⟨⟨sz12, by decide⟩, ⟨sz12, by decide⟩, ⟨sz25, by decide⟩, ⟨sz161, by decide⟩, ⟨sz5, by decide⟩, ⟨sz5, by decide⟩, ⟨sz162, by decide⟩, ⟨sz163, by decide⟩, ⟨sz134, by decide⟩, ⟨sz164, by decide⟩, ⟨sz165, by decide⟩, trivial⟩⟩ inf166 rfl rfl rfl
theorem inf167 : (Tryd.prog.info? 167).map (fun x => (x.size, x.bytes, x.zero)) = some (11, 48, some (.agg #[.int .u64 0, .int .u64 0, .int .u32 0, .int .u8 0, .int .u8 0, .int .u8 0, .int .u8 0, .nilFunc, .pointer none, .int .i32 0, .int .i32 0])) := by kernel_rfl
def ty167 : Ti := ⟨.st [(12, 0, 1), (12, 1, 1), (25, 2, 1), (161, 3, 1), (5, 4, 1), (5, 5, 1), (162, 6, 1), (163, 7, 1), (134, 8, 1), (164, 9, 1), (165, 10, 1)], 11, 48, [.n .u64 0, .n .u64 0, .n .u32 0, .n .u8 0, .n .u8 0, .n .u8 0, .n .u8 0, .nilf, .nilp, .n .i32 0, .n .i32 0]⟩
theorem tyOk167 : TiOk Tryd.prog 167 ty167 := TiOk.mk2 Tryd.underlying167 ⟨rfl, fsOk_all ⟨⟨sz12, by decide⟩, ⟨sz12, by decide⟩, ⟨sz25, by decide⟩, ⟨sz161, by decide⟩, ⟨sz5, by decide⟩, ⟨sz5, by decide⟩, ⟨sz162, by decide⟩, ⟨sz163, by decide⟩, ⟨sz134, by decide⟩, ⟨sz164, by decide⟩, ⟨sz165, by decide⟩, trivial⟩⟩ inf167 rfl rfl rfl
def tiRows : List (Nat × Ti) := [(1, ty1), (2, ty2), (3, ty3), (4, ty4), (5, ty5), (6, ty6), (7, ty7), (8, ty8), (9, ty9), (10, ty10), (11, ty11), (12, ty12), (13, ty13), (14, ty14), (15, ty15), (16, ty16), (17, ty17), (18, ty18), (19, ty19), (20, ty20), (21, ty21), (22, ty22), (23, ty23), (24, ty24), (25, ty25), (26, ty26), (27, ty27), (28, ty28), (29, ty29), (30, ty30), (31, ty31), (33, ty33), (35, ty35), (37, ty37), (38, ty38), (39, ty39), (40, ty40), (41, ty41), (42, ty42), (44, ty44), (45, ty45), (46, ty46), (47, ty47), (48, ty48), (49, ty49), (50, ty50), (51, ty51), (52, ty52), (53, ty53), (54, ty54), (55, ty55), (56, ty56), (57, ty57), (58, ty58), (59, ty59), (60, ty60), (61, ty61), (62, ty62), (63, ty63), (65, ty65), (66, ty66), (67, ty67), (68, ty68), (69, ty69), (70, ty70), (71, ty71), (72, ty72), (73, ty73), (74, ty74), (75, ty75), (76, ty76), (77, ty77), (78, ty78), (79, ty79), (80, ty80), (81, ty81), (82, ty82), (84, ty84), (85, ty85), (86, ty86), (87, ty87), (88, ty88), (89, ty89), (90, ty90), (91, ty91), (92, ty92), (93, ty93), (94, ty94), (95, ty95), (96, ty96), (97, ty97), (98, ty98), (99, ty99), (100, ty100), (101, ty101), (102, ty102), (103, ty103), (104, ty104), (105, ty105), (106, ty106), (107, ty107), (108, ty108), (109, ty109), (110, ty110), (112, ty112), (114, ty114), (115, ty115), (116, ty116), (118, ty118), (119, ty119), (120, ty120), (121, ty121), (122, ty122), (123, ty123), (124, ty124), (126, ty126), (127, ty127), (128, ty128), (129, ty129), (130, ty130), (131, ty131), (132, ty132), (133, ty133), (134, ty134), (135, ty135), (136, ty136), (137, ty137), (139, ty139), (140, ty140), (141, ty141), (142, ty142), (144, ty144), (145, ty145), (146, ty146), (147, ty147), (148, ty148), (149, ty149), (150, ty150), (151, ty151), (152, ty152), (153, ty153), (154, ty154), (155, ty155), (156, ty156), (157, ty157), (160, ty160), (161, ty161), (162, ty162), (163, ty163), (164, ty164), (165, ty165), (166, ty166), (167, ty167)]
theorem tiRows_ok : ∀ t i, lk t tiRows = some i → TiOk Tryd.prog t i :=
  tiRows_all (l := tiRows) ⟨tyOk1, tyOk2, tyOk3, tyOk4, tyOk5, tyOk6, tyOk7, tyOk8, tyOk9, tyOk10, tyOk11, tyOk12, tyOk13, tyOk14, tyOk15, tyOk16, tyOk17, tyOk18, tyOk19, tyOk20, tyOk21, tyOk22, tyOk23, tyOk24, tyOk25, tyOk26, tyOk27, tyOk28, tyOk29, tyOk30, tyOk31, tyOk33, tyOk35, tyOk37, tyOk38, tyOk39, tyOk40, tyOk41, tyOk42, tyOk44, tyOk45, tyOk46, tyOk47, tyOk48, tyOk49, tyOk50, tyOk51, tyOk52, tyOk53, tyOk54, tyOk55, tyOk56, tyOk57, tyOk58, tyOk59, tyOk60, tyOk61, tyOk62, tyOk63, tyOk65, tyOk66, tyOk67, tyOk68, tyOk69, tyOk70, tyOk71, tyOk72, tyOk73, tyOk74, tyOk75, tyOk76, tyOk77, tyOk78, tyOk79, tyOk80, tyOk81, tyOk82, tyOk84, tyOk85, tyOk86, tyOk87, tyOk88, tyOk89, tyOk90, tyOk91, tyOk92, tyOk93, tyOk94, tyOk95, tyOk96, tyOk97, tyOk98, tyOk99, tyOk100, tyOk101, tyOk102, tyOk103, tyOk104, tyOk105, tyOk106, tyOk107, tyOk108, tyOk109, tyOk110, tyOk112, tyOk114, tyOk115, tyOk116, tyOk118, tyOk119, tyOk120, tyOk121, tyOk122, tyOk123, tyOk124, tyOk126, tyOk127, tyOk128, tyOk129, tyOk130, tyOk131, tyOk132, tyOk133, tyOk134, tyOk135, tyOk136, tyOk137, tyOk139, tyOk140, tyOk141, tyOk142, tyOk144, tyOk145, tyOk146, tyOk147, tyOk148, tyOk149, tyOk150, tyOk151, tyOk152, tyOk153, tyOk154, tyOk155, tyOk156, tyOk157, tyOk160, tyOk161, tyOk162, tyOk163, tyOk164, tyOk165, tyOk166, tyOk167, trivial⟩
end Go.Proofs.YtiibmnoikgfcbaaDoor
