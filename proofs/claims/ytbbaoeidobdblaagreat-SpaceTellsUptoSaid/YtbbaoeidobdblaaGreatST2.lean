/- Laid together: Tys, Sxi, Sxh, Sk1, Sp1, Sk2, Sk3. -/
import Derived.Test.YtbbaoeidobdblaaGreatST1
import Derived.Test.YtbbaoeidobdblaaGreatProg
import Derived.KernelRfl
import Derived.Laws.MakeOwn
import Derived.Laws.OwnMore
import Derived.Lib.ConvBytes
import Derived.Laws.BytesString
import Derived.Lib.AppendZeros
/- What is asked of the types of this program (written by tys.py). -/
set_option linter.unusedVariables false
namespace Go.Proofs.YtbbaoeidobdblaaGreat.Sx
open Go
theorem k1 : TIok Tryz.prog 1 ⟨0, 1, 8, [.nilFunc], [], 0, 0⟩ := ⟨by kernel_rfl, by kernel_rfl, by kernel_rfl⟩
theorem k2 : TIok Tryz.prog 2 ⟨8, 1, 8, [.int .i64 0], [], 3, 0⟩ := ⟨by kernel_rfl, by kernel_rfl, by kernel_rfl⟩
theorem k3 : TIok Tryz.prog 3 ⟨8, 1, 8, [.int .i64 0], [], 3, 0⟩ := ⟨by kernel_rfl, by kernel_rfl, by kernel_rfl⟩
theorem k4 : TIok Tryz.prog 4 ⟨7, 1, 1, [.bool false], [], 0, 0⟩ := ⟨by kernel_rfl, by kernel_rfl, by kernel_rfl⟩
theorem k5 : TIok Tryz.prog 5 ⟨8, 1, 1, [.int .u8 0], [], 4, 0⟩ := ⟨by kernel_rfl, by kernel_rfl, by kernel_rfl⟩
theorem k6 : TIok Tryz.prog 6 ⟨8, 1, 1, [.int .u8 0], [], 4, 0⟩ := ⟨by kernel_rfl, by kernel_rfl, by kernel_rfl⟩
theorem k7 : TIok Tryz.prog 7 ⟨1, 4, 24, [.int .i64 0, .int .i64 0, .bool false, .int .u8 0], [(0, 1, false), (1, 1, false), (2, 1, false), (3, 1, false)], 0, 0⟩ := ⟨by kernel_rfl, by kernel_rfl, by kernel_rfl⟩
theorem k8 : TIok Tryz.prog 8 ⟨1, 4, 24, [.int .i64 0, .int .i64 0, .bool false, .int .u8 0], [(0, 1, false), (1, 1, false), (2, 1, false), (3, 1, false)], 0, 0⟩ := ⟨by kernel_rfl, by kernel_rfl, by kernel_rfl⟩
theorem k9 : TIok Tryz.prog 9 ⟨4, 1, 16, [.string ⟨#[]⟩], [], 0, 0⟩ := ⟨by kernel_rfl, by kernel_rfl, by kernel_rfl⟩
theorem k10 : TIok Tryz.prog 10 ⟨4, 1, 16, [.string ⟨#[]⟩], [], 0, 0⟩ := ⟨by kernel_rfl, by kernel_rfl, by kernel_rfl⟩
theorem k11 : TIok Tryz.prog 11 ⟨4, 1, 16, [.string ⟨#[]⟩], [], 0, 0⟩ := ⟨by kernel_rfl, by kernel_rfl, by kernel_rfl⟩
theorem k12 : TIok Tryz.prog 12 ⟨8, 1, 8, [.int .u64 0], [], 7, 0⟩ := ⟨by kernel_rfl, by kernel_rfl, by kernel_rfl⟩
theorem k13 : TIok Tryz.prog 13 ⟨1, 2, 24, [.string ⟨#[]⟩, .int .u64 0], [(0, 1, false), (1, 1, false)], 0, 0⟩ := ⟨by kernel_rfl, by kernel_rfl, by kernel_rfl⟩
theorem k14 : TIok Tryz.prog 14 ⟨1, 2, 24, [.string ⟨#[]⟩, .int .u64 0], [(0, 1, false), (1, 1, false)], 0, 0⟩ := ⟨by kernel_rfl, by kernel_rfl, by kernel_rfl⟩
theorem k15 : TIok Tryz.prog 15 ⟨6, 1, 8, [.pointer none], [], 263, 0⟩ := ⟨by kernel_rfl, by kernel_rfl, by kernel_rfl⟩
theorem k16 : TIok Tryz.prog 16 ⟨6, 1, 8, [.pointer none], [], 266, 0⟩ := ⟨by kernel_rfl, by kernel_rfl, by kernel_rfl⟩
theorem k17 : TIok Tryz.prog 17 ⟨6, 1, 8, [.pointer none], [], 274, 0⟩ := ⟨by kernel_rfl, by kernel_rfl, by kernel_rfl⟩
theorem k18 : TIok Tryz.prog 18 ⟨1, 1, 8, [.pointer none], [(0, 1, false)], 0, 0⟩ := ⟨by kernel_rfl, by kernel_rfl, by kernel_rfl⟩
theorem k19 : TIok Tryz.prog 19 ⟨1, 1, 8, [.pointer none], [(0, 1, false)], 0, 0⟩ := ⟨by kernel_rfl, by kernel_rfl, by kernel_rfl⟩
theorem k21 : TIok Tryz.prog 21 ⟨8, 1, 4, [.int .i32 0], [], 2, 0⟩ := ⟨by kernel_rfl, by kernel_rfl, by kernel_rfl⟩
theorem k22 : TIok Tryz.prog 22 ⟨1, 5, 40, [.int .i64 0, .int .i64 0, .int .i64 0, .int .i64 0, .int .i64 0], [(0, 1, false), (1, 1, false), (2, 1, false), (3, 1, false), (4, 1, false)], 0, 0⟩ := ⟨by kernel_rfl, by kernel_rfl, by kernel_rfl⟩
theorem k23 : TIok Tryz.prog 23 ⟨1, 5, 40, [.int .i64 0, .int .i64 0, .int .i64 0, .int .i64 0, .int .i64 0], [(0, 1, false), (1, 1, false), (2, 1, false), (3, 1, false), (4, 1, false)], 0, 0⟩ := ⟨by kernel_rfl, by kernel_rfl, by kernel_rfl⟩
theorem k24 : TIok Tryz.prog 24 ⟨0, 1, 8, [.nilFunc], [], 0, 0⟩ := ⟨by kernel_rfl, by kernel_rfl, by kernel_rfl⟩
theorem k25 : TIok Tryz.prog 25 ⟨6, 1, 8, [.pointer none], [], 105, 0⟩ := ⟨by kernel_rfl, by kernel_rfl, by kernel_rfl⟩
theorem k26 : TIok Tryz.prog 26 ⟨8, 1, 8, [.int .i64 0], [], 3, 0⟩ := ⟨by kernel_rfl, by kernel_rfl, by kernel_rfl⟩
theorem k28 : TIok Tryz.prog 28 ⟨0, 1, 8, [.nilFunc], [], 0, 0⟩ := ⟨by kernel_rfl, by kernel_rfl, by kernel_rfl⟩
theorem k29 : TIok Tryz.prog 29 ⟨6, 1, 8, [.pointer none], [], 108, 0⟩ := ⟨by kernel_rfl, by kernel_rfl, by kernel_rfl⟩
theorem k30 : TIok Tryz.prog 30 ⟨0, 1, 8, [.nilFunc], [], 0, 0⟩ := ⟨by kernel_rfl, by kernel_rfl, by kernel_rfl⟩
theorem k31 : TIok Tryz.prog 31 ⟨0, 1, 8, [.nilFunc], [], 0, 0⟩ := ⟨by kernel_rfl, by kernel_rfl, by kernel_rfl⟩
theorem k32 : TIok Tryz.prog 32 ⟨6, 1, 8, [.pointer none], [], 111, 0⟩ := ⟨by kernel_rfl, by kernel_rfl, by kernel_rfl⟩
theorem k34 : TIok Tryz.prog 34 ⟨0, 1, 8, [.nilFunc], [], 0, 0⟩ := ⟨by kernel_rfl, by kernel_rfl, by kernel_rfl⟩
theorem k35 : TIok Tryz.prog 35 ⟨8, 1, 8, [.int .u64 0], [], 7, 0⟩ := ⟨by kernel_rfl, by kernel_rfl, by kernel_rfl⟩
theorem k36 : TIok Tryz.prog 36 ⟨3, 1, 24, [.slice none 0 0], [], 44, 0⟩ := ⟨by kernel_rfl, by kernel_rfl, by kernel_rfl⟩
theorem k37 : TIok Tryz.prog 37 ⟨3, 1, 24, [.slice none 0 0], [], 3, 0⟩ := ⟨by kernel_rfl, by kernel_rfl, by kernel_rfl⟩
theorem k38 : TIok Tryz.prog 38 ⟨1, 3, 56, [.int .i64 0, .slice none 0 0, .slice none 0 0], [(0, 1, false), (1, 1, false), (2, 1, false)], 0, 0⟩ := ⟨by kernel_rfl, by kernel_rfl, by kernel_rfl⟩
theorem k39 : TIok Tryz.prog 39 ⟨1, 3, 56, [.int .i64 0, .slice none 0 0, .slice none 0 0], [(0, 1, false), (1, 1, false), (2, 1, false)], 0, 0⟩ := ⟨by kernel_rfl, by kernel_rfl, by kernel_rfl⟩
theorem k40 : TIok Tryz.prog 40 ⟨0, 1, 8, [.nilFunc], [], 0, 0⟩ := ⟨by kernel_rfl, by kernel_rfl, by kernel_rfl⟩
theorem k41 : TIok Tryz.prog 41 ⟨3, 1, 24, [.slice none 0 0], [], 127, 0⟩ := ⟨by kernel_rfl, by kernel_rfl, by kernel_rfl⟩
theorem k42 : TIok Tryz.prog 42 ⟨3, 1, 24, [.slice none 0 0], [], 139, 0⟩ := ⟨by kernel_rfl, by kernel_rfl, by kernel_rfl⟩
theorem k43 : TIok Tryz.prog 43 ⟨1, 7, 96, [.int .i64 0, .int .i64 0, .int .i64 0, .int .i64 0, .string ⟨#[]⟩, .slice none 0 0, .slice none 0 0], [(0, 1, false), (1, 1, false), (2, 1, false), (3, 1, false), (4, 1, false), (5, 1, false), (6, 1, false)], 0, 0⟩ := ⟨by kernel_rfl, by kernel_rfl, by kernel_rfl⟩
theorem k44 : TIok Tryz.prog 44 ⟨1, 7, 96, [.int .i64 0, .int .i64 0, .int .i64 0, .int .i64 0, .string ⟨#[]⟩, .slice none 0 0, .slice none 0 0], [(0, 1, false), (1, 1, false), (2, 1, false), (3, 1, false), (4, 1, false), (5, 1, false), (6, 1, false)], 0, 0⟩ := ⟨by kernel_rfl, by kernel_rfl, by kernel_rfl⟩
theorem k45 : TIok Tryz.prog 45 ⟨1, 9, 112, [.int .i64 0, .int .i64 0, .int .i64 0, .int .i64 0, .int .i64 0, .int .i64 0, .string ⟨#[]⟩, .slice none 0 0, .slice none 0 0], [(0, 1, false), (1, 1, false), (2, 7, true)], 0, 0⟩ := ⟨by kernel_rfl, by kernel_rfl, by kernel_rfl⟩
theorem k46 : TIok Tryz.prog 46 ⟨1, 9, 112, [.int .i64 0, .int .i64 0, .int .i64 0, .int .i64 0, .int .i64 0, .int .i64 0, .string ⟨#[]⟩, .slice none 0 0, .slice none 0 0], [(0, 1, false), (1, 1, false), (2, 7, true)], 0, 0⟩ := ⟨by kernel_rfl, by kernel_rfl, by kernel_rfl⟩
theorem k47 : TIok Tryz.prog 47 ⟨3, 1, 24, [.slice none 0 0], [], 46, 0⟩ := ⟨by kernel_rfl, by kernel_rfl, by kernel_rfl⟩
theorem k48 : TIok Tryz.prog 48 ⟨0, 1, 8, [.nilFunc], [], 0, 0⟩ := ⟨by kernel_rfl, by kernel_rfl, by kernel_rfl⟩
theorem k49 : TIok Tryz.prog 49 ⟨0, 1, 8, [.nilFunc], [], 0, 0⟩ := ⟨by kernel_rfl, by kernel_rfl, by kernel_rfl⟩
theorem k50 : TIok Tryz.prog 50 ⟨0, 1, 8, [.nilFunc], [], 0, 0⟩ := ⟨by kernel_rfl, by kernel_rfl, by kernel_rfl⟩
theorem k51 : TIok Tryz.prog 51 ⟨0, 1, 8, [.nilFunc], [], 0, 0⟩ := ⟨by kernel_rfl, by kernel_rfl, by kernel_rfl⟩
theorem k52 : TIok Tryz.prog 52 ⟨0, 1, 8, [.nilFunc], [], 0, 0⟩ := ⟨by kernel_rfl, by kernel_rfl, by kernel_rfl⟩
theorem k53 : TIok Tryz.prog 53 ⟨3, 1, 24, [.slice none 0 0], [], 47, 0⟩ := ⟨by kernel_rfl, by kernel_rfl, by kernel_rfl⟩
theorem k54 : TIok Tryz.prog 54 ⟨0, 1, 8, [.nilFunc], [], 0, 0⟩ := ⟨by kernel_rfl, by kernel_rfl, by kernel_rfl⟩
theorem k55 : TIok Tryz.prog 55 ⟨0, 1, 8, [.nilFunc], [], 0, 0⟩ := ⟨by kernel_rfl, by kernel_rfl, by kernel_rfl⟩
theorem k56 : TIok Tryz.prog 56 ⟨0, 1, 8, [.nilFunc], [], 0, 0⟩ := ⟨by kernel_rfl, by kernel_rfl, by kernel_rfl⟩
theorem k57 : TIok Tryz.prog 57 ⟨3, 1, 24, [.slice none 0 0], [], 5, 0⟩ := ⟨by kernel_rfl, by kernel_rfl, by kernel_rfl⟩
theorem k59 : TIok Tryz.prog 59 ⟨0, 1, 8, [.nilFunc], [], 0, 0⟩ := ⟨by kernel_rfl, by kernel_rfl, by kernel_rfl⟩
theorem k60 : TIok Tryz.prog 60 ⟨0, 1, 8, [.nilFunc], [], 0, 0⟩ := ⟨by kernel_rfl, by kernel_rfl, by kernel_rfl⟩
theorem k61 : TIok Tryz.prog 61 ⟨0, 1, 8, [.nilFunc], [], 0, 0⟩ := ⟨by kernel_rfl, by kernel_rfl, by kernel_rfl⟩
theorem k62 : TIok Tryz.prog 62 ⟨0, 1, 8, [.nilFunc], [], 0, 0⟩ := ⟨by kernel_rfl, by kernel_rfl, by kernel_rfl⟩
theorem k63 : TIok Tryz.prog 63 ⟨0, 1, 8, [.nilFunc], [], 0, 0⟩ := ⟨by kernel_rfl, by kernel_rfl, by kernel_rfl⟩
theorem k64 : TIok Tryz.prog 64 ⟨0, 1, 8, [.nilFunc], [], 0, 0⟩ := ⟨by kernel_rfl, by kernel_rfl, by kernel_rfl⟩
theorem k65 : TIok Tryz.prog 65 ⟨0, 1, 8, [.nilFunc], [], 0, 0⟩ := ⟨by kernel_rfl, by kernel_rfl, by kernel_rfl⟩
theorem k66 : TIok Tryz.prog 66 ⟨0, 1, 8, [.nilFunc], [], 0, 0⟩ := ⟨by kernel_rfl, by kernel_rfl, by kernel_rfl⟩
theorem k67 : TIok Tryz.prog 67 ⟨3, 1, 24, [.slice none 0 0], [], 77, 0⟩ := ⟨by kernel_rfl, by kernel_rfl, by kernel_rfl⟩
theorem k68 : TIok Tryz.prog 68 ⟨6, 1, 8, [.pointer none], [], 79, 0⟩ := ⟨by kernel_rfl, by kernel_rfl, by kernel_rfl⟩
theorem k69 : TIok Tryz.prog 69 ⟨0, 1, 8, [.nilFunc], [], 0, 0⟩ := ⟨by kernel_rfl, by kernel_rfl, by kernel_rfl⟩
theorem k70 : TIok Tryz.prog 70 ⟨6, 1, 8, [.pointer none], [], 81, 0⟩ := ⟨by kernel_rfl, by kernel_rfl, by kernel_rfl⟩
theorem k72 : TIok Tryz.prog 72 ⟨0, 1, 8, [.nilFunc], [], 0, 0⟩ := ⟨by kernel_rfl, by kernel_rfl, by kernel_rfl⟩
theorem k73 : TIok Tryz.prog 73 ⟨6, 1, 8, [.pointer none], [], 83, 0⟩ := ⟨by kernel_rfl, by kernel_rfl, by kernel_rfl⟩
theorem k75 : TIok Tryz.prog 75 ⟨0, 1, 8, [.nilFunc], [], 0, 0⟩ := ⟨by kernel_rfl, by kernel_rfl, by kernel_rfl⟩
theorem k76 : TIok Tryz.prog 76 ⟨1, 4, 48, [.int .i64 0, .int .i64 0, .int .u8 0, .slice none 0 0], [(0, 1, false), (1, 1, false), (2, 1, false), (3, 1, false)], 0, 0⟩ := ⟨by kernel_rfl, by kernel_rfl, by kernel_rfl⟩
theorem k77 : TIok Tryz.prog 77 ⟨1, 4, 48, [.int .i64 0, .int .i64 0, .int .u8 0, .slice none 0 0], [(0, 1, false), (1, 1, false), (2, 1, false), (3, 1, false)], 0, 0⟩ := ⟨by kernel_rfl, by kernel_rfl, by kernel_rfl⟩
theorem k78 : TIok Tryz.prog 78 ⟨1, 5, 56, [.bool false, .int .i64 0, .int .u8 0, .int .i64 0, .slice none 0 0], [(0, 1, false), (1, 1, false), (2, 1, false), (3, 1, false), (4, 1, false)], 0, 0⟩ := ⟨by kernel_rfl, by kernel_rfl, by kernel_rfl⟩
theorem k79 : TIok Tryz.prog 79 ⟨1, 5, 56, [.bool false, .int .i64 0, .int .u8 0, .int .i64 0, .slice none 0 0], [(0, 1, false), (1, 1, false), (2, 1, false), (3, 1, false), (4, 1, false)], 0, 0⟩ := ⟨by kernel_rfl, by kernel_rfl, by kernel_rfl⟩
theorem k80 : TIok Tryz.prog 80 ⟨1, 8, 96, [.int .i64 0, .int .i64 0, .int .i64 0, .int .i64 0, .int .i64 0, .pointer none, .slice none 0 0, .slice none 0 0], [(0, 5, true), (5, 1, false), (6, 1, false), (7, 1, false)], 0, 0⟩ := ⟨by kernel_rfl, by kernel_rfl, by kernel_rfl⟩
theorem k81 : TIok Tryz.prog 81 ⟨1, 8, 96, [.int .i64 0, .int .i64 0, .int .i64 0, .int .i64 0, .int .i64 0, .pointer none, .slice none 0 0, .slice none 0 0], [(0, 5, true), (5, 1, false), (6, 1, false), (7, 1, false)], 0, 0⟩ := ⟨by kernel_rfl, by kernel_rfl, by kernel_rfl⟩
theorem k82 : TIok Tryz.prog 82 ⟨1, 8, 96, [.pointer none, .int .i64 0, .slice none 0 0, .slice none 0 0, .int .i64 0, .int .i64 0, .int .i64 0, .bool false], [(0, 1, false), (1, 3, true), (4, 1, false), (5, 1, false), (6, 1, false), (7, 1, false)], 0, 0⟩ := ⟨by kernel_rfl, by kernel_rfl, by kernel_rfl⟩
theorem k83 : TIok Tryz.prog 83 ⟨1, 8, 96, [.pointer none, .int .i64 0, .slice none 0 0, .slice none 0 0, .int .i64 0, .int .i64 0, .int .i64 0, .bool false], [(0, 1, false), (1, 3, true), (4, 1, false), (5, 1, false), (6, 1, false), (7, 1, false)], 0, 0⟩ := ⟨by kernel_rfl, by kernel_rfl, by kernel_rfl⟩
theorem k84 : TIok Tryz.prog 84 ⟨0, 1, 8, [.nilFunc], [], 0, 0⟩ := ⟨by kernel_rfl, by kernel_rfl, by kernel_rfl⟩
theorem k85 : TIok Tryz.prog 85 ⟨0, 1, 8, [.nilFunc], [], 0, 0⟩ := ⟨by kernel_rfl, by kernel_rfl, by kernel_rfl⟩
theorem k86 : TIok Tryz.prog 86 ⟨8, 1, 8, [.int .u64 0], [], 7, 0⟩ := ⟨by kernel_rfl, by kernel_rfl, by kernel_rfl⟩
theorem k87 : TIok Tryz.prog 87 ⟨0, 1, 8, [.nilFunc], [], 0, 0⟩ := ⟨by kernel_rfl, by kernel_rfl, by kernel_rfl⟩
theorem k88 : TIok Tryz.prog 88 ⟨0, 1, 8, [.nilFunc], [], 0, 0⟩ := ⟨by kernel_rfl, by kernel_rfl, by kernel_rfl⟩
theorem k89 : TIok Tryz.prog 89 ⟨0, 1, 8, [.nilFunc], [], 0, 0⟩ := ⟨by kernel_rfl, by kernel_rfl, by kernel_rfl⟩
theorem k90 : TIok Tryz.prog 90 ⟨0, 1, 8, [.nilFunc], [], 0, 0⟩ := ⟨by kernel_rfl, by kernel_rfl, by kernel_rfl⟩
theorem k91 : TIok Tryz.prog 91 ⟨0, 1, 8, [.nilFunc], [], 0, 0⟩ := ⟨by kernel_rfl, by kernel_rfl, by kernel_rfl⟩
theorem k92 : TIok Tryz.prog 92 ⟨3, 1, 24, [.slice none 0 0], [], 141, 0⟩ := ⟨by kernel_rfl, by kernel_rfl, by kernel_rfl⟩
theorem k93 : TIok Tryz.prog 93 ⟨0, 1, 8, [.nilFunc], [], 0, 0⟩ := ⟨by kernel_rfl, by kernel_rfl, by kernel_rfl⟩
theorem k94 : TIok Tryz.prog 94 ⟨0, 1, 8, [.nilFunc], [], 0, 0⟩ := ⟨by kernel_rfl, by kernel_rfl, by kernel_rfl⟩
theorem k95 : TIok Tryz.prog 95 ⟨1, 3, 24, [.int .i64 0, .int .i64 0, .int .i64 0], [(0, 1, false), (1, 1, false), (2, 1, false)], 0, 0⟩ := ⟨by kernel_rfl, by kernel_rfl, by kernel_rfl⟩
theorem k96 : TIok Tryz.prog 96 ⟨1, 3, 24, [.int .i64 0, .int .i64 0, .int .i64 0], [(0, 1, false), (1, 1, false), (2, 1, false)], 0, 0⟩ := ⟨by kernel_rfl, by kernel_rfl, by kernel_rfl⟩
theorem k97 : TIok Tryz.prog 97 ⟨0, 1, 8, [.nilFunc], [], 0, 0⟩ := ⟨by kernel_rfl, by kernel_rfl, by kernel_rfl⟩
theorem k98 : TIok Tryz.prog 98 ⟨0, 1, 8, [.nilFunc], [], 0, 0⟩ := ⟨by kernel_rfl, by kernel_rfl, by kernel_rfl⟩
theorem k99 : TIok Tryz.prog 99 ⟨0, 1, 8, [.nilFunc], [], 0, 0⟩ := ⟨by kernel_rfl, by kernel_rfl, by kernel_rfl⟩
theorem k100 : TIok Tryz.prog 100 ⟨0, 1, 8, [.nilFunc], [], 0, 0⟩ := ⟨by kernel_rfl, by kernel_rfl, by kernel_rfl⟩
theorem k101 : TIok Tryz.prog 101 ⟨0, 1, 8, [.nilFunc], [], 0, 0⟩ := ⟨by kernel_rfl, by kernel_rfl, by kernel_rfl⟩
theorem k102 : TIok Tryz.prog 102 ⟨0, 1, 8, [.nilFunc], [], 0, 0⟩ := ⟨by kernel_rfl, by kernel_rfl, by kernel_rfl⟩
theorem k103 : TIok Tryz.prog 103 ⟨5, 1, 8, [.map none], [], 0, 0⟩ := ⟨by kernel_rfl, by kernel_rfl, by kernel_rfl⟩
theorem k104 : TIok Tryz.prog 104 ⟨1, 8, 80, [.int .i64 0, .int .i64 0, .int .i64 0, .int .i64 0, .int .i64 0, .pointer none, .slice none 0 0, .map none], [(0, 5, true), (5, 1, false), (6, 1, false), (7, 1, false)], 0, 0⟩ := ⟨by kernel_rfl, by kernel_rfl, by kernel_rfl⟩
theorem k105 : TIok Tryz.prog 105 ⟨1, 8, 80, [.int .i64 0, .int .i64 0, .int .i64 0, .int .i64 0, .int .i64 0, .pointer none, .slice none 0 0, .map none], [(0, 5, true), (5, 1, false), (6, 1, false), (7, 1, false)], 0, 0⟩ := ⟨by kernel_rfl, by kernel_rfl, by kernel_rfl⟩
theorem k106 : TIok Tryz.prog 106 ⟨5, 1, 8, [.map none], [], 0, 0⟩ := ⟨by kernel_rfl, by kernel_rfl, by kernel_rfl⟩
theorem k107 : TIok Tryz.prog 107 ⟨1, 5, 32, [.int .i64 0, .int .u8 0, .bool false, .map none, .int .i64 0], [(0, 1, false), (1, 1, false), (2, 1, false), (3, 1, false), (4, 1, false)], 0, 0⟩ := ⟨by kernel_rfl, by kernel_rfl, by kernel_rfl⟩
theorem k108 : TIok Tryz.prog 108 ⟨1, 5, 32, [.int .i64 0, .int .u8 0, .bool false, .map none, .int .i64 0], [(0, 1, false), (1, 1, false), (2, 1, false), (3, 1, false), (4, 1, false)], 0, 0⟩ := ⟨by kernel_rfl, by kernel_rfl, by kernel_rfl⟩
theorem k109 : TIok Tryz.prog 109 ⟨0, 1, 8, [.nilFunc], [], 0, 0⟩ := ⟨by kernel_rfl, by kernel_rfl, by kernel_rfl⟩
theorem k110 : TIok Tryz.prog 110 ⟨1, 8, 96, [.pointer none, .int .i64 0, .int .i64 0, .int .i64 0, .int .i64 0, .slice none 0 0, .slice none 0 0, .bool false], [(0, 1, false), (1, 1, false), (2, 1, false), (3, 1, false), (4, 3, true), (7, 1, false)], 0, 0⟩ := ⟨by kernel_rfl, by kernel_rfl, by kernel_rfl⟩
theorem k111 : TIok Tryz.prog 111 ⟨1, 8, 96, [.pointer none, .int .i64 0, .int .i64 0, .int .i64 0, .int .i64 0, .slice none 0 0, .slice none 0 0, .bool false], [(0, 1, false), (1, 1, false), (2, 1, false), (3, 1, false), (4, 3, true), (7, 1, false)], 0, 0⟩ := ⟨by kernel_rfl, by kernel_rfl, by kernel_rfl⟩
theorem k112 : TIok Tryz.prog 112 ⟨0, 1, 8, [.nilFunc], [], 0, 0⟩ := ⟨by kernel_rfl, by kernel_rfl, by kernel_rfl⟩
theorem k113 : TIok Tryz.prog 113 ⟨0, 1, 8, [.nilFunc], [], 0, 0⟩ := ⟨by kernel_rfl, by kernel_rfl, by kernel_rfl⟩
theorem k114 : TIok Tryz.prog 114 ⟨0, 1, 8, [.nilFunc], [], 0, 0⟩ := ⟨by kernel_rfl, by kernel_rfl, by kernel_rfl⟩
theorem k115 : TIok Tryz.prog 115 ⟨0, 1, 8, [.nilFunc], [], 0, 0⟩ := ⟨by kernel_rfl, by kernel_rfl, by kernel_rfl⟩
theorem k116 : TIok Tryz.prog 116 ⟨0, 1, 8, [.nilFunc], [], 0, 0⟩ := ⟨by kernel_rfl, by kernel_rfl, by kernel_rfl⟩
theorem k117 : TIok Tryz.prog 117 ⟨0, 1, 8, [.nilFunc], [], 0, 0⟩ := ⟨by kernel_rfl, by kernel_rfl, by kernel_rfl⟩
theorem k118 : TIok Tryz.prog 118 ⟨0, 1, 8, [.nilFunc], [], 0, 0⟩ := ⟨by kernel_rfl, by kernel_rfl, by kernel_rfl⟩
theorem k119 : TIok Tryz.prog 119 ⟨0, 1, 8, [.nilFunc], [], 0, 0⟩ := ⟨by kernel_rfl, by kernel_rfl, by kernel_rfl⟩
theorem k120 : TIok Tryz.prog 120 ⟨0, 1, 8, [.nilFunc], [], 0, 0⟩ := ⟨by kernel_rfl, by kernel_rfl, by kernel_rfl⟩
theorem k121 : TIok Tryz.prog 121 ⟨0, 1, 8, [.nilFunc], [], 0, 0⟩ := ⟨by kernel_rfl, by kernel_rfl, by kernel_rfl⟩
theorem k122 : TIok Tryz.prog 122 ⟨0, 1, 8, [.nilFunc], [], 0, 0⟩ := ⟨by kernel_rfl, by kernel_rfl, by kernel_rfl⟩
theorem k123 : TIok Tryz.prog 123 ⟨1, 6, 80, [.int .i64 0, .int .i64 0, .int .i64 0, .slice none 0 0, .slice none 0 0, .bool false], [(0, 1, false), (1, 1, false), (2, 3, true), (5, 1, false)], 0, 0⟩ := ⟨by kernel_rfl, by kernel_rfl, by kernel_rfl⟩
theorem k124 : TIok Tryz.prog 124 ⟨1, 6, 80, [.int .i64 0, .int .i64 0, .int .i64 0, .slice none 0 0, .slice none 0 0, .bool false], [(0, 1, false), (1, 1, false), (2, 3, true), (5, 1, false)], 0, 0⟩ := ⟨by kernel_rfl, by kernel_rfl, by kernel_rfl⟩
theorem k125 : TIok Tryz.prog 125 ⟨0, 1, 8, [.nilFunc], [], 0, 0⟩ := ⟨by kernel_rfl, by kernel_rfl, by kernel_rfl⟩
theorem k126 : TIok Tryz.prog 126 ⟨1, 2, 24, [.string ⟨#[]⟩, .int .i64 0], [(0, 1, false), (1, 1, false)], 0, 0⟩ := ⟨by kernel_rfl, by kernel_rfl, by kernel_rfl⟩
theorem k127 : TIok Tryz.prog 127 ⟨1, 2, 24, [.string ⟨#[]⟩, .int .i64 0], [(0, 1, false), (1, 1, false)], 0, 0⟩ := ⟨by kernel_rfl, by kernel_rfl, by kernel_rfl⟩
theorem k128 : TIok Tryz.prog 128 ⟨0, 1, 8, [.nilFunc], [], 0, 0⟩ := ⟨by kernel_rfl, by kernel_rfl, by kernel_rfl⟩
theorem k129 : TIok Tryz.prog 129 ⟨0, 1, 8, [.nilFunc], [], 0, 0⟩ := ⟨by kernel_rfl, by kernel_rfl, by kernel_rfl⟩
theorem k130 : TIok Tryz.prog 130 ⟨2, 1, 8, [.int .i64 0], [], 3, 1⟩ := ⟨by kernel_rfl, by kernel_rfl, by kernel_rfl⟩
theorem k131 : TIok Tryz.prog 131 ⟨0, 1, 8, [.nilFunc], [], 0, 0⟩ := ⟨by kernel_rfl, by kernel_rfl, by kernel_rfl⟩
theorem k132 : TIok Tryz.prog 132 ⟨0, 1, 8, [.nilFunc], [], 0, 0⟩ := ⟨by kernel_rfl, by kernel_rfl, by kernel_rfl⟩
theorem k134 : TIok Tryz.prog 134 ⟨0, 1, 8, [.nilFunc], [], 0, 0⟩ := ⟨by kernel_rfl, by kernel_rfl, by kernel_rfl⟩
theorem k135 : TIok Tryz.prog 135 ⟨0, 1, 8, [.nilFunc], [], 0, 0⟩ := ⟨by kernel_rfl, by kernel_rfl, by kernel_rfl⟩
theorem k136 : TIok Tryz.prog 136 ⟨0, 1, 8, [.nilFunc], [], 0, 0⟩ := ⟨by kernel_rfl, by kernel_rfl, by kernel_rfl⟩
theorem k137 : TIok Tryz.prog 137 ⟨0, 1, 8, [.nilFunc], [], 0, 0⟩ := ⟨by kernel_rfl, by kernel_rfl, by kernel_rfl⟩
theorem k138 : TIok Tryz.prog 138 ⟨1, 3, 24, [.int .i64 0, .int .i64 0, .int .i64 0], [(0, 1, false), (1, 1, false), (2, 1, false)], 0, 0⟩ := ⟨by kernel_rfl, by kernel_rfl, by kernel_rfl⟩
theorem k139 : TIok Tryz.prog 139 ⟨1, 3, 24, [.int .i64 0, .int .i64 0, .int .i64 0], [(0, 1, false), (1, 1, false), (2, 1, false)], 0, 0⟩ := ⟨by kernel_rfl, by kernel_rfl, by kernel_rfl⟩
theorem k140 : TIok Tryz.prog 140 ⟨1, 4, 48, [.int .i64 0, .string ⟨#[]⟩, .string ⟨#[]⟩, .int .i64 0], [(0, 1, false), (1, 1, false), (2, 1, false), (3, 1, false)], 0, 0⟩ := ⟨by kernel_rfl, by kernel_rfl, by kernel_rfl⟩
theorem k141 : TIok Tryz.prog 141 ⟨1, 4, 48, [.int .i64 0, .string ⟨#[]⟩, .string ⟨#[]⟩, .int .i64 0], [(0, 1, false), (1, 1, false), (2, 1, false), (3, 1, false)], 0, 0⟩ := ⟨by kernel_rfl, by kernel_rfl, by kernel_rfl⟩
theorem k142 : TIok Tryz.prog 142 ⟨0, 1, 8, [.nilFunc], [], 0, 0⟩ := ⟨by kernel_rfl, by kernel_rfl, by kernel_rfl⟩
theorem k144 : TIok Tryz.prog 144 ⟨0, 1, 8, [.nilFunc], [], 0, 0⟩ := ⟨by kernel_rfl, by kernel_rfl, by kernel_rfl⟩
theorem k146 : TIok Tryz.prog 146 ⟨0, 1, 8, [.nilFunc], [], 0, 0⟩ := ⟨by kernel_rfl, by kernel_rfl, by kernel_rfl⟩
theorem k147 : TIok Tryz.prog 147 ⟨0, 1, 8, [.nilFunc], [], 0, 0⟩ := ⟨by kernel_rfl, by kernel_rfl, by kernel_rfl⟩
theorem k148 : TIok Tryz.prog 148 ⟨0, 1, 8, [.nilFunc], [], 0, 0⟩ := ⟨by kernel_rfl, by kernel_rfl, by kernel_rfl⟩
theorem k149 : TIok Tryz.prog 149 ⟨0, 1, 8, [.nilFunc], [], 0, 0⟩ := ⟨by kernel_rfl, by kernel_rfl, by kernel_rfl⟩
theorem k150 : TIok Tryz.prog 150 ⟨0, 1, 8, [.nilFunc], [], 0, 0⟩ := ⟨by kernel_rfl, by kernel_rfl, by kernel_rfl⟩
theorem k151 : TIok Tryz.prog 151 ⟨0, 1, 8, [.nilFunc], [], 0, 0⟩ := ⟨by kernel_rfl, by kernel_rfl, by kernel_rfl⟩
theorem k153 : TIok Tryz.prog 153 ⟨0, 1, 8, [.nilFunc], [], 0, 0⟩ := ⟨by kernel_rfl, by kernel_rfl, by kernel_rfl⟩
theorem k154 : TIok Tryz.prog 154 ⟨0, 1, 8, [.nilFunc], [], 0, 0⟩ := ⟨by kernel_rfl, by kernel_rfl, by kernel_rfl⟩
theorem k155 : TIok Tryz.prog 155 ⟨0, 1, 8, [.nilFunc], [], 0, 0⟩ := ⟨by kernel_rfl, by kernel_rfl, by kernel_rfl⟩
theorem k156 : TIok Tryz.prog 156 ⟨0, 1, 8, [.nilFunc], [], 0, 0⟩ := ⟨by kernel_rfl, by kernel_rfl, by kernel_rfl⟩
theorem k157 : TIok Tryz.prog 157 ⟨0, 1, 8, [.nilFunc], [], 0, 0⟩ := ⟨by kernel_rfl, by kernel_rfl, by kernel_rfl⟩
theorem k158 : TIok Tryz.prog 158 ⟨0, 1, 8, [.nilFunc], [], 0, 0⟩ := ⟨by kernel_rfl, by kernel_rfl, by kernel_rfl⟩
theorem k159 : TIok Tryz.prog 159 ⟨0, 1, 8, [.nilFunc], [], 0, 0⟩ := ⟨by kernel_rfl, by kernel_rfl, by kernel_rfl⟩
theorem k160 : TIok Tryz.prog 160 ⟨0, 1, 8, [.nilFunc], [], 0, 0⟩ := ⟨by kernel_rfl, by kernel_rfl, by kernel_rfl⟩
theorem k161 : TIok Tryz.prog 161 ⟨0, 1, 8, [.nilFunc], [], 0, 0⟩ := ⟨by kernel_rfl, by kernel_rfl, by kernel_rfl⟩
theorem k162 : TIok Tryz.prog 162 ⟨0, 1, 8, [.nilFunc], [], 0, 0⟩ := ⟨by kernel_rfl, by kernel_rfl, by kernel_rfl⟩
theorem k163 : TIok Tryz.prog 163 ⟨0, 1, 8, [.nilFunc], [], 0, 0⟩ := ⟨by kernel_rfl, by kernel_rfl, by kernel_rfl⟩
theorem k164 : TIok Tryz.prog 164 ⟨0, 1, 8, [.nilFunc], [], 0, 0⟩ := ⟨by kernel_rfl, by kernel_rfl, by kernel_rfl⟩
theorem k165 : TIok Tryz.prog 165 ⟨3, 1, 24, [.slice none 0 0], [], 57, 0⟩ := ⟨by kernel_rfl, by kernel_rfl, by kernel_rfl⟩
theorem k167 : TIok Tryz.prog 167 ⟨0, 1, 8, [.nilFunc], [], 0, 0⟩ := ⟨by kernel_rfl, by kernel_rfl, by kernel_rfl⟩
theorem k168 : TIok Tryz.prog 168 ⟨0, 1, 8, [.nilFunc], [], 0, 0⟩ := ⟨by kernel_rfl, by kernel_rfl, by kernel_rfl⟩
theorem k170 : TIok Tryz.prog 170 ⟨0, 1, 8, [.nilFunc], [], 0, 0⟩ := ⟨by kernel_rfl, by kernel_rfl, by kernel_rfl⟩
theorem k171 : TIok Tryz.prog 171 ⟨0, 1, 8, [.nilFunc], [], 0, 0⟩ := ⟨by kernel_rfl, by kernel_rfl, by kernel_rfl⟩
theorem k173 : TIok Tryz.prog 173 ⟨0, 1, 8, [.nilFunc], [], 0, 0⟩ := ⟨by kernel_rfl, by kernel_rfl, by kernel_rfl⟩
theorem k174 : TIok Tryz.prog 174 ⟨8, 1, 4, [.int .u32 0], [], 6, 0⟩ := ⟨by kernel_rfl, by kernel_rfl, by kernel_rfl⟩
theorem k175 : TIok Tryz.prog 175 ⟨0, 1, 8, [.nilFunc], [], 0, 0⟩ := ⟨by kernel_rfl, by kernel_rfl, by kernel_rfl⟩
theorem k177 : TIok Tryz.prog 177 ⟨0, 1, 8, [.nilFunc], [], 0, 0⟩ := ⟨by kernel_rfl, by kernel_rfl, by kernel_rfl⟩
theorem k179 : TIok Tryz.prog 179 ⟨0, 1, 8, [.nilFunc], [], 0, 0⟩ := ⟨by kernel_rfl, by kernel_rfl, by kernel_rfl⟩
theorem k180 : TIok Tryz.prog 180 ⟨0, 1, 8, [.nilFunc], [], 0, 0⟩ := ⟨by kernel_rfl, by kernel_rfl, by kernel_rfl⟩
theorem k181 : TIok Tryz.prog 181 ⟨0, 1, 8, [.nilFunc], [], 0, 0⟩ := ⟨by kernel_rfl, by kernel_rfl, by kernel_rfl⟩
theorem k182 : TIok Tryz.prog 182 ⟨0, 1, 8, [.nilFunc], [], 0, 0⟩ := ⟨by kernel_rfl, by kernel_rfl, by kernel_rfl⟩
theorem k183 : TIok Tryz.prog 183 ⟨0, 1, 8, [.nilFunc], [], 0, 0⟩ := ⟨by kernel_rfl, by kernel_rfl, by kernel_rfl⟩
theorem k184 : TIok Tryz.prog 184 ⟨3, 1, 24, [.slice none 0 0], [], 9, 0⟩ := ⟨by kernel_rfl, by kernel_rfl, by kernel_rfl⟩
theorem k186 : TIok Tryz.prog 186 ⟨0, 1, 8, [.nilFunc], [], 0, 0⟩ := ⟨by kernel_rfl, by kernel_rfl, by kernel_rfl⟩
theorem k187 : TIok Tryz.prog 187 ⟨0, 1, 8, [.nilFunc], [], 0, 0⟩ := ⟨by kernel_rfl, by kernel_rfl, by kernel_rfl⟩
theorem k188 : TIok Tryz.prog 188 ⟨0, 1, 8, [.nilFunc], [], 0, 0⟩ := ⟨by kernel_rfl, by kernel_rfl, by kernel_rfl⟩
theorem k189 : TIok Tryz.prog 189 ⟨0, 1, 8, [.nilFunc], [], 0, 0⟩ := ⟨by kernel_rfl, by kernel_rfl, by kernel_rfl⟩
theorem k190 : TIok Tryz.prog 190 ⟨0, 1, 8, [.nilFunc], [], 0, 0⟩ := ⟨by kernel_rfl, by kernel_rfl, by kernel_rfl⟩
theorem k192 : TIok Tryz.prog 192 ⟨0, 1, 8, [.nilFunc], [], 0, 0⟩ := ⟨by kernel_rfl, by kernel_rfl, by kernel_rfl⟩
theorem k194 : TIok Tryz.prog 194 ⟨0, 1, 8, [.nilFunc], [], 0, 0⟩ := ⟨by kernel_rfl, by kernel_rfl, by kernel_rfl⟩
theorem k195 : TIok Tryz.prog 195 ⟨0, 1, 8, [.nilFunc], [], 0, 0⟩ := ⟨by kernel_rfl, by kernel_rfl, by kernel_rfl⟩
theorem k196 : TIok Tryz.prog 196 ⟨0, 1, 8, [.nilFunc], [], 0, 0⟩ := ⟨by kernel_rfl, by kernel_rfl, by kernel_rfl⟩
theorem k197 : TIok Tryz.prog 197 ⟨2, 4, 32, [.int .i64 0, .int .i64 0, .int .i64 0, .int .i64 0], [], 3, 4⟩ := ⟨by kernel_rfl, by kernel_rfl, by kernel_rfl⟩
theorem k198 : TIok Tryz.prog 198 ⟨0, 1, 8, [.nilFunc], [], 0, 0⟩ := ⟨by kernel_rfl, by kernel_rfl, by kernel_rfl⟩
theorem k199 : TIok Tryz.prog 199 ⟨0, 1, 8, [.nilFunc], [], 0, 0⟩ := ⟨by kernel_rfl, by kernel_rfl, by kernel_rfl⟩
theorem k200 : TIok Tryz.prog 200 ⟨0, 1, 8, [.nilFunc], [], 0, 0⟩ := ⟨by kernel_rfl, by kernel_rfl, by kernel_rfl⟩
theorem k201 : TIok Tryz.prog 201 ⟨0, 1, 8, [.nilFunc], [], 0, 0⟩ := ⟨by kernel_rfl, by kernel_rfl, by kernel_rfl⟩
theorem k202 : TIok Tryz.prog 202 ⟨0, 1, 8, [.nilFunc], [], 0, 0⟩ := ⟨by kernel_rfl, by kernel_rfl, by kernel_rfl⟩
theorem k203 : TIok Tryz.prog 203 ⟨0, 1, 8, [.nilFunc], [], 0, 0⟩ := ⟨by kernel_rfl, by kernel_rfl, by kernel_rfl⟩
theorem k204 : TIok Tryz.prog 204 ⟨0, 1, 8, [.nilFunc], [], 0, 0⟩ := ⟨by kernel_rfl, by kernel_rfl, by kernel_rfl⟩
theorem k205 : TIok Tryz.prog 205 ⟨0, 1, 8, [.nilFunc], [], 0, 0⟩ := ⟨by kernel_rfl, by kernel_rfl, by kernel_rfl⟩
theorem k206 : TIok Tryz.prog 206 ⟨0, 1, 8, [.nilFunc], [], 0, 0⟩ := ⟨by kernel_rfl, by kernel_rfl, by kernel_rfl⟩
theorem k207 : TIok Tryz.prog 207 ⟨0, 1, 8, [.nilFunc], [], 0, 0⟩ := ⟨by kernel_rfl, by kernel_rfl, by kernel_rfl⟩
theorem k208 : TIok Tryz.prog 208 ⟨0, 1, 8, [.nilFunc], [], 0, 0⟩ := ⟨by kernel_rfl, by kernel_rfl, by kernel_rfl⟩
theorem k210 : TIok Tryz.prog 210 ⟨0, 1, 8, [.nilFunc], [], 0, 0⟩ := ⟨by kernel_rfl, by kernel_rfl, by kernel_rfl⟩
theorem k211 : TIok Tryz.prog 211 ⟨0, 1, 8, [.nilFunc], [], 0, 0⟩ := ⟨by kernel_rfl, by kernel_rfl, by kernel_rfl⟩
theorem k212 : TIok Tryz.prog 212 ⟨6, 1, 8, [.pointer none], [], 214, 0⟩ := ⟨by kernel_rfl, by kernel_rfl, by kernel_rfl⟩
theorem k213 : TIok Tryz.prog 213 ⟨1, 3, 40, [.slice none 0 0, .int .i64 0, .int .i64 0], [(0, 1, false), (1, 1, false), (2, 1, false)], 0, 0⟩ := ⟨by kernel_rfl, by kernel_rfl, by kernel_rfl⟩
theorem k214 : TIok Tryz.prog 214 ⟨1, 3, 40, [.slice none 0 0, .int .i64 0, .int .i64 0], [(0, 1, false), (1, 1, false), (2, 1, false)], 0, 0⟩ := ⟨by kernel_rfl, by kernel_rfl, by kernel_rfl⟩
theorem k215 : TIok Tryz.prog 215 ⟨0, 1, 8, [.nilFunc], [], 0, 0⟩ := ⟨by kernel_rfl, by kernel_rfl, by kernel_rfl⟩
theorem k216 : TIok Tryz.prog 216 ⟨0, 1, 8, [.nilFunc], [], 0, 0⟩ := ⟨by kernel_rfl, by kernel_rfl, by kernel_rfl⟩
theorem k217 : TIok Tryz.prog 217 ⟨6, 1, 8, [.pointer none], [], 219, 0⟩ := ⟨by kernel_rfl, by kernel_rfl, by kernel_rfl⟩
theorem k218 : TIok Tryz.prog 218 ⟨1, 3, 40, [.slice none 0 0, .int .i64 0, .bool false], [(0, 1, false), (1, 1, false), (2, 1, false)], 0, 0⟩ := ⟨by kernel_rfl, by kernel_rfl, by kernel_rfl⟩
theorem k219 : TIok Tryz.prog 219 ⟨1, 3, 40, [.slice none 0 0, .int .i64 0, .bool false], [(0, 1, false), (1, 1, false), (2, 1, false)], 0, 0⟩ := ⟨by kernel_rfl, by kernel_rfl, by kernel_rfl⟩
theorem k220 : TIok Tryz.prog 220 ⟨0, 1, 8, [.nilFunc], [], 0, 0⟩ := ⟨by kernel_rfl, by kernel_rfl, by kernel_rfl⟩
theorem k222 : TIok Tryz.prog 222 ⟨0, 1, 8, [.nilFunc], [], 0, 0⟩ := ⟨by kernel_rfl, by kernel_rfl, by kernel_rfl⟩
theorem k223 : TIok Tryz.prog 223 ⟨0, 1, 8, [.nilFunc], [], 0, 0⟩ := ⟨by kernel_rfl, by kernel_rfl, by kernel_rfl⟩
theorem k225 : TIok Tryz.prog 225 ⟨0, 1, 8, [.nilFunc], [], 0, 0⟩ := ⟨by kernel_rfl, by kernel_rfl, by kernel_rfl⟩
theorem k227 : TIok Tryz.prog 227 ⟨0, 1, 8, [.nilFunc], [], 0, 0⟩ := ⟨by kernel_rfl, by kernel_rfl, by kernel_rfl⟩
theorem k229 : TIok Tryz.prog 229 ⟨0, 1, 8, [.nilFunc], [], 0, 0⟩ := ⟨by kernel_rfl, by kernel_rfl, by kernel_rfl⟩
theorem k230 : TIok Tryz.prog 230 ⟨0, 1, 8, [.nilFunc], [], 0, 0⟩ := ⟨by kernel_rfl, by kernel_rfl, by kernel_rfl⟩
theorem k232 : TIok Tryz.prog 232 ⟨0, 1, 8, [.nilFunc], [], 0, 0⟩ := ⟨by kernel_rfl, by kernel_rfl, by kernel_rfl⟩
theorem k233 : TIok Tryz.prog 233 ⟨0, 1, 8, [.nilFunc], [], 0, 0⟩ := ⟨by kernel_rfl, by kernel_rfl, by kernel_rfl⟩
theorem k234 : TIok Tryz.prog 234 ⟨0, 1, 8, [.nilFunc], [], 0, 0⟩ := ⟨by kernel_rfl, by kernel_rfl, by kernel_rfl⟩
theorem k235 : TIok Tryz.prog 235 ⟨0, 1, 8, [.nilFunc], [], 0, 0⟩ := ⟨by kernel_rfl, by kernel_rfl, by kernel_rfl⟩
theorem k236 : TIok Tryz.prog 236 ⟨0, 1, 8, [.nilFunc], [], 0, 0⟩ := ⟨by kernel_rfl, by kernel_rfl, by kernel_rfl⟩
theorem k237 : TIok Tryz.prog 237 ⟨6, 1, 8, [.pointer none], [], 239, 0⟩ := ⟨by kernel_rfl, by kernel_rfl, by kernel_rfl⟩
theorem k238 : TIok Tryz.prog 238 ⟨1, 6, 96, [.int .i64 0, .slice none 0 0, .slice none 0 0, .slice none 0 0, .int .i64 0, .int .i64 0], [(0, 3, true), (3, 1, false), (4, 1, false), (5, 1, false)], 0, 0⟩ := ⟨by kernel_rfl, by kernel_rfl, by kernel_rfl⟩
theorem k239 : TIok Tryz.prog 239 ⟨1, 6, 96, [.int .i64 0, .slice none 0 0, .slice none 0 0, .slice none 0 0, .int .i64 0, .int .i64 0], [(0, 3, true), (3, 1, false), (4, 1, false), (5, 1, false)], 0, 0⟩ := ⟨by kernel_rfl, by kernel_rfl, by kernel_rfl⟩
theorem k240 : TIok Tryz.prog 240 ⟨0, 1, 8, [.nilFunc], [], 0, 0⟩ := ⟨by kernel_rfl, by kernel_rfl, by kernel_rfl⟩
theorem k241 : TIok Tryz.prog 241 ⟨0, 1, 8, [.nilFunc], [], 0, 0⟩ := ⟨by kernel_rfl, by kernel_rfl, by kernel_rfl⟩
theorem k242 : TIok Tryz.prog 242 ⟨0, 1, 8, [.nilFunc], [], 0, 0⟩ := ⟨by kernel_rfl, by kernel_rfl, by kernel_rfl⟩
theorem k243 : TIok Tryz.prog 243 ⟨0, 1, 8, [.nilFunc], [], 0, 0⟩ := ⟨by kernel_rfl, by kernel_rfl, by kernel_rfl⟩
theorem k244 : TIok Tryz.prog 244 ⟨0, 1, 8, [.nilFunc], [], 0, 0⟩ := ⟨by kernel_rfl, by kernel_rfl, by kernel_rfl⟩
theorem k245 : TIok Tryz.prog 245 ⟨0, 1, 8, [.nilFunc], [], 0, 0⟩ := ⟨by kernel_rfl, by kernel_rfl, by kernel_rfl⟩
theorem k246 : TIok Tryz.prog 246 ⟨0, 1, 8, [.nilFunc], [], 0, 0⟩ := ⟨by kernel_rfl, by kernel_rfl, by kernel_rfl⟩
theorem k247 : TIok Tryz.prog 247 ⟨0, 1, 8, [.nilFunc], [], 0, 0⟩ := ⟨by kernel_rfl, by kernel_rfl, by kernel_rfl⟩
theorem k248 : TIok Tryz.prog 248 ⟨0, 1, 8, [.nilFunc], [], 0, 0⟩ := ⟨by kernel_rfl, by kernel_rfl, by kernel_rfl⟩
theorem k249 : TIok Tryz.prog 249 ⟨0, 1, 8, [.nilFunc], [], 0, 0⟩ := ⟨by kernel_rfl, by kernel_rfl, by kernel_rfl⟩
theorem k250 : TIok Tryz.prog 250 ⟨0, 1, 8, [.nilFunc], [], 0, 0⟩ := ⟨by kernel_rfl, by kernel_rfl, by kernel_rfl⟩
theorem k251 : TIok Tryz.prog 251 ⟨0, 1, 8, [.nilFunc], [], 0, 0⟩ := ⟨by kernel_rfl, by kernel_rfl, by kernel_rfl⟩
theorem k252 : TIok Tryz.prog 252 ⟨0, 1, 8, [.nilFunc], [], 0, 0⟩ := ⟨by kernel_rfl, by kernel_rfl, by kernel_rfl⟩
theorem k253 : TIok Tryz.prog 253 ⟨0, 1, 8, [.nilFunc], [], 0, 0⟩ := ⟨by kernel_rfl, by kernel_rfl, by kernel_rfl⟩
theorem k254 : TIok Tryz.prog 254 ⟨6, 1, 8, [.pointer none], [], 3, 0⟩ := ⟨by kernel_rfl, by kernel_rfl, by kernel_rfl⟩
theorem k255 : TIok Tryz.prog 255 ⟨2, 4, 32, [.pointer none, .pointer none, .pointer none, .pointer none], [], 254, 4⟩ := ⟨by kernel_rfl, by kernel_rfl, by kernel_rfl⟩
theorem k256 : TIok Tryz.prog 256 ⟨2, 3, 24, [.int .i64 0, .int .i64 0, .int .i64 0], [], 3, 3⟩ := ⟨by kernel_rfl, by kernel_rfl, by kernel_rfl⟩
theorem k258 : TIok Tryz.prog 258 ⟨0, 1, 8, [.nilFunc], [], 0, 0⟩ := ⟨by kernel_rfl, by kernel_rfl, by kernel_rfl⟩
theorem k259 : TIok Tryz.prog 259 ⟨0, 1, 8, [.nilFunc], [], 0, 0⟩ := ⟨by kernel_rfl, by kernel_rfl, by kernel_rfl⟩
theorem k260 : TIok Tryz.prog 260 ⟨0, 1, 8, [.nilFunc], [], 0, 0⟩ := ⟨by kernel_rfl, by kernel_rfl, by kernel_rfl⟩
theorem k261 : TIok Tryz.prog 261 ⟨0, 1, 8, [.nilFunc], [], 0, 0⟩ := ⟨by kernel_rfl, by kernel_rfl, by kernel_rfl⟩
theorem k262 : TIok Tryz.prog 262 ⟨1, 4, 40, [.pointer none, .pointer none, .pointer none, .string ⟨#[]⟩], [(0, 1, false), (1, 1, false), (2, 1, false), (3, 1, false)], 0, 0⟩ := ⟨by kernel_rfl, by kernel_rfl, by kernel_rfl⟩
theorem k263 : TIok Tryz.prog 263 ⟨1, 4, 40, [.pointer none, .pointer none, .pointer none, .string ⟨#[]⟩], [(0, 1, false), (1, 1, false), (2, 1, false), (3, 1, false)], 0, 0⟩ := ⟨by kernel_rfl, by kernel_rfl, by kernel_rfl⟩
theorem k264 : TIok Tryz.prog 264 ⟨2, 0, 0, [], [], 16, 0⟩ := ⟨by kernel_rfl, by kernel_rfl, by kernel_rfl⟩
theorem k265 : TIok Tryz.prog 265 ⟨1, 0, 0, [], [(0, 0, true)], 0, 0⟩ := ⟨by kernel_rfl, by kernel_rfl, by kernel_rfl⟩
theorem k266 : TIok Tryz.prog 266 ⟨1, 0, 0, [], [(0, 0, true)], 0, 0⟩ := ⟨by kernel_rfl, by kernel_rfl, by kernel_rfl⟩
theorem k267 : TIok Tryz.prog 267 ⟨8, 1, 1, [.int .u8 0], [], 4, 0⟩ := ⟨by kernel_rfl, by kernel_rfl, by kernel_rfl⟩
theorem k268 : TIok Tryz.prog 268 ⟨8, 1, 1, [.int .u8 0], [], 4, 0⟩ := ⟨by kernel_rfl, by kernel_rfl, by kernel_rfl⟩
theorem k269 : TIok Tryz.prog 269 ⟨0, 1, 8, [.nilFunc], [], 0, 0⟩ := ⟨by kernel_rfl, by kernel_rfl, by kernel_rfl⟩
theorem k270 : TIok Tryz.prog 270 ⟨6, 1, 8, [.pointer none], [], 5, 0⟩ := ⟨by kernel_rfl, by kernel_rfl, by kernel_rfl⟩
theorem k271 : TIok Tryz.prog 271 ⟨8, 1, 4, [.int .i32 0], [], 2, 0⟩ := ⟨by kernel_rfl, by kernel_rfl, by kernel_rfl⟩
theorem k272 : TIok Tryz.prog 272 ⟨8, 1, 4, [.int .i32 0], [], 2, 0⟩ := ⟨by kernel_rfl, by kernel_rfl, by kernel_rfl⟩
theorem k273 : TIok Tryz.prog 273 ⟨1, 11, 48, [.int .u64 0, .int .u64 0, .int .u32 0, .int .u8 0, .int .u8 0, .int .u8 0, .int .u8 0, .nilFunc, .pointer none, .int .i32 0, .int .i32 0], [(0, 1, false), (1, 1, false), (2, 1, false), (3, 1, false), (4, 1, false), (5, 1, false), (6, 1, false), (7, 1, false), (8, 1, false), (9, 1, false), (10, 1, false)], 0, 0⟩ := ⟨by kernel_rfl, by kernel_rfl, by kernel_rfl⟩
theorem k274 : TIok Tryz.prog 274 ⟨1, 11, 48, [.int .u64 0, .int .u64 0, .int .u32 0, .int .u8 0, .int .u8 0, .int .u8 0, .int .u8 0, .nilFunc, .pointer none, .int .i32 0, .int .i32 0], [(0, 1, false), (1, 1, false), (2, 1, false), (3, 1, false), (4, 1, false), (5, 1, false), (6, 1, false), (7, 1, false), (8, 1, false), (9, 1, false), (10, 1, false)], 0, 0⟩ := ⟨by kernel_rfl, by kernel_rfl, by kernel_rfl⟩
theorem k275 : TIok Tryz.prog 275 ⟨1, 1, 8, [.int .i64 0], [(0, 1, false)], 0, 0⟩ := ⟨by kernel_rfl, by kernel_rfl, by kernel_rfl⟩
theorem k276 : TIok Tryz.prog 276 ⟨1, 1, 8, [.int .i64 0], [(0, 1, false)], 0, 0⟩ := ⟨by kernel_rfl, by kernel_rfl, by kernel_rfl⟩
def tys : Ty := (.b (.b (.b (.b (.b (.b (.b (.b .n 1 ⟨0, 1, 8, [.nilFunc], [], 0, 0⟩ .n) 2 ⟨8, 1, 8, [.int .i64 0], [], 3, 0⟩ (.b .n 3 ⟨8, 1, 8, [.int .i64 0], [], 3, 0⟩ .n)) 4 ⟨7, 1, 1, [.bool false], [], 0, 0⟩ (.b (.b .n 5 ⟨8, 1, 1, [.int .u8 0], [], 4, 0⟩ .n) 6 ⟨8, 1, 1, [.int .u8 0], [], 4, 0⟩ (.b .n 7 ⟨1, 4, 24, [.int .i64 0, .int .i64 0, .bool false, .int .u8 0], [(0, 1, false), (1, 1, false), (2, 1, false), (3, 1, false)], 0, 0⟩ .n))) 8 ⟨1, 4, 24, [.int .i64 0, .int .i64 0, .bool false, .int .u8 0], [(0, 1, false), (1, 1, false), (2, 1, false), (3, 1, false)], 0, 0⟩ (.b (.b (.b .n 9 ⟨4, 1, 16, [.string ⟨#[]⟩], [], 0, 0⟩ .n) 10 ⟨4, 1, 16, [.string ⟨#[]⟩], [], 0, 0⟩ (.b .n 11 ⟨4, 1, 16, [.string ⟨#[]⟩], [], 0, 0⟩ .n)) 12 ⟨8, 1, 8, [.int .u64 0], [], 7, 0⟩ (.b (.b .n 13 ⟨1, 2, 24, [.string ⟨#[]⟩, .int .u64 0], [(0, 1, false), (1, 1, false)], 0, 0⟩ .n) 14 ⟨1, 2, 24, [.string ⟨#[]⟩, .int .u64 0], [(0, 1, false), (1, 1, false)], 0, 0⟩ (.b .n 15 ⟨6, 1, 8, [.pointer none], [], 263, 0⟩ .n)))) 16 ⟨6, 1, 8, [.pointer none], [], 266, 0⟩ (.b (.b (.b (.b .n 17 ⟨6, 1, 8, [.pointer none], [], 274, 0⟩ .n) 18 ⟨1, 1, 8, [.pointer none], [(0, 1, false)], 0, 0⟩ (.b .n 19 ⟨1, 1, 8, [.pointer none], [(0, 1, false)], 0, 0⟩ .n)) 21 ⟨8, 1, 4, [.int .i32 0], [], 2, 0⟩ (.b (.b .n 22 ⟨1, 5, 40, [.int .i64 0, .int .i64 0, .int .i64 0, .int .i64 0, .int .i64 0], [(0, 1, false), (1, 1, false), (2, 1, false), (3, 1, false), (4, 1, false)], 0, 0⟩ .n) 23 ⟨1, 5, 40, [.int .i64 0, .int .i64 0, .int .i64 0, .int .i64 0, .int .i64 0], [(0, 1, false), (1, 1, false), (2, 1, false), (3, 1, false), (4, 1, false)], 0, 0⟩ (.b .n 24 ⟨0, 1, 8, [.nilFunc], [], 0, 0⟩ .n))) 25 ⟨6, 1, 8, [.pointer none], [], 105, 0⟩ (.b (.b (.b .n 26 ⟨8, 1, 8, [.int .i64 0], [], 3, 0⟩ .n) 28 ⟨0, 1, 8, [.nilFunc], [], 0, 0⟩ (.b .n 29 ⟨6, 1, 8, [.pointer none], [], 108, 0⟩ .n)) 30 ⟨0, 1, 8, [.nilFunc], [], 0, 0⟩ (.b (.b .n 31 ⟨0, 1, 8, [.nilFunc], [], 0, 0⟩ .n) 32 ⟨6, 1, 8, [.pointer none], [], 111, 0⟩ (.b .n 34 ⟨0, 1, 8, [.nilFunc], [], 0, 0⟩ .n))))) 35 ⟨8, 1, 8, [.int .u64 0], [], 7, 0⟩ (.b (.b (.b (.b (.b .n 36 ⟨3, 1, 24, [.slice none 0 0], [], 44, 0⟩ .n) 37 ⟨3, 1, 24, [.slice none 0 0], [], 3, 0⟩ (.b .n 38 ⟨1, 3, 56, [.int .i64 0, .slice none 0 0, .slice none 0 0], [(0, 1, false), (1, 1, false), (2, 1, false)], 0, 0⟩ .n)) 39 ⟨1, 3, 56, [.int .i64 0, .slice none 0 0, .slice none 0 0], [(0, 1, false), (1, 1, false), (2, 1, false)], 0, 0⟩ (.b (.b .n 40 ⟨0, 1, 8, [.nilFunc], [], 0, 0⟩ .n) 41 ⟨3, 1, 24, [.slice none 0 0], [], 127, 0⟩ (.b .n 42 ⟨3, 1, 24, [.slice none 0 0], [], 139, 0⟩ .n))) 43 ⟨1, 7, 96, [.int .i64 0, .int .i64 0, .int .i64 0, .int .i64 0, .string ⟨#[]⟩, .slice none 0 0, .slice none 0 0], [(0, 1, false), (1, 1, false), (2, 1, false), (3, 1, false), (4, 1, false), (5, 1, false), (6, 1, false)], 0, 0⟩ (.b (.b (.b .n 44 ⟨1, 7, 96, [.int .i64 0, .int .i64 0, .int .i64 0, .int .i64 0, .string ⟨#[]⟩, .slice none 0 0, .slice none 0 0], [(0, 1, false), (1, 1, false), (2, 1, false), (3, 1, false), (4, 1, false), (5, 1, false), (6, 1, false)], 0, 0⟩ .n) 45 ⟨1, 9, 112, [.int .i64 0, .int .i64 0, .int .i64 0, .int .i64 0, .int .i64 0, .int .i64 0, .string ⟨#[]⟩, .slice none 0 0, .slice none 0 0], [(0, 1, false), (1, 1, false), (2, 7, true)], 0, 0⟩ (.b .n 46 ⟨1, 9, 112, [.int .i64 0, .int .i64 0, .int .i64 0, .int .i64 0, .int .i64 0, .int .i64 0, .string ⟨#[]⟩, .slice none 0 0, .slice none 0 0], [(0, 1, false), (1, 1, false), (2, 7, true)], 0, 0⟩ .n)) 47 ⟨3, 1, 24, [.slice none 0 0], [], 46, 0⟩ (.b (.b .n 48 ⟨0, 1, 8, [.nilFunc], [], 0, 0⟩ .n) 49 ⟨0, 1, 8, [.nilFunc], [], 0, 0⟩ (.b .n 50 ⟨0, 1, 8, [.nilFunc], [], 0, 0⟩ .n)))) 51 ⟨0, 1, 8, [.nilFunc], [], 0, 0⟩ (.b (.b (.b (.b .n 52 ⟨0, 1, 8, [.nilFunc], [], 0, 0⟩ .n) 53 ⟨3, 1, 24, [.slice none 0 0], [], 47, 0⟩ (.b .n 54 ⟨0, 1, 8, [.nilFunc], [], 0, 0⟩ .n)) 55 ⟨0, 1, 8, [.nilFunc], [], 0, 0⟩ (.b (.b .n 56 ⟨0, 1, 8, [.nilFunc], [], 0, 0⟩ .n) 57 ⟨3, 1, 24, [.slice none 0 0], [], 5, 0⟩ (.b .n 59 ⟨0, 1, 8, [.nilFunc], [], 0, 0⟩ .n))) 60 ⟨0, 1, 8, [.nilFunc], [], 0, 0⟩ (.b (.b (.b .n 61 ⟨0, 1, 8, [.nilFunc], [], 0, 0⟩ .n) 62 ⟨0, 1, 8, [.nilFunc], [], 0, 0⟩ (.b .n 63 ⟨0, 1, 8, [.nilFunc], [], 0, 0⟩ .n)) 64 ⟨0, 1, 8, [.nilFunc], [], 0, 0⟩ (.b (.b .n 65 ⟨0, 1, 8, [.nilFunc], [], 0, 0⟩ .n) 66 ⟨0, 1, 8, [.nilFunc], [], 0, 0⟩ .n))))) 67 ⟨3, 1, 24, [.slice none 0 0], [], 77, 0⟩ (.b (.b (.b (.b (.b (.b .n 68 ⟨6, 1, 8, [.pointer none], [], 79, 0⟩ .n) 69 ⟨0, 1, 8, [.nilFunc], [], 0, 0⟩ (.b .n 70 ⟨6, 1, 8, [.pointer none], [], 81, 0⟩ .n)) 72 ⟨0, 1, 8, [.nilFunc], [], 0, 0⟩ (.b (.b .n 73 ⟨6, 1, 8, [.pointer none], [], 83, 0⟩ .n) 75 ⟨0, 1, 8, [.nilFunc], [], 0, 0⟩ (.b .n 76 ⟨1, 4, 48, [.int .i64 0, .int .i64 0, .int .u8 0, .slice none 0 0], [(0, 1, false), (1, 1, false), (2, 1, false), (3, 1, false)], 0, 0⟩ .n))) 77 ⟨1, 4, 48, [.int .i64 0, .int .i64 0, .int .u8 0, .slice none 0 0], [(0, 1, false), (1, 1, false), (2, 1, false), (3, 1, false)], 0, 0⟩ (.b (.b (.b .n 78 ⟨1, 5, 56, [.bool false, .int .i64 0, .int .u8 0, .int .i64 0, .slice none 0 0], [(0, 1, false), (1, 1, false), (2, 1, false), (3, 1, false), (4, 1, false)], 0, 0⟩ .n) 79 ⟨1, 5, 56, [.bool false, .int .i64 0, .int .u8 0, .int .i64 0, .slice none 0 0], [(0, 1, false), (1, 1, false), (2, 1, false), (3, 1, false), (4, 1, false)], 0, 0⟩ (.b .n 80 ⟨1, 8, 96, [.int .i64 0, .int .i64 0, .int .i64 0, .int .i64 0, .int .i64 0, .pointer none, .slice none 0 0, .slice none 0 0], [(0, 5, true), (5, 1, false), (6, 1, false), (7, 1, false)], 0, 0⟩ .n)) 81 ⟨1, 8, 96, [.int .i64 0, .int .i64 0, .int .i64 0, .int .i64 0, .int .i64 0, .pointer none, .slice none 0 0, .slice none 0 0], [(0, 5, true), (5, 1, false), (6, 1, false), (7, 1, false)], 0, 0⟩ (.b (.b .n 82 ⟨1, 8, 96, [.pointer none, .int .i64 0, .slice none 0 0, .slice none 0 0, .int .i64 0, .int .i64 0, .int .i64 0, .bool false], [(0, 1, false), (1, 3, true), (4, 1, false), (5, 1, false), (6, 1, false), (7, 1, false)], 0, 0⟩ .n) 83 ⟨1, 8, 96, [.pointer none, .int .i64 0, .slice none 0 0, .slice none 0 0, .int .i64 0, .int .i64 0, .int .i64 0, .bool false], [(0, 1, false), (1, 3, true), (4, 1, false), (5, 1, false), (6, 1, false), (7, 1, false)], 0, 0⟩ (.b .n 84 ⟨0, 1, 8, [.nilFunc], [], 0, 0⟩ .n)))) 85 ⟨0, 1, 8, [.nilFunc], [], 0, 0⟩ (.b (.b (.b (.b .n 86 ⟨8, 1, 8, [.int .u64 0], [], 7, 0⟩ .n) 87 ⟨0, 1, 8, [.nilFunc], [], 0, 0⟩ (.b .n 88 ⟨0, 1, 8, [.nilFunc], [], 0, 0⟩ .n)) 89 ⟨0, 1, 8, [.nilFunc], [], 0, 0⟩ (.b (.b .n 90 ⟨0, 1, 8, [.nilFunc], [], 0, 0⟩ .n) 91 ⟨0, 1, 8, [.nilFunc], [], 0, 0⟩ (.b .n 92 ⟨3, 1, 24, [.slice none 0 0], [], 141, 0⟩ .n))) 93 ⟨0, 1, 8, [.nilFunc], [], 0, 0⟩ (.b (.b (.b .n 94 ⟨0, 1, 8, [.nilFunc], [], 0, 0⟩ .n) 95 ⟨1, 3, 24, [.int .i64 0, .int .i64 0, .int .i64 0], [(0, 1, false), (1, 1, false), (2, 1, false)], 0, 0⟩ (.b .n 96 ⟨1, 3, 24, [.int .i64 0, .int .i64 0, .int .i64 0], [(0, 1, false), (1, 1, false), (2, 1, false)], 0, 0⟩ .n)) 97 ⟨0, 1, 8, [.nilFunc], [], 0, 0⟩ (.b (.b .n 98 ⟨0, 1, 8, [.nilFunc], [], 0, 0⟩ .n) 99 ⟨0, 1, 8, [.nilFunc], [], 0, 0⟩ (.b .n 100 ⟨0, 1, 8, [.nilFunc], [], 0, 0⟩ .n))))) 101 ⟨0, 1, 8, [.nilFunc], [], 0, 0⟩ (.b (.b (.b (.b (.b .n 102 ⟨0, 1, 8, [.nilFunc], [], 0, 0⟩ .n) 103 ⟨5, 1, 8, [.map none], [], 0, 0⟩ (.b .n 104 ⟨1, 8, 80, [.int .i64 0, .int .i64 0, .int .i64 0, .int .i64 0, .int .i64 0, .pointer none, .slice none 0 0, .map none], [(0, 5, true), (5, 1, false), (6, 1, false), (7, 1, false)], 0, 0⟩ .n)) 105 ⟨1, 8, 80, [.int .i64 0, .int .i64 0, .int .i64 0, .int .i64 0, .int .i64 0, .pointer none, .slice none 0 0, .map none], [(0, 5, true), (5, 1, false), (6, 1, false), (7, 1, false)], 0, 0⟩ (.b (.b .n 106 ⟨5, 1, 8, [.map none], [], 0, 0⟩ .n) 107 ⟨1, 5, 32, [.int .i64 0, .int .u8 0, .bool false, .map none, .int .i64 0], [(0, 1, false), (1, 1, false), (2, 1, false), (3, 1, false), (4, 1, false)], 0, 0⟩ (.b .n 108 ⟨1, 5, 32, [.int .i64 0, .int .u8 0, .bool false, .map none, .int .i64 0], [(0, 1, false), (1, 1, false), (2, 1, false), (3, 1, false), (4, 1, false)], 0, 0⟩ .n))) 109 ⟨0, 1, 8, [.nilFunc], [], 0, 0⟩ (.b (.b (.b .n 110 ⟨1, 8, 96, [.pointer none, .int .i64 0, .int .i64 0, .int .i64 0, .int .i64 0, .slice none 0 0, .slice none 0 0, .bool false], [(0, 1, false), (1, 1, false), (2, 1, false), (3, 1, false), (4, 3, true), (7, 1, false)], 0, 0⟩ .n) 111 ⟨1, 8, 96, [.pointer none, .int .i64 0, .int .i64 0, .int .i64 0, .int .i64 0, .slice none 0 0, .slice none 0 0, .bool false], [(0, 1, false), (1, 1, false), (2, 1, false), (3, 1, false), (4, 3, true), (7, 1, false)], 0, 0⟩ (.b .n 112 ⟨0, 1, 8, [.nilFunc], [], 0, 0⟩ .n)) 113 ⟨0, 1, 8, [.nilFunc], [], 0, 0⟩ (.b (.b .n 114 ⟨0, 1, 8, [.nilFunc], [], 0, 0⟩ .n) 115 ⟨0, 1, 8, [.nilFunc], [], 0, 0⟩ (.b .n 116 ⟨0, 1, 8, [.nilFunc], [], 0, 0⟩ .n)))) 117 ⟨0, 1, 8, [.nilFunc], [], 0, 0⟩ (.b (.b (.b (.b .n 118 ⟨0, 1, 8, [.nilFunc], [], 0, 0⟩ .n) 119 ⟨0, 1, 8, [.nilFunc], [], 0, 0⟩ (.b .n 120 ⟨0, 1, 8, [.nilFunc], [], 0, 0⟩ .n)) 121 ⟨0, 1, 8, [.nilFunc], [], 0, 0⟩ (.b (.b .n 122 ⟨0, 1, 8, [.nilFunc], [], 0, 0⟩ .n) 123 ⟨1, 6, 80, [.int .i64 0, .int .i64 0, .int .i64 0, .slice none 0 0, .slice none 0 0, .bool false], [(0, 1, false), (1, 1, false), (2, 3, true), (5, 1, false)], 0, 0⟩ (.b .n 124 ⟨1, 6, 80, [.int .i64 0, .int .i64 0, .int .i64 0, .slice none 0 0, .slice none 0 0, .bool false], [(0, 1, false), (1, 1, false), (2, 3, true), (5, 1, false)], 0, 0⟩ .n))) 125 ⟨0, 1, 8, [.nilFunc], [], 0, 0⟩ (.b (.b (.b .n 126 ⟨1, 2, 24, [.string ⟨#[]⟩, .int .i64 0], [(0, 1, false), (1, 1, false)], 0, 0⟩ .n) 127 ⟨1, 2, 24, [.string ⟨#[]⟩, .int .i64 0], [(0, 1, false), (1, 1, false)], 0, 0⟩ (.b .n 128 ⟨0, 1, 8, [.nilFunc], [], 0, 0⟩ .n)) 129 ⟨0, 1, 8, [.nilFunc], [], 0, 0⟩ (.b (.b .n 130 ⟨2, 1, 8, [.int .i64 0], [], 3, 1⟩ .n) 131 ⟨0, 1, 8, [.nilFunc], [], 0, 0⟩ .n)))))) 132 ⟨0, 1, 8, [.nilFunc], [], 0, 0⟩ (.b (.b (.b (.b (.b (.b (.b .n 134 ⟨0, 1, 8, [.nilFunc], [], 0, 0⟩ .n) 135 ⟨0, 1, 8, [.nilFunc], [], 0, 0⟩ (.b .n 136 ⟨0, 1, 8, [.nilFunc], [], 0, 0⟩ .n)) 137 ⟨0, 1, 8, [.nilFunc], [], 0, 0⟩ (.b (.b .n 138 ⟨1, 3, 24, [.int .i64 0, .int .i64 0, .int .i64 0], [(0, 1, false), (1, 1, false), (2, 1, false)], 0, 0⟩ .n) 139 ⟨1, 3, 24, [.int .i64 0, .int .i64 0, .int .i64 0], [(0, 1, false), (1, 1, false), (2, 1, false)], 0, 0⟩ (.b .n 140 ⟨1, 4, 48, [.int .i64 0, .string ⟨#[]⟩, .string ⟨#[]⟩, .int .i64 0], [(0, 1, false), (1, 1, false), (2, 1, false), (3, 1, false)], 0, 0⟩ .n))) 141 ⟨1, 4, 48, [.int .i64 0, .string ⟨#[]⟩, .string ⟨#[]⟩, .int .i64 0], [(0, 1, false), (1, 1, false), (2, 1, false), (3, 1, false)], 0, 0⟩ (.b (.b (.b .n 142 ⟨0, 1, 8, [.nilFunc], [], 0, 0⟩ .n) 144 ⟨0, 1, 8, [.nilFunc], [], 0, 0⟩ (.b .n 146 ⟨0, 1, 8, [.nilFunc], [], 0, 0⟩ .n)) 147 ⟨0, 1, 8, [.nilFunc], [], 0, 0⟩ (.b (.b .n 148 ⟨0, 1, 8, [.nilFunc], [], 0, 0⟩ .n) 149 ⟨0, 1, 8, [.nilFunc], [], 0, 0⟩ (.b .n 150 ⟨0, 1, 8, [.nilFunc], [], 0, 0⟩ .n)))) 151 ⟨0, 1, 8, [.nilFunc], [], 0, 0⟩ (.b (.b (.b (.b .n 153 ⟨0, 1, 8, [.nilFunc], [], 0, 0⟩ .n) 154 ⟨0, 1, 8, [.nilFunc], [], 0, 0⟩ (.b .n 155 ⟨0, 1, 8, [.nilFunc], [], 0, 0⟩ .n)) 156 ⟨0, 1, 8, [.nilFunc], [], 0, 0⟩ (.b (.b .n 157 ⟨0, 1, 8, [.nilFunc], [], 0, 0⟩ .n) 158 ⟨0, 1, 8, [.nilFunc], [], 0, 0⟩ (.b .n 159 ⟨0, 1, 8, [.nilFunc], [], 0, 0⟩ .n))) 160 ⟨0, 1, 8, [.nilFunc], [], 0, 0⟩ (.b (.b (.b .n 161 ⟨0, 1, 8, [.nilFunc], [], 0, 0⟩ .n) 162 ⟨0, 1, 8, [.nilFunc], [], 0, 0⟩ (.b .n 163 ⟨0, 1, 8, [.nilFunc], [], 0, 0⟩ .n)) 164 ⟨0, 1, 8, [.nilFunc], [], 0, 0⟩ (.b (.b .n 165 ⟨3, 1, 24, [.slice none 0 0], [], 57, 0⟩ .n) 167 ⟨0, 1, 8, [.nilFunc], [], 0, 0⟩ (.b .n 168 ⟨0, 1, 8, [.nilFunc], [], 0, 0⟩ .n))))) 170 ⟨0, 1, 8, [.nilFunc], [], 0, 0⟩ (.b (.b (.b (.b (.b .n 171 ⟨0, 1, 8, [.nilFunc], [], 0, 0⟩ .n) 173 ⟨0, 1, 8, [.nilFunc], [], 0, 0⟩ (.b .n 174 ⟨8, 1, 4, [.int .u32 0], [], 6, 0⟩ .n)) 175 ⟨0, 1, 8, [.nilFunc], [], 0, 0⟩ (.b (.b .n 177 ⟨0, 1, 8, [.nilFunc], [], 0, 0⟩ .n) 179 ⟨0, 1, 8, [.nilFunc], [], 0, 0⟩ (.b .n 180 ⟨0, 1, 8, [.nilFunc], [], 0, 0⟩ .n))) 181 ⟨0, 1, 8, [.nilFunc], [], 0, 0⟩ (.b (.b (.b .n 182 ⟨0, 1, 8, [.nilFunc], [], 0, 0⟩ .n) 183 ⟨0, 1, 8, [.nilFunc], [], 0, 0⟩ (.b .n 184 ⟨3, 1, 24, [.slice none 0 0], [], 9, 0⟩ .n)) 186 ⟨0, 1, 8, [.nilFunc], [], 0, 0⟩ (.b (.b .n 187 ⟨0, 1, 8, [.nilFunc], [], 0, 0⟩ .n) 188 ⟨0, 1, 8, [.nilFunc], [], 0, 0⟩ (.b .n 189 ⟨0, 1, 8, [.nilFunc], [], 0, 0⟩ .n)))) 190 ⟨0, 1, 8, [.nilFunc], [], 0, 0⟩ (.b (.b (.b (.b .n 192 ⟨0, 1, 8, [.nilFunc], [], 0, 0⟩ .n) 194 ⟨0, 1, 8, [.nilFunc], [], 0, 0⟩ (.b .n 195 ⟨0, 1, 8, [.nilFunc], [], 0, 0⟩ .n)) 196 ⟨0, 1, 8, [.nilFunc], [], 0, 0⟩ (.b (.b .n 197 ⟨2, 4, 32, [.int .i64 0, .int .i64 0, .int .i64 0, .int .i64 0], [], 3, 4⟩ .n) 198 ⟨0, 1, 8, [.nilFunc], [], 0, 0⟩ (.b .n 199 ⟨0, 1, 8, [.nilFunc], [], 0, 0⟩ .n))) 200 ⟨0, 1, 8, [.nilFunc], [], 0, 0⟩ (.b (.b (.b .n 201 ⟨0, 1, 8, [.nilFunc], [], 0, 0⟩ .n) 202 ⟨0, 1, 8, [.nilFunc], [], 0, 0⟩ (.b .n 203 ⟨0, 1, 8, [.nilFunc], [], 0, 0⟩ .n)) 204 ⟨0, 1, 8, [.nilFunc], [], 0, 0⟩ (.b (.b .n 205 ⟨0, 1, 8, [.nilFunc], [], 0, 0⟩ .n) 206 ⟨0, 1, 8, [.nilFunc], [], 0, 0⟩ .n))))) 207 ⟨0, 1, 8, [.nilFunc], [], 0, 0⟩ (.b (.b (.b (.b (.b (.b .n 208 ⟨0, 1, 8, [.nilFunc], [], 0, 0⟩ .n) 210 ⟨0, 1, 8, [.nilFunc], [], 0, 0⟩ (.b .n 211 ⟨0, 1, 8, [.nilFunc], [], 0, 0⟩ .n)) 212 ⟨6, 1, 8, [.pointer none], [], 214, 0⟩ (.b (.b .n 213 ⟨1, 3, 40, [.slice none 0 0, .int .i64 0, .int .i64 0], [(0, 1, false), (1, 1, false), (2, 1, false)], 0, 0⟩ .n) 214 ⟨1, 3, 40, [.slice none 0 0, .int .i64 0, .int .i64 0], [(0, 1, false), (1, 1, false), (2, 1, false)], 0, 0⟩ (.b .n 215 ⟨0, 1, 8, [.nilFunc], [], 0, 0⟩ .n))) 216 ⟨0, 1, 8, [.nilFunc], [], 0, 0⟩ (.b (.b (.b .n 217 ⟨6, 1, 8, [.pointer none], [], 219, 0⟩ .n) 218 ⟨1, 3, 40, [.slice none 0 0, .int .i64 0, .bool false], [(0, 1, false), (1, 1, false), (2, 1, false)], 0, 0⟩ (.b .n 219 ⟨1, 3, 40, [.slice none 0 0, .int .i64 0, .bool false], [(0, 1, false), (1, 1, false), (2, 1, false)], 0, 0⟩ .n)) 220 ⟨0, 1, 8, [.nilFunc], [], 0, 0⟩ (.b (.b .n 222 ⟨0, 1, 8, [.nilFunc], [], 0, 0⟩ .n) 223 ⟨0, 1, 8, [.nilFunc], [], 0, 0⟩ (.b .n 225 ⟨0, 1, 8, [.nilFunc], [], 0, 0⟩ .n)))) 227 ⟨0, 1, 8, [.nilFunc], [], 0, 0⟩ (.b (.b (.b (.b .n 229 ⟨0, 1, 8, [.nilFunc], [], 0, 0⟩ .n) 230 ⟨0, 1, 8, [.nilFunc], [], 0, 0⟩ (.b .n 232 ⟨0, 1, 8, [.nilFunc], [], 0, 0⟩ .n)) 233 ⟨0, 1, 8, [.nilFunc], [], 0, 0⟩ (.b (.b .n 234 ⟨0, 1, 8, [.nilFunc], [], 0, 0⟩ .n) 235 ⟨0, 1, 8, [.nilFunc], [], 0, 0⟩ (.b .n 236 ⟨0, 1, 8, [.nilFunc], [], 0, 0⟩ .n))) 237 ⟨6, 1, 8, [.pointer none], [], 239, 0⟩ (.b (.b (.b .n 238 ⟨1, 6, 96, [.int .i64 0, .slice none 0 0, .slice none 0 0, .slice none 0 0, .int .i64 0, .int .i64 0], [(0, 3, true), (3, 1, false), (4, 1, false), (5, 1, false)], 0, 0⟩ .n) 239 ⟨1, 6, 96, [.int .i64 0, .slice none 0 0, .slice none 0 0, .slice none 0 0, .int .i64 0, .int .i64 0], [(0, 3, true), (3, 1, false), (4, 1, false), (5, 1, false)], 0, 0⟩ (.b .n 240 ⟨0, 1, 8, [.nilFunc], [], 0, 0⟩ .n)) 241 ⟨0, 1, 8, [.nilFunc], [], 0, 0⟩ (.b (.b .n 242 ⟨0, 1, 8, [.nilFunc], [], 0, 0⟩ .n) 243 ⟨0, 1, 8, [.nilFunc], [], 0, 0⟩ (.b .n 244 ⟨0, 1, 8, [.nilFunc], [], 0, 0⟩ .n))))) 245 ⟨0, 1, 8, [.nilFunc], [], 0, 0⟩ (.b (.b (.b (.b (.b .n 246 ⟨0, 1, 8, [.nilFunc], [], 0, 0⟩ .n) 247 ⟨0, 1, 8, [.nilFunc], [], 0, 0⟩ (.b .n 248 ⟨0, 1, 8, [.nilFunc], [], 0, 0⟩ .n)) 249 ⟨0, 1, 8, [.nilFunc], [], 0, 0⟩ (.b (.b .n 250 ⟨0, 1, 8, [.nilFunc], [], 0, 0⟩ .n) 251 ⟨0, 1, 8, [.nilFunc], [], 0, 0⟩ (.b .n 252 ⟨0, 1, 8, [.nilFunc], [], 0, 0⟩ .n))) 253 ⟨0, 1, 8, [.nilFunc], [], 0, 0⟩ (.b (.b (.b .n 254 ⟨6, 1, 8, [.pointer none], [], 3, 0⟩ .n) 255 ⟨2, 4, 32, [.pointer none, .pointer none, .pointer none, .pointer none], [], 254, 4⟩ (.b .n 256 ⟨2, 3, 24, [.int .i64 0, .int .i64 0, .int .i64 0], [], 3, 3⟩ .n)) 258 ⟨0, 1, 8, [.nilFunc], [], 0, 0⟩ (.b (.b .n 259 ⟨0, 1, 8, [.nilFunc], [], 0, 0⟩ .n) 260 ⟨0, 1, 8, [.nilFunc], [], 0, 0⟩ (.b .n 261 ⟨0, 1, 8, [.nilFunc], [], 0, 0⟩ .n)))) 262 ⟨1, 4, 40, [.pointer none, .pointer none, .pointer none, .string ⟨#[]⟩], [(0, 1, false), (1, 1, false), (2, 1, false), (3, 1, false)], 0, 0⟩ (.b (.b (.b (.b .n 263 ⟨1, 4, 40, [.pointer none, .pointer none, .pointer none, .string ⟨#[]⟩], [(0, 1, false), (1, 1, false), (2, 1, false), (3, 1, false)], 0, 0⟩ .n) 264 ⟨2, 0, 0, [], [], 16, 0⟩ (.b .n 265 ⟨1, 0, 0, [], [(0, 0, true)], 0, 0⟩ .n)) 266 ⟨1, 0, 0, [], [(0, 0, true)], 0, 0⟩ (.b (.b .n 267 ⟨8, 1, 1, [.int .u8 0], [], 4, 0⟩ .n) 268 ⟨8, 1, 1, [.int .u8 0], [], 4, 0⟩ (.b .n 269 ⟨0, 1, 8, [.nilFunc], [], 0, 0⟩ .n))) 270 ⟨6, 1, 8, [.pointer none], [], 5, 0⟩ (.b (.b (.b .n 271 ⟨8, 1, 4, [.int .i32 0], [], 2, 0⟩ .n) 272 ⟨8, 1, 4, [.int .i32 0], [], 2, 0⟩ (.b .n 273 ⟨1, 11, 48, [.int .u64 0, .int .u64 0, .int .u32 0, .int .u8 0, .int .u8 0, .int .u8 0, .int .u8 0, .nilFunc, .pointer none, .int .i32 0, .int .i32 0], [(0, 1, false), (1, 1, false), (2, 1, false), (3, 1, false), (4, 1, false), (5, 1, false), (6, 1, false), (7, 1, false), (8, 1, false), (9, 1, false), (10, 1, false)], 0, 0⟩ .n)) 274 ⟨1, 11, 48, [.int .u64 0, .int .u64 0, .int .u32 0, .int .u8 0, .int .u8 0, .int .u8 0, .int .u8 0, .nilFunc, .pointer none, .int .i32 0, .int .i32 0], [(0, 1, false), (1, 1, false), (2, 1, false), (3, 1, false), (4, 1, false), (5, 1, false), (6, 1, false), (7, 1, false), (8, 1, false), (9, 1, false), (10, 1, false)], 0, 0⟩ (.b (.b .n 275 ⟨1, 1, 8, [.int .i64 0], [(0, 1, false)], 0, 0⟩ .n) 276 ⟨1, 1, 8, [.int .i64 0], [(0, 1, false)], 0, 0⟩ .n)))))))
theorem tysOk : TyOk Tryz.prog tys := ⟨⟨⟨⟨⟨⟨⟨⟨trivial, k1, trivial⟩, k2, ⟨trivial, k3, trivial⟩⟩, k4, ⟨⟨trivial, k5, trivial⟩, k6, ⟨trivial, k7, trivial⟩⟩⟩, k8, ⟨⟨⟨trivial, k9, trivial⟩, k10, ⟨trivial, k11, trivial⟩⟩, k12, ⟨⟨trivial, k13, trivial⟩, k14, ⟨trivial, k15, trivial⟩⟩⟩⟩, k16, ⟨⟨⟨⟨trivial, k17, trivial⟩, k18, ⟨trivial, k19, trivial⟩⟩, k21, ⟨⟨trivial, k22, trivial⟩, k23, ⟨trivial, k24, trivial⟩⟩⟩, k25, ⟨⟨⟨trivial, k26, trivial⟩, k28, ⟨trivial, k29, trivial⟩⟩, k30, ⟨⟨trivial, k31, trivial⟩, k32, ⟨trivial, k34, trivial⟩⟩⟩⟩⟩, k35, ⟨⟨⟨⟨⟨trivial, k36, trivial⟩, k37, ⟨trivial, k38, trivial⟩⟩, k39, ⟨⟨trivial, k40, trivial⟩, k41, ⟨trivial, k42, trivial⟩⟩⟩, k43, ⟨⟨⟨trivial, k44, trivial⟩, k45, ⟨trivial, k46, trivial⟩⟩, k47, ⟨⟨trivial, k48, trivial⟩, k49, ⟨trivial, k50, trivial⟩⟩⟩⟩, k51, ⟨⟨⟨⟨trivial, k52, trivial⟩, k53, ⟨trivial, k54, trivial⟩⟩, k55, ⟨⟨trivial, k56, trivial⟩, k57, ⟨trivial, k59, trivial⟩⟩⟩, k60, ⟨⟨⟨trivial, k61, trivial⟩, k62, ⟨trivial, k63, trivial⟩⟩, k64, ⟨⟨trivial, k65, trivial⟩, k66, trivial⟩⟩⟩⟩⟩, k67, ⟨⟨⟨⟨⟨⟨trivial, k68, trivial⟩, k69, ⟨trivial, k70, trivial⟩⟩, k72, ⟨⟨trivial, k73, trivial⟩, k75, ⟨trivial, k76, trivial⟩⟩⟩, k77, ⟨⟨⟨trivial, k78, trivial⟩, k79, ⟨trivial, k80, trivial⟩⟩, k81, ⟨⟨trivial, k82, trivial⟩, k83, ⟨trivial, k84, trivial⟩⟩⟩⟩, k85, ⟨⟨⟨⟨trivial, k86, trivial⟩, k87, ⟨trivial, k88, trivial⟩⟩, k89, ⟨⟨trivial, k90, trivial⟩, k91, ⟨trivial, k92, trivial⟩⟩⟩, k93, ⟨⟨⟨trivial, k94, trivial⟩, k95, ⟨trivial, k96, trivial⟩⟩, k97, ⟨⟨trivial, k98, trivial⟩, k99, ⟨trivial, k100, trivial⟩⟩⟩⟩⟩, k101, ⟨⟨⟨⟨⟨trivial, k102, trivial⟩, k103, ⟨trivial, k104, trivial⟩⟩, k105, ⟨⟨trivial, k106, trivial⟩, k107, ⟨trivial, k108, trivial⟩⟩⟩, k109, ⟨⟨⟨trivial, k110, trivial⟩, k111, ⟨trivial, k112, trivial⟩⟩, k113, ⟨⟨trivial, k114, trivial⟩, k115, ⟨trivial, k116, trivial⟩⟩⟩⟩, k117, ⟨⟨⟨⟨trivial, k118, trivial⟩, k119, ⟨trivial, k120, trivial⟩⟩, k121, ⟨⟨trivial, k122, trivial⟩, k123, ⟨trivial, k124, trivial⟩⟩⟩, k125, ⟨⟨⟨trivial, k126, trivial⟩, k127, ⟨trivial, k128, trivial⟩⟩, k129, ⟨⟨trivial, k130, trivial⟩, k131, trivial⟩⟩⟩⟩⟩⟩, k132, ⟨⟨⟨⟨⟨⟨⟨trivial, k134, trivial⟩, k135, ⟨trivial, k136, trivial⟩⟩, k137, ⟨⟨trivial, k138, trivial⟩, k139, ⟨trivial, k140, trivial⟩⟩⟩, k141, ⟨⟨⟨trivial, k142, trivial⟩, k144, ⟨trivial, k146, trivial⟩⟩, k147, ⟨⟨trivial, k148, trivial⟩, k149, ⟨trivial, k150, trivial⟩⟩⟩⟩, k151, ⟨⟨⟨⟨trivial, k153, trivial⟩, k154, ⟨trivial, k155, trivial⟩⟩, k156, ⟨⟨trivial, k157, trivial⟩, k158, ⟨trivial, k159, trivial⟩⟩⟩, k160, ⟨⟨⟨trivial, k161, trivial⟩, k162, ⟨trivial, k163, trivial⟩⟩, k164, ⟨⟨trivial, k165, trivial⟩, k167, ⟨trivial, k168, trivial⟩⟩⟩⟩⟩, k170, ⟨⟨⟨⟨⟨trivial, k171, trivial⟩, k173, ⟨trivial, k174, trivial⟩⟩, k175, ⟨⟨trivial, k177, trivial⟩, k179, ⟨trivial, k180, trivial⟩⟩⟩, k181, ⟨⟨⟨trivial, k182, trivial⟩, k183, ⟨trivial, k184, trivial⟩⟩, k186, ⟨⟨trivial, k187, trivial⟩, k188, ⟨trivial, k189, trivial⟩⟩⟩⟩, k190, ⟨⟨⟨⟨trivial, k192, trivial⟩, k194, ⟨trivial, k195, trivial⟩⟩, k196, ⟨⟨trivial, k197, trivial⟩, k198, ⟨trivial, k199, trivial⟩⟩⟩, k200, ⟨⟨⟨trivial, k201, trivial⟩, k202, ⟨trivial, k203, trivial⟩⟩, k204, ⟨⟨trivial, k205, trivial⟩, k206, trivial⟩⟩⟩⟩⟩, k207, ⟨⟨⟨⟨⟨⟨trivial, k208, trivial⟩, k210, ⟨trivial, k211, trivial⟩⟩, k212, ⟨⟨trivial, k213, trivial⟩, k214, ⟨trivial, k215, trivial⟩⟩⟩, k216, ⟨⟨⟨trivial, k217, trivial⟩, k218, ⟨trivial, k219, trivial⟩⟩, k220, ⟨⟨trivial, k222, trivial⟩, k223, ⟨trivial, k225, trivial⟩⟩⟩⟩, k227, ⟨⟨⟨⟨trivial, k229, trivial⟩, k230, ⟨trivial, k232, trivial⟩⟩, k233, ⟨⟨trivial, k234, trivial⟩, k235, ⟨trivial, k236, trivial⟩⟩⟩, k237, ⟨⟨⟨trivial, k238, trivial⟩, k239, ⟨trivial, k240, trivial⟩⟩, k241, ⟨⟨trivial, k242, trivial⟩, k243, ⟨trivial, k244, trivial⟩⟩⟩⟩⟩, k245, ⟨⟨⟨⟨⟨trivial, k246, trivial⟩, k247, ⟨trivial, k248, trivial⟩⟩, k249, ⟨⟨trivial, k250, trivial⟩, k251, ⟨trivial, k252, trivial⟩⟩⟩, k253, ⟨⟨⟨trivial, k254, trivial⟩, k255, ⟨trivial, k256, trivial⟩⟩, k258, ⟨⟨trivial, k259, trivial⟩, k260, ⟨trivial, k261, trivial⟩⟩⟩⟩, k262, ⟨⟨⟨⟨trivial, k263, trivial⟩, k264, ⟨trivial, k265, trivial⟩⟩, k266, ⟨⟨trivial, k267, trivial⟩, k268, ⟨trivial, k269, trivial⟩⟩⟩, k270, ⟨⟨⟨trivial, k271, trivial⟩, k272, ⟨trivial, k273, trivial⟩⟩, k274, ⟨⟨trivial, k275, trivial⟩, k276, trivial⟩⟩⟩⟩⟩⟩⟩
theorem mixed : Tryz.prog.follows .mixedOrders = true := by kernel_rfl
@[simp] theorem t1 : tf 1 tys = some ⟨0, 1, 8, [.nilFunc], [], 0, 0⟩ := rfl
@[simp] theorem t2 : tf 2 tys = some ⟨8, 1, 8, [.int .i64 0], [], 3, 0⟩ := rfl
@[simp] theorem t3 : tf 3 tys = some ⟨8, 1, 8, [.int .i64 0], [], 3, 0⟩ := rfl
@[simp] theorem t4 : tf 4 tys = some ⟨7, 1, 1, [.bool false], [], 0, 0⟩ := rfl
@[simp] theorem t5 : tf 5 tys = some ⟨8, 1, 1, [.int .u8 0], [], 4, 0⟩ := rfl
@[simp] theorem t6 : tf 6 tys = some ⟨8, 1, 1, [.int .u8 0], [], 4, 0⟩ := rfl
@[simp] theorem t7 : tf 7 tys = some ⟨1, 4, 24, [.int .i64 0, .int .i64 0, .bool false, .int .u8 0], [(0, 1, false), (1, 1, false), (2, 1, false), (3, 1, false)], 0, 0⟩ := rfl
@[simp] theorem t8 : tf 8 tys = some ⟨1, 4, 24, [.int .i64 0, .int .i64 0, .bool false, .int .u8 0], [(0, 1, false), (1, 1, false), (2, 1, false), (3, 1, false)], 0, 0⟩ := rfl
@[simp] theorem t9 : tf 9 tys = some ⟨4, 1, 16, [.string ⟨#[]⟩], [], 0, 0⟩ := rfl
@[simp] theorem t10 : tf 10 tys = some ⟨4, 1, 16, [.string ⟨#[]⟩], [], 0, 0⟩ := rfl
@[simp] theorem t11 : tf 11 tys = some ⟨4, 1, 16, [.string ⟨#[]⟩], [], 0, 0⟩ := rfl
@[simp] theorem t12 : tf 12 tys = some ⟨8, 1, 8, [.int .u64 0], [], 7, 0⟩ := rfl
@[simp] theorem t13 : tf 13 tys = some ⟨1, 2, 24, [.string ⟨#[]⟩, .int .u64 0], [(0, 1, false), (1, 1, false)], 0, 0⟩ := rfl
@[simp] theorem t14 : tf 14 tys = some ⟨1, 2, 24, [.string ⟨#[]⟩, .int .u64 0], [(0, 1, false), (1, 1, false)], 0, 0⟩ := rfl
@[simp] theorem t15 : tf 15 tys = some ⟨6, 1, 8, [.pointer none], [], 263, 0⟩ := rfl
@[simp] theorem t16 : tf 16 tys = some ⟨6, 1, 8, [.pointer none], [], 266, 0⟩ := rfl
@[simp] theorem t17 : tf 17 tys = some ⟨6, 1, 8, [.pointer none], [], 274, 0⟩ := rfl
@[simp] theorem t18 : tf 18 tys = some ⟨1, 1, 8, [.pointer none], [(0, 1, false)], 0, 0⟩ := rfl
@[simp] theorem t19 : tf 19 tys = some ⟨1, 1, 8, [.pointer none], [(0, 1, false)], 0, 0⟩ := rfl
@[simp] theorem t21 : tf 21 tys = some ⟨8, 1, 4, [.int .i32 0], [], 2, 0⟩ := rfl
@[simp] theorem t22 : tf 22 tys = some ⟨1, 5, 40, [.int .i64 0, .int .i64 0, .int .i64 0, .int .i64 0, .int .i64 0], [(0, 1, false), (1, 1, false), (2, 1, false), (3, 1, false), (4, 1, false)], 0, 0⟩ := rfl
@[simp] theorem t23 : tf 23 tys = some ⟨1, 5, 40, [.int .i64 0, .int .i64 0, .int .i64 0, .int .i64 0, .int .i64 0], [(0, 1, false), (1, 1, false), (2, 1, false), (3, 1, false), (4, 1, false)], 0, 0⟩ := rfl
@[simp] theorem t24 : tf 24 tys = some ⟨0, 1, 8, [.nilFunc], [], 0, 0⟩ := rfl
@[simp] theorem t25 : tf 25 tys = some ⟨6, 1, 8, [.pointer none], [], 105, 0⟩ := rfl
@[simp] theorem t26 : tf 26 tys = some ⟨8, 1, 8, [.int .i64 0], [], 3, 0⟩ := rfl
@[simp] theorem t28 : tf 28 tys = some ⟨0, 1, 8, [.nilFunc], [], 0, 0⟩ := rfl
@[simp] theorem t29 : tf 29 tys = some ⟨6, 1, 8, [.pointer none], [], 108, 0⟩ := rfl
@[simp] theorem t30 : tf 30 tys = some ⟨0, 1, 8, [.nilFunc], [], 0, 0⟩ := rfl
@[simp] theorem t31 : tf 31 tys = some ⟨0, 1, 8, [.nilFunc], [], 0, 0⟩ := rfl
@[simp] theorem t32 : tf 32 tys = some ⟨6, 1, 8, [.pointer none], [], 111, 0⟩ := rfl
@[simp] theorem t34 : tf 34 tys = some ⟨0, 1, 8, [.nilFunc], [], 0, 0⟩ := rfl
@[simp] theorem t35 : tf 35 tys = some ⟨8, 1, 8, [.int .u64 0], [], 7, 0⟩ := rfl
@[simp] theorem t36 : tf 36 tys = some ⟨3, 1, 24, [.slice none 0 0], [], 44, 0⟩ := rfl
@[simp] theorem t37 : tf 37 tys = some ⟨3, 1, 24, [.slice none 0 0], [], 3, 0⟩ := rfl
@[simp] theorem t38 : tf 38 tys = some ⟨1, 3, 56, [.int .i64 0, .slice none 0 0, .slice none 0 0], [(0, 1, false), (1, 1, false), (2, 1, false)], 0, 0⟩ := rfl
@[simp] theorem t39 : tf 39 tys = some ⟨1, 3, 56, [.int .i64 0, .slice none 0 0, .slice none 0 0], [(0, 1, false), (1, 1, false), (2, 1, false)], 0, 0⟩ := rfl
@[simp] theorem t40 : tf 40 tys = some ⟨0, 1, 8, [.nilFunc], [], 0, 0⟩ := rfl
@[simp] theorem t41 : tf 41 tys = some ⟨3, 1, 24, [.slice none 0 0], [], 127, 0⟩ := rfl
@[simp] theorem t42 : tf 42 tys = some ⟨3, 1, 24, [.slice none 0 0], [], 139, 0⟩ := rfl
@[simp] theorem t43 : tf 43 tys = some ⟨1, 7, 96, [.int .i64 0, .int .i64 0, .int .i64 0, .int .i64 0, .string ⟨#[]⟩, .slice none 0 0, .slice none 0 0], [(0, 1, false), (1, 1, false), (2, 1, false), (3, 1, false), (4, 1, false), (5, 1, false), (6, 1, false)], 0, 0⟩ := rfl
@[simp] theorem t44 : tf 44 tys = some ⟨1, 7, 96, [.int .i64 0, .int .i64 0, .int .i64 0, .int .i64 0, .string ⟨#[]⟩, .slice none 0 0, .slice none 0 0], [(0, 1, false), (1, 1, false), (2, 1, false), (3, 1, false), (4, 1, false), (5, 1, false), (6, 1, false)], 0, 0⟩ := rfl
@[simp] theorem t45 : tf 45 tys = some ⟨1, 9, 112, [.int .i64 0, .int .i64 0, .int .i64 0, .int .i64 0, .int .i64 0, .int .i64 0, .string ⟨#[]⟩, .slice none 0 0, .slice none 0 0], [(0, 1, false), (1, 1, false), (2, 7, true)], 0, 0⟩ := rfl
@[simp] theorem t46 : tf 46 tys = some ⟨1, 9, 112, [.int .i64 0, .int .i64 0, .int .i64 0, .int .i64 0, .int .i64 0, .int .i64 0, .string ⟨#[]⟩, .slice none 0 0, .slice none 0 0], [(0, 1, false), (1, 1, false), (2, 7, true)], 0, 0⟩ := rfl
@[simp] theorem t47 : tf 47 tys = some ⟨3, 1, 24, [.slice none 0 0], [], 46, 0⟩ := rfl
@[simp] theorem t48 : tf 48 tys = some ⟨0, 1, 8, [.nilFunc], [], 0, 0⟩ := rfl
@[simp] theorem t49 : tf 49 tys = some ⟨0, 1, 8, [.nilFunc], [], 0, 0⟩ := rfl
@[simp] theorem t50 : tf 50 tys = some ⟨0, 1, 8, [.nilFunc], [], 0, 0⟩ := rfl
@[simp] theorem t51 : tf 51 tys = some ⟨0, 1, 8, [.nilFunc], [], 0, 0⟩ := rfl
@[simp] theorem t52 : tf 52 tys = some ⟨0, 1, 8, [.nilFunc], [], 0, 0⟩ := rfl
@[simp] theorem t53 : tf 53 tys = some ⟨3, 1, 24, [.slice none 0 0], [], 47, 0⟩ := rfl
@[simp] theorem t54 : tf 54 tys = some ⟨0, 1, 8, [.nilFunc], [], 0, 0⟩ := rfl
@[simp] theorem t55 : tf 55 tys = some ⟨0, 1, 8, [.nilFunc], [], 0, 0⟩ := rfl
@[simp] theorem t56 : tf 56 tys = some ⟨0, 1, 8, [.nilFunc], [], 0, 0⟩ := rfl
@[simp] theorem t57 : tf 57 tys = some ⟨3, 1, 24, [.slice none 0 0], [], 5, 0⟩ := rfl
@[simp] theorem t59 : tf 59 tys = some ⟨0, 1, 8, [.nilFunc], [], 0, 0⟩ := rfl
@[simp] theorem t60 : tf 60 tys = some ⟨0, 1, 8, [.nilFunc], [], 0, 0⟩ := rfl
@[simp] theorem t61 : tf 61 tys = some ⟨0, 1, 8, [.nilFunc], [], 0, 0⟩ := rfl
@[simp] theorem t62 : tf 62 tys = some ⟨0, 1, 8, [.nilFunc], [], 0, 0⟩ := rfl
@[simp] theorem t63 : tf 63 tys = some ⟨0, 1, 8, [.nilFunc], [], 0, 0⟩ := rfl
@[simp] theorem t64 : tf 64 tys = some ⟨0, 1, 8, [.nilFunc], [], 0, 0⟩ := rfl
@[simp] theorem t65 : tf 65 tys = some ⟨0, 1, 8, [.nilFunc], [], 0, 0⟩ := rfl
@[simp] theorem t66 : tf 66 tys = some ⟨0, 1, 8, [.nilFunc], [], 0, 0⟩ := rfl
@[simp] theorem t67 : tf 67 tys = some ⟨3, 1, 24, [.slice none 0 0], [], 77, 0⟩ := rfl
@[simp] theorem t68 : tf 68 tys = some ⟨6, 1, 8, [.pointer none], [], 79, 0⟩ := rfl
@[simp] theorem t69 : tf 69 tys = some ⟨0, 1, 8, [.nilFunc], [], 0, 0⟩ := rfl
@[simp] theorem t70 : tf 70 tys = some ⟨6, 1, 8, [.pointer none], [], 81, 0⟩ := rfl
@[simp] theorem t72 : tf 72 tys = some ⟨0, 1, 8, [.nilFunc], [], 0, 0⟩ := rfl
@[simp] theorem t73 : tf 73 tys = some ⟨6, 1, 8, [.pointer none], [], 83, 0⟩ := rfl
@[simp] theorem t75 : tf 75 tys = some ⟨0, 1, 8, [.nilFunc], [], 0, 0⟩ := rfl
@[simp] theorem t76 : tf 76 tys = some ⟨1, 4, 48, [.int .i64 0, .int .i64 0, .int .u8 0, .slice none 0 0], [(0, 1, false), (1, 1, false), (2, 1, false), (3, 1, false)], 0, 0⟩ := rfl
@[simp] theorem t77 : tf 77 tys = some ⟨1, 4, 48, [.int .i64 0, .int .i64 0, .int .u8 0, .slice none 0 0], [(0, 1, false), (1, 1, false), (2, 1, false), (3, 1, false)], 0, 0⟩ := rfl
@[simp] theorem t78 : tf 78 tys = some ⟨1, 5, 56, [.bool false, .int .i64 0, .int .u8 0, .int .i64 0, .slice none 0 0], [(0, 1, false), (1, 1, false), (2, 1, false), (3, 1, false), (4, 1, false)], 0, 0⟩ := rfl
@[simp] theorem t79 : tf 79 tys = some ⟨1, 5, 56, [.bool false, .int .i64 0, .int .u8 0, .int .i64 0, .slice none 0 0], [(0, 1, false), (1, 1, false), (2, 1, false), (3, 1, false), (4, 1, false)], 0, 0⟩ := rfl
@[simp] theorem t80 : tf 80 tys = some ⟨1, 8, 96, [.int .i64 0, .int .i64 0, .int .i64 0, .int .i64 0, .int .i64 0, .pointer none, .slice none 0 0, .slice none 0 0], [(0, 5, true), (5, 1, false), (6, 1, false), (7, 1, false)], 0, 0⟩ := rfl
@[simp] theorem t81 : tf 81 tys = some ⟨1, 8, 96, [.int .i64 0, .int .i64 0, .int .i64 0, .int .i64 0, .int .i64 0, .pointer none, .slice none 0 0, .slice none 0 0], [(0, 5, true), (5, 1, false), (6, 1, false), (7, 1, false)], 0, 0⟩ := rfl
@[simp] theorem t82 : tf 82 tys = some ⟨1, 8, 96, [.pointer none, .int .i64 0, .slice none 0 0, .slice none 0 0, .int .i64 0, .int .i64 0, .int .i64 0, .bool false], [(0, 1, false), (1, 3, true), (4, 1, false), (5, 1, false), (6, 1, false), (7, 1, false)], 0, 0⟩ := rfl
@[simp] theorem t83 : tf 83 tys = some ⟨1, 8, 96, [.pointer none, .int .i64 0, .slice none 0 0, .slice none 0 0, .int .i64 0, .int .i64 0, .int .i64 0, .bool false], [(0, 1, false), (1, 3, true), (4, 1, false), (5, 1, false), (6, 1, false), (7, 1, false)], 0, 0⟩ := rfl
@[simp] theorem t84 : tf 84 tys = some ⟨0, 1, 8, [.nilFunc], [], 0, 0⟩ := rfl
@[simp] theorem t85 : tf 85 tys = some ⟨0, 1, 8, [.nilFunc], [], 0, 0⟩ := rfl
@[simp] theorem t86 : tf 86 tys = some ⟨8, 1, 8, [.int .u64 0], [], 7, 0⟩ := rfl
@[simp] theorem t87 : tf 87 tys = some ⟨0, 1, 8, [.nilFunc], [], 0, 0⟩ := rfl
@[simp] theorem t88 : tf 88 tys = some ⟨0, 1, 8, [.nilFunc], [], 0, 0⟩ := rfl
@[simp] theorem t89 : tf 89 tys = some ⟨0, 1, 8, [.nilFunc], [], 0, 0⟩ := rfl
@[simp] theorem t90 : tf 90 tys = some ⟨0, 1, 8, [.nilFunc], [], 0, 0⟩ := rfl
@[simp] theorem t91 : tf 91 tys = some ⟨0, 1, 8, [.nilFunc], [], 0, 0⟩ := rfl
@[simp] theorem t92 : tf 92 tys = some ⟨3, 1, 24, [.slice none 0 0], [], 141, 0⟩ := rfl
@[simp] theorem t93 : tf 93 tys = some ⟨0, 1, 8, [.nilFunc], [], 0, 0⟩ := rfl
@[simp] theorem t94 : tf 94 tys = some ⟨0, 1, 8, [.nilFunc], [], 0, 0⟩ := rfl
@[simp] theorem t95 : tf 95 tys = some ⟨1, 3, 24, [.int .i64 0, .int .i64 0, .int .i64 0], [(0, 1, false), (1, 1, false), (2, 1, false)], 0, 0⟩ := rfl
@[simp] theorem t96 : tf 96 tys = some ⟨1, 3, 24, [.int .i64 0, .int .i64 0, .int .i64 0], [(0, 1, false), (1, 1, false), (2, 1, false)], 0, 0⟩ := rfl
@[simp] theorem t97 : tf 97 tys = some ⟨0, 1, 8, [.nilFunc], [], 0, 0⟩ := rfl
@[simp] theorem t98 : tf 98 tys = some ⟨0, 1, 8, [.nilFunc], [], 0, 0⟩ := rfl
@[simp] theorem t99 : tf 99 tys = some ⟨0, 1, 8, [.nilFunc], [], 0, 0⟩ := rfl
@[simp] theorem t100 : tf 100 tys = some ⟨0, 1, 8, [.nilFunc], [], 0, 0⟩ := rfl
@[simp] theorem t101 : tf 101 tys = some ⟨0, 1, 8, [.nilFunc], [], 0, 0⟩ := rfl
@[simp] theorem t102 : tf 102 tys = some ⟨0, 1, 8, [.nilFunc], [], 0, 0⟩ := rfl
@[simp] theorem t103 : tf 103 tys = some ⟨5, 1, 8, [.map none], [], 0, 0⟩ := rfl
@[simp] theorem t104 : tf 104 tys = some ⟨1, 8, 80, [.int .i64 0, .int .i64 0, .int .i64 0, .int .i64 0, .int .i64 0, .pointer none, .slice none 0 0, .map none], [(0, 5, true), (5, 1, false), (6, 1, false), (7, 1, false)], 0, 0⟩ := rfl
@[simp] theorem t105 : tf 105 tys = some ⟨1, 8, 80, [.int .i64 0, .int .i64 0, .int .i64 0, .int .i64 0, .int .i64 0, .pointer none, .slice none 0 0, .map none], [(0, 5, true), (5, 1, false), (6, 1, false), (7, 1, false)], 0, 0⟩ := rfl
@[simp] theorem t106 : tf 106 tys = some ⟨5, 1, 8, [.map none], [], 0, 0⟩ := rfl
@[simp] theorem t107 : tf 107 tys = some ⟨1, 5, 32, [.int .i64 0, .int .u8 0, .bool false, .map none, .int .i64 0], [(0, 1, false), (1, 1, false), (2, 1, false), (3, 1, false), (4, 1, false)], 0, 0⟩ := rfl
@[simp] theorem t108 : tf 108 tys = some ⟨1, 5, 32, [.int .i64 0, .int .u8 0, .bool false, .map none, .int .i64 0], [(0, 1, false), (1, 1, false), (2, 1, false), (3, 1, false), (4, 1, false)], 0, 0⟩ := rfl
@[simp] theorem t109 : tf 109 tys = some ⟨0, 1, 8, [.nilFunc], [], 0, 0⟩ := rfl
@[simp] theorem t110 : tf 110 tys = some ⟨1, 8, 96, [.pointer none, .int .i64 0, .int .i64 0, .int .i64 0, .int .i64 0, .slice none 0 0, .slice none 0 0, .bool false], [(0, 1, false), (1, 1, false), (2, 1, false), (3, 1, false), (4, 3, true), (7, 1, false)], 0, 0⟩ := rfl
@[simp] theorem t111 : tf 111 tys = some ⟨1, 8, 96, [.pointer none, .int .i64 0, .int .i64 0, .int .i64 0, .int .i64 0, .slice none 0 0, .slice none 0 0, .bool false], [(0, 1, false), (1, 1, false), (2, 1, false), (3, 1, false), (4, 3, true), (7, 1, false)], 0, 0⟩ := rfl
@[simp] theorem t112 : tf 112 tys = some ⟨0, 1, 8, [.nilFunc], [], 0, 0⟩ := rfl
@[simp] theorem t113 : tf 113 tys = some ⟨0, 1, 8, [.nilFunc], [], 0, 0⟩ := rfl
@[simp] theorem t114 : tf 114 tys = some ⟨0, 1, 8, [.nilFunc], [], 0, 0⟩ := rfl
@[simp] theorem t115 : tf 115 tys = some ⟨0, 1, 8, [.nilFunc], [], 0, 0⟩ := rfl
@[simp] theorem t116 : tf 116 tys = some ⟨0, 1, 8, [.nilFunc], [], 0, 0⟩ := rfl
@[simp] theorem t117 : tf 117 tys = some ⟨0, 1, 8, [.nilFunc], [], 0, 0⟩ := rfl
@[simp] theorem t118 : tf 118 tys = some ⟨0, 1, 8, [.nilFunc], [], 0, 0⟩ := rfl
@[simp] theorem t119 : tf 119 tys = some ⟨0, 1, 8, [.nilFunc], [], 0, 0⟩ := rfl
@[simp] theorem t120 : tf 120 tys = some ⟨0, 1, 8, [.nilFunc], [], 0, 0⟩ := rfl
@[simp] theorem t121 : tf 121 tys = some ⟨0, 1, 8, [.nilFunc], [], 0, 0⟩ := rfl
@[simp] theorem t122 : tf 122 tys = some ⟨0, 1, 8, [.nilFunc], [], 0, 0⟩ := rfl
@[simp] theorem t123 : tf 123 tys = some ⟨1, 6, 80, [.int .i64 0, .int .i64 0, .int .i64 0, .slice none 0 0, .slice none 0 0, .bool false], [(0, 1, false), (1, 1, false), (2, 3, true), (5, 1, false)], 0, 0⟩ := rfl
@[simp] theorem t124 : tf 124 tys = some ⟨1, 6, 80, [.int .i64 0, .int .i64 0, .int .i64 0, .slice none 0 0, .slice none 0 0, .bool false], [(0, 1, false), (1, 1, false), (2, 3, true), (5, 1, false)], 0, 0⟩ := rfl
@[simp] theorem t125 : tf 125 tys = some ⟨0, 1, 8, [.nilFunc], [], 0, 0⟩ := rfl
@[simp] theorem t126 : tf 126 tys = some ⟨1, 2, 24, [.string ⟨#[]⟩, .int .i64 0], [(0, 1, false), (1, 1, false)], 0, 0⟩ := rfl
@[simp] theorem t127 : tf 127 tys = some ⟨1, 2, 24, [.string ⟨#[]⟩, .int .i64 0], [(0, 1, false), (1, 1, false)], 0, 0⟩ := rfl
@[simp] theorem t128 : tf 128 tys = some ⟨0, 1, 8, [.nilFunc], [], 0, 0⟩ := rfl
@[simp] theorem t129 : tf 129 tys = some ⟨0, 1, 8, [.nilFunc], [], 0, 0⟩ := rfl
@[simp] theorem t130 : tf 130 tys = some ⟨2, 1, 8, [.int .i64 0], [], 3, 1⟩ := rfl
@[simp] theorem t131 : tf 131 tys = some ⟨0, 1, 8, [.nilFunc], [], 0, 0⟩ := rfl
@[simp] theorem t132 : tf 132 tys = some ⟨0, 1, 8, [.nilFunc], [], 0, 0⟩ := rfl
@[simp] theorem t134 : tf 134 tys = some ⟨0, 1, 8, [.nilFunc], [], 0, 0⟩ := rfl
@[simp] theorem t135 : tf 135 tys = some ⟨0, 1, 8, [.nilFunc], [], 0, 0⟩ := rfl
@[simp] theorem t136 : tf 136 tys = some ⟨0, 1, 8, [.nilFunc], [], 0, 0⟩ := rfl
@[simp] theorem t137 : tf 137 tys = some ⟨0, 1, 8, [.nilFunc], [], 0, 0⟩ := rfl
@[simp] theorem t138 : tf 138 tys = some ⟨1, 3, 24, [.int .i64 0, .int .i64 0, .int .i64 0], [(0, 1, false), (1, 1, false), (2, 1, false)], 0, 0⟩ := rfl
@[simp] theorem t139 : tf 139 tys = some ⟨1, 3, 24, [.int .i64 0, .int .i64 0, .int .i64 0], [(0, 1, false), (1, 1, false), (2, 1, false)], 0, 0⟩ := rfl
@[simp] theorem t140 : tf 140 tys = some ⟨1, 4, 48, [.int .i64 0, .string ⟨#[]⟩, .string ⟨#[]⟩, .int .i64 0], [(0, 1, false), (1, 1, false), (2, 1, false), (3, 1, false)], 0, 0⟩ := rfl
@[simp] theorem t141 : tf 141 tys = some ⟨1, 4, 48, [.int .i64 0, .string ⟨#[]⟩, .string ⟨#[]⟩, .int .i64 0], [(0, 1, false), (1, 1, false), (2, 1, false), (3, 1, false)], 0, 0⟩ := rfl
@[simp] theorem t142 : tf 142 tys = some ⟨0, 1, 8, [.nilFunc], [], 0, 0⟩ := rfl
@[simp] theorem t144 : tf 144 tys = some ⟨0, 1, 8, [.nilFunc], [], 0, 0⟩ := rfl
@[simp] theorem t146 : tf 146 tys = some ⟨0, 1, 8, [.nilFunc], [], 0, 0⟩ := rfl
@[simp] theorem t147 : tf 147 tys = some ⟨0, 1, 8, [.nilFunc], [], 0, 0⟩ := rfl
@[simp] theorem t148 : tf 148 tys = some ⟨0, 1, 8, [.nilFunc], [], 0, 0⟩ := rfl
@[simp] theorem t149 : tf 149 tys = some ⟨0, 1, 8, [.nilFunc], [], 0, 0⟩ := rfl
@[simp] theorem t150 : tf 150 tys = some ⟨0, 1, 8, [.nilFunc], [], 0, 0⟩ := rfl
@[simp] theorem t151 : tf 151 tys = some ⟨0, 1, 8, [.nilFunc], [], 0, 0⟩ := rfl
@[simp] theorem t153 : tf 153 tys = some ⟨0, 1, 8, [.nilFunc], [], 0, 0⟩ := rfl
@[simp] theorem t154 : tf 154 tys = some ⟨0, 1, 8, [.nilFunc], [], 0, 0⟩ := rfl
@[simp] theorem t155 : tf 155 tys = some ⟨0, 1, 8, [.nilFunc], [], 0, 0⟩ := rfl
@[simp] theorem t156 : tf 156 tys = some ⟨0, 1, 8, [.nilFunc], [], 0, 0⟩ := rfl
@[simp] theorem t157 : tf 157 tys = some ⟨0, 1, 8, [.nilFunc], [], 0, 0⟩ := rfl
@[simp] theorem t158 : tf 158 tys = some ⟨0, 1, 8, [.nilFunc], [], 0, 0⟩ := rfl
@[simp] theorem t159 : tf 159 tys = some ⟨0, 1, 8, [.nilFunc], [], 0, 0⟩ := rfl
@[simp] theorem t160 : tf 160 tys = some ⟨0, 1, 8, [.nilFunc], [], 0, 0⟩ := rfl
@[simp] theorem t161 : tf 161 tys = some ⟨0, 1, 8, [.nilFunc], [], 0, 0⟩ := rfl
@[simp] theorem t162 : tf 162 tys = some ⟨0, 1, 8, [.nilFunc], [], 0, 0⟩ := rfl
@[simp] theorem t163 : tf 163 tys = some ⟨0, 1, 8, [.nilFunc], [], 0, 0⟩ := rfl
@[simp] theorem t164 : tf 164 tys = some ⟨0, 1, 8, [.nilFunc], [], 0, 0⟩ := rfl
@[simp] theorem t165 : tf 165 tys = some ⟨3, 1, 24, [.slice none 0 0], [], 57, 0⟩ := rfl
@[simp] theorem t167 : tf 167 tys = some ⟨0, 1, 8, [.nilFunc], [], 0, 0⟩ := rfl
@[simp] theorem t168 : tf 168 tys = some ⟨0, 1, 8, [.nilFunc], [], 0, 0⟩ := rfl
@[simp] theorem t170 : tf 170 tys = some ⟨0, 1, 8, [.nilFunc], [], 0, 0⟩ := rfl
@[simp] theorem t171 : tf 171 tys = some ⟨0, 1, 8, [.nilFunc], [], 0, 0⟩ := rfl
@[simp] theorem t173 : tf 173 tys = some ⟨0, 1, 8, [.nilFunc], [], 0, 0⟩ := rfl
@[simp] theorem t174 : tf 174 tys = some ⟨8, 1, 4, [.int .u32 0], [], 6, 0⟩ := rfl
@[simp] theorem t175 : tf 175 tys = some ⟨0, 1, 8, [.nilFunc], [], 0, 0⟩ := rfl
@[simp] theorem t177 : tf 177 tys = some ⟨0, 1, 8, [.nilFunc], [], 0, 0⟩ := rfl
@[simp] theorem t179 : tf 179 tys = some ⟨0, 1, 8, [.nilFunc], [], 0, 0⟩ := rfl
@[simp] theorem t180 : tf 180 tys = some ⟨0, 1, 8, [.nilFunc], [], 0, 0⟩ := rfl
@[simp] theorem t181 : tf 181 tys = some ⟨0, 1, 8, [.nilFunc], [], 0, 0⟩ := rfl
@[simp] theorem t182 : tf 182 tys = some ⟨0, 1, 8, [.nilFunc], [], 0, 0⟩ := rfl
@[simp] theorem t183 : tf 183 tys = some ⟨0, 1, 8, [.nilFunc], [], 0, 0⟩ := rfl
@[simp] theorem t184 : tf 184 tys = some ⟨3, 1, 24, [.slice none 0 0], [], 9, 0⟩ := rfl
@[simp] theorem t186 : tf 186 tys = some ⟨0, 1, 8, [.nilFunc], [], 0, 0⟩ := rfl
@[simp] theorem t187 : tf 187 tys = some ⟨0, 1, 8, [.nilFunc], [], 0, 0⟩ := rfl
@[simp] theorem t188 : tf 188 tys = some ⟨0, 1, 8, [.nilFunc], [], 0, 0⟩ := rfl
@[simp] theorem t189 : tf 189 tys = some ⟨0, 1, 8, [.nilFunc], [], 0, 0⟩ := rfl
@[simp] theorem t190 : tf 190 tys = some ⟨0, 1, 8, [.nilFunc], [], 0, 0⟩ := rfl
@[simp] theorem t192 : tf 192 tys = some ⟨0, 1, 8, [.nilFunc], [], 0, 0⟩ := rfl
@[simp] theorem t194 : tf 194 tys = some ⟨0, 1, 8, [.nilFunc], [], 0, 0⟩ := rfl
@[simp] theorem t195 : tf 195 tys = some ⟨0, 1, 8, [.nilFunc], [], 0, 0⟩ := rfl
@[simp] theorem t196 : tf 196 tys = some ⟨0, 1, 8, [.nilFunc], [], 0, 0⟩ := rfl
@[simp] theorem t197 : tf 197 tys = some ⟨2, 4, 32, [.int .i64 0, .int .i64 0, .int .i64 0, .int .i64 0], [], 3, 4⟩ := rfl
@[simp] theorem t198 : tf 198 tys = some ⟨0, 1, 8, [.nilFunc], [], 0, 0⟩ := rfl
@[simp] theorem t199 : tf 199 tys = some ⟨0, 1, 8, [.nilFunc], [], 0, 0⟩ := rfl
@[simp] theorem t200 : tf 200 tys = some ⟨0, 1, 8, [.nilFunc], [], 0, 0⟩ := rfl
@[simp] theorem t201 : tf 201 tys = some ⟨0, 1, 8, [.nilFunc], [], 0, 0⟩ := rfl
@[simp] theorem t202 : tf 202 tys = some ⟨0, 1, 8, [.nilFunc], [], 0, 0⟩ := rfl
@[simp] theorem t203 : tf 203 tys = some ⟨0, 1, 8, [.nilFunc], [], 0, 0⟩ := rfl
@[simp] theorem t204 : tf 204 tys = some ⟨0, 1, 8, [.nilFunc], [], 0, 0⟩ := rfl
@[simp] theorem t205 : tf 205 tys = some ⟨0, 1, 8, [.nilFunc], [], 0, 0⟩ := rfl
@[simp] theorem t206 : tf 206 tys = some ⟨0, 1, 8, [.nilFunc], [], 0, 0⟩ := rfl
@[simp] theorem t207 : tf 207 tys = some ⟨0, 1, 8, [.nilFunc], [], 0, 0⟩ := rfl
@[simp] theorem t208 : tf 208 tys = some ⟨0, 1, 8, [.nilFunc], [], 0, 0⟩ := rfl
@[simp] theorem t210 : tf 210 tys = some ⟨0, 1, 8, [.nilFunc], [], 0, 0⟩ := rfl
@[simp] theorem t211 : tf 211 tys = some ⟨0, 1, 8, [.nilFunc], [], 0, 0⟩ := rfl
@[simp] theorem t212 : tf 212 tys = some ⟨6, 1, 8, [.pointer none], [], 214, 0⟩ := rfl
@[simp] theorem t213 : tf 213 tys = some ⟨1, 3, 40, [.slice none 0 0, .int .i64 0, .int .i64 0], [(0, 1, false), (1, 1, false), (2, 1, false)], 0, 0⟩ := rfl
@[simp] theorem t214 : tf 214 tys = some ⟨1, 3, 40, [.slice none 0 0, .int .i64 0, .int .i64 0], [(0, 1, false), (1, 1, false), (2, 1, false)], 0, 0⟩ := rfl
@[simp] theorem t215 : tf 215 tys = some ⟨0, 1, 8, [.nilFunc], [], 0, 0⟩ := rfl
@[simp] theorem t216 : tf 216 tys = some ⟨0, 1, 8, [.nilFunc], [], 0, 0⟩ := rfl
@[simp] theorem t217 : tf 217 tys = some ⟨6, 1, 8, [.pointer none], [], 219, 0⟩ := rfl
@[simp] theorem t218 : tf 218 tys = some ⟨1, 3, 40, [.slice none 0 0, .int .i64 0, .bool false], [(0, 1, false), (1, 1, false), (2, 1, false)], 0, 0⟩ := rfl
@[simp] theorem t219 : tf 219 tys = some ⟨1, 3, 40, [.slice none 0 0, .int .i64 0, .bool false], [(0, 1, false), (1, 1, false), (2, 1, false)], 0, 0⟩ := rfl
@[simp] theorem t220 : tf 220 tys = some ⟨0, 1, 8, [.nilFunc], [], 0, 0⟩ := rfl
@[simp] theorem t222 : tf 222 tys = some ⟨0, 1, 8, [.nilFunc], [], 0, 0⟩ := rfl
@[simp] theorem t223 : tf 223 tys = some ⟨0, 1, 8, [.nilFunc], [], 0, 0⟩ := rfl
@[simp] theorem t225 : tf 225 tys = some ⟨0, 1, 8, [.nilFunc], [], 0, 0⟩ := rfl
@[simp] theorem t227 : tf 227 tys = some ⟨0, 1, 8, [.nilFunc], [], 0, 0⟩ := rfl
@[simp] theorem t229 : tf 229 tys = some ⟨0, 1, 8, [.nilFunc], [], 0, 0⟩ := rfl
@[simp] theorem t230 : tf 230 tys = some ⟨0, 1, 8, [.nilFunc], [], 0, 0⟩ := rfl
@[simp] theorem t232 : tf 232 tys = some ⟨0, 1, 8, [.nilFunc], [], 0, 0⟩ := rfl
@[simp] theorem t233 : tf 233 tys = some ⟨0, 1, 8, [.nilFunc], [], 0, 0⟩ := rfl
@[simp] theorem t234 : tf 234 tys = some ⟨0, 1, 8, [.nilFunc], [], 0, 0⟩ := rfl
@[simp] theorem t235 : tf 235 tys = some ⟨0, 1, 8, [.nilFunc], [], 0, 0⟩ := rfl
@[simp] theorem t236 : tf 236 tys = some ⟨0, 1, 8, [.nilFunc], [], 0, 0⟩ := rfl
@[simp] theorem t237 : tf 237 tys = some ⟨6, 1, 8, [.pointer none], [], 239, 0⟩ := rfl
@[simp] theorem t238 : tf 238 tys = some ⟨1, 6, 96, [.int .i64 0, .slice none 0 0, .slice none 0 0, .slice none 0 0, .int .i64 0, .int .i64 0], [(0, 3, true), (3, 1, false), (4, 1, false), (5, 1, false)], 0, 0⟩ := rfl
@[simp] theorem t239 : tf 239 tys = some ⟨1, 6, 96, [.int .i64 0, .slice none 0 0, .slice none 0 0, .slice none 0 0, .int .i64 0, .int .i64 0], [(0, 3, true), (3, 1, false), (4, 1, false), (5, 1, false)], 0, 0⟩ := rfl
@[simp] theorem t240 : tf 240 tys = some ⟨0, 1, 8, [.nilFunc], [], 0, 0⟩ := rfl
@[simp] theorem t241 : tf 241 tys = some ⟨0, 1, 8, [.nilFunc], [], 0, 0⟩ := rfl
@[simp] theorem t242 : tf 242 tys = some ⟨0, 1, 8, [.nilFunc], [], 0, 0⟩ := rfl
@[simp] theorem t243 : tf 243 tys = some ⟨0, 1, 8, [.nilFunc], [], 0, 0⟩ := rfl
@[simp] theorem t244 : tf 244 tys = some ⟨0, 1, 8, [.nilFunc], [], 0, 0⟩ := rfl
@[simp] theorem t245 : tf 245 tys = some ⟨0, 1, 8, [.nilFunc], [], 0, 0⟩ := rfl
@[simp] theorem t246 : tf 246 tys = some ⟨0, 1, 8, [.nilFunc], [], 0, 0⟩ := rfl
@[simp] theorem t247 : tf 247 tys = some ⟨0, 1, 8, [.nilFunc], [], 0, 0⟩ := rfl
@[simp] theorem t248 : tf 248 tys = some ⟨0, 1, 8, [.nilFunc], [], 0, 0⟩ := rfl
@[simp] theorem t249 : tf 249 tys = some ⟨0, 1, 8, [.nilFunc], [], 0, 0⟩ := rfl
@[simp] theorem t250 : tf 250 tys = some ⟨0, 1, 8, [.nilFunc], [], 0, 0⟩ := rfl
@[simp] theorem t251 : tf 251 tys = some ⟨0, 1, 8, [.nilFunc], [], 0, 0⟩ := rfl
@[simp] theorem t252 : tf 252 tys = some ⟨0, 1, 8, [.nilFunc], [], 0, 0⟩ := rfl
@[simp] theorem t253 : tf 253 tys = some ⟨0, 1, 8, [.nilFunc], [], 0, 0⟩ := rfl
@[simp] theorem t254 : tf 254 tys = some ⟨6, 1, 8, [.pointer none], [], 3, 0⟩ := rfl
@[simp] theorem t255 : tf 255 tys = some ⟨2, 4, 32, [.pointer none, .pointer none, .pointer none, .pointer none], [], 254, 4⟩ := rfl
@[simp] theorem t256 : tf 256 tys = some ⟨2, 3, 24, [.int .i64 0, .int .i64 0, .int .i64 0], [], 3, 3⟩ := rfl
@[simp] theorem t258 : tf 258 tys = some ⟨0, 1, 8, [.nilFunc], [], 0, 0⟩ := rfl
@[simp] theorem t259 : tf 259 tys = some ⟨0, 1, 8, [.nilFunc], [], 0, 0⟩ := rfl
@[simp] theorem t260 : tf 260 tys = some ⟨0, 1, 8, [.nilFunc], [], 0, 0⟩ := rfl
@[simp] theorem t261 : tf 261 tys = some ⟨0, 1, 8, [.nilFunc], [], 0, 0⟩ := rfl
@[simp] theorem t262 : tf 262 tys = some ⟨1, 4, 40, [.pointer none, .pointer none, .pointer none, .string ⟨#[]⟩], [(0, 1, false), (1, 1, false), (2, 1, false), (3, 1, false)], 0, 0⟩ := rfl
@[simp] theorem t263 : tf 263 tys = some ⟨1, 4, 40, [.pointer none, .pointer none, .pointer none, .string ⟨#[]⟩], [(0, 1, false), (1, 1, false), (2, 1, false), (3, 1, false)], 0, 0⟩ := rfl
@[simp] theorem t264 : tf 264 tys = some ⟨2, 0, 0, [], [], 16, 0⟩ := rfl
@[simp] theorem t265 : tf 265 tys = some ⟨1, 0, 0, [], [(0, 0, true)], 0, 0⟩ := rfl
@[simp] theorem t266 : tf 266 tys = some ⟨1, 0, 0, [], [(0, 0, true)], 0, 0⟩ := rfl
@[simp] theorem t267 : tf 267 tys = some ⟨8, 1, 1, [.int .u8 0], [], 4, 0⟩ := rfl
@[simp] theorem t268 : tf 268 tys = some ⟨8, 1, 1, [.int .u8 0], [], 4, 0⟩ := rfl
@[simp] theorem t269 : tf 269 tys = some ⟨0, 1, 8, [.nilFunc], [], 0, 0⟩ := rfl
@[simp] theorem t270 : tf 270 tys = some ⟨6, 1, 8, [.pointer none], [], 5, 0⟩ := rfl
@[simp] theorem t271 : tf 271 tys = some ⟨8, 1, 4, [.int .i32 0], [], 2, 0⟩ := rfl
@[simp] theorem t272 : tf 272 tys = some ⟨8, 1, 4, [.int .i32 0], [], 2, 0⟩ := rfl
@[simp] theorem t273 : tf 273 tys = some ⟨1, 11, 48, [.int .u64 0, .int .u64 0, .int .u32 0, .int .u8 0, .int .u8 0, .int .u8 0, .int .u8 0, .nilFunc, .pointer none, .int .i32 0, .int .i32 0], [(0, 1, false), (1, 1, false), (2, 1, false), (3, 1, false), (4, 1, false), (5, 1, false), (6, 1, false), (7, 1, false), (8, 1, false), (9, 1, false), (10, 1, false)], 0, 0⟩ := rfl
@[simp] theorem t274 : tf 274 tys = some ⟨1, 11, 48, [.int .u64 0, .int .u64 0, .int .u32 0, .int .u8 0, .int .u8 0, .int .u8 0, .int .u8 0, .nilFunc, .pointer none, .int .i32 0, .int .i32 0], [(0, 1, false), (1, 1, false), (2, 1, false), (3, 1, false), (4, 1, false), (5, 1, false), (6, 1, false), (7, 1, false), (8, 1, false), (9, 1, false), (10, 1, false)], 0, 0⟩ := rfl
@[simp] theorem t275 : tf 275 tys = some ⟨1, 1, 8, [.int .i64 0], [(0, 1, false)], 0, 0⟩ := rfl
@[simp] theorem t276 : tf 276 tys = some ⟨1, 1, 8, [.int .i64 0], [(0, 1, false)], 0, 0⟩ := rfl
end Go.Proofs.YtbbaoeidobdblaaGreat.Sx

/- Sx, part 9: what is lent, and handed back; function values; slices that are made; texts as bytes. -/
set_option linter.unusedVariables false
set_option linter.unusedSimpArgs false
namespace Go.Proofs.YtbbaoeidobdblaaGreat.Sx
open Go
/-- The same values. -/
def Res.eqv : Res → Res → Prop
  | .box g T cs, .box g' T' cs' => g = g' ∧ T = T' ∧ cs.map CV.val = cs'.map CV.val
  | .row a n c T sz cs, .row a' n' c' T' sz' cs' => a = a' ∧ n = n' ∧ c = c' ∧ T = T' ∧ sz = sz' ∧ cs.map CV.val = cs'.map CV.val
  | .usr A, .usr A' => A = A'
  | _, _ => False
theorem Res.eqv.to {r r' : Res} (h : r.eqv r') {S : Nat → Prop} {w : World} (k : r.holds S w) : r'.holds S w := by
  cases r <;> cases r' <;> simp only [Res.eqv] at h
  · obtain ⟨rfl, rfl, h⟩ := h
    simpa only [Res.holds, h] using k
  · obtain ⟨rfl, rfl, rfl, rfl, rfl, h⟩ := h
    simpa only [Res.holds, h] using k
  · subst h
    exact k
theorem Res.holds.same {r : Res} {S S' : Nat → Prop} {w : World} (k : r.holds S w) (h : ∀ b, S' b ↔ S b) : r.holds S' w := by
  have : S' = S := funext fun b => propext (h b)
  rw [this]
  exact k
/-- Some things of one's own, each on blocks that no other is on; S are all of these. -/
def Owns (rs : List Res) (S : Nat → Prop) (w : World) : Prop := ∃ F : Nat → Nat → Prop, (∀ i (r : Res), rs[i]? = some r → r.holds (F i) w) ∧ (∀ i j b, i < rs.length → j < rs.length → i ≠ j → F i b → ¬ F j b) ∧ ∀ b, S b ↔ ∃ i, i < rs.length ∧ F i b
/-- The contract of a function that is lent things, and hands things back. -/
abbrev FnS (P : Program) (f : FuncId) (args : Array Value) (w : World) (I S : Nat → Prop) {α : Type} (enc : α → Value) (rs : α → List Res) (R : α → World → Prop) : Prop := Fits P f args w I S enc (fun x => Owns (rs x)) R
def num : Nat → List Res → List (Nat × Res)
  | _, [] => []
  | j, r :: l => (j, r) :: num (j + 1) l
theorem num_mem {p : Nat × Res} : ∀ {l : List Res} {j : Nat}, p ∈ num j l → ∃ i, l[i]? = some p.2 ∧ p.1 = j + i
  | [], j, h => by cases h
  | r :: l, j, h => by
    rcases List.mem_cons.1 h with rfl | h
    · exact ⟨0, rfl, rfl⟩
    · obtain ⟨i, h1, h2⟩ := num_mem h
      exact ⟨i + 1, by simpa using h1, by omega⟩
theorem enterS {P : Program} {f : FuncId} {fn : Func} {c : Code} {T : Ty} {res : List ResultVar} {n : Nat} {svs : List SV} {w : World} {I S : Nat → Prop} {α : Type} {enc : α → Value} {B : α → (Nat → Prop) → World → Prop} {R : α → World → Prop} (hT : TyOk P T) (hf : P.funcs[f]? = some fn) (hb : fn.body = some c) (hn : fn.ntmps = n) (hr : fn.results = res.toArray) (hc : callB P f = true)
    (hl : svs.length ≤ n) (hI : ∀ b, I b → b < w.heap.size) (lent : List Res) (hS : Owns lent S w) (hSI : ∀ b, S b → b < w.heap.size ∧ ¬ I b) (G : World → Prop) (hG : ∀ W, Ext I w W → G W)
    (h : ∀ C : Ctx, C = ⟨P, f, fn, n, w, I, S, α, enc, B, R⟩ → C.n = n → Okc P T C res → sx T C res 1000 (.todo [.code c]) (argsT 0 svs) ⟨fun _ => True, G, num 1000 lent⟩) : Fits P f (svs.map SV.val).toArray w I S enc B R := by
  obtain ⟨F, h1, h2, h3⟩ := hS
  refine enterJ hT hf hb hn hr hc hl ⟨I, fun k => F (k - 1000), Ext.refl _ _, hI, fun _ h => h, fun _ h _ => h, ?_, ?_, ?_, ?_, fun _ _ => trivial, hG⟩ h
  · intro p hp
    obtain ⟨i, k1, k2⟩ := num_mem hp
    rw [k2, Nat.add_sub_cancel_left]
    exact h1 i _ k1
  · intro p b hp hb
    obtain ⟨i, k1, k2⟩ := num_mem hp
    have hs : S b := (h3 b).2 ⟨p.1 - 1000, by have := (List.getElem?_eq_some_iff.1 k1).1; omega, hb⟩
    exact ⟨(hSI b hs).1, (hSI b hs).2, fun _ => hs⟩
  · intro p q b hp hq hne hb
    obtain ⟨i, k1, k2⟩ := num_mem hp
    obtain ⟨j, k3, k4⟩ := num_mem hq
    have e1 := (List.getElem?_eq_some_iff.1 k1).1
    have e2 := (List.getElem?_eq_some_iff.1 k3).1
    exact h2 _ _ b (by omega) (by omega) (by omega) hb
  · intro p b hp hlt
    obtain ⟨i, k1, k2⟩ := num_mem hp
    omega
/-- Things of one's own, by their numbers, are these. -/
def give (m : List (Nat × Res)) : List Nat → List Res → Prop
  | [], [] => True
  | k :: ks, r :: rs => (match look k m with | some q => q.eqv r | none => False) ∧ memN k ks = false ∧ give m ks rs
  | _, _ => False
theorem memN_mem {k : Nat} : ∀ {ks : List Nat}, memN k ks = true ↔ k ∈ ks
  | [] => by simp [memN]
  | j :: r => by
    simp only [memN, List.mem_cons]
    split
    · rename_i e; simp [e]
    · rename_i e; simp [e, memN_mem]
theorem give_get {m : List (Nat × Res)} : ∀ {ks : List Nat} {rs : List Res}, give m ks rs → ks.length = rs.length ∧ ks.Nodup ∧ ∀ (i : Nat) (r : Res), rs[i]? = some r → ∃ q, look (ks.getD i 0) m = some q ∧ q.eqv r
  | [], [], _ => ⟨rfl, List.nodup_nil, fun i r h => by simp at h⟩
  | k :: ks, r :: rs, ⟨h1, h2, h3⟩ => by
    obtain ⟨k1, k2, k3⟩ := give_get h3
    refine ⟨by simp [k1], List.nodup_cons.2 ⟨fun hm => ?_, k2⟩, fun i q h => ?_⟩
    · rw [memN_mem.2 hm] at h2
      cases h2
    · cases i with
      | zero =>
        simp only [List.getElem?_cons_zero, Option.some.injEq] at h
        subst h
        split at h1
        · rename_i q hq
          exact ⟨q, by simpa using hq, h1⟩
        · exact h1.elim
      | succ i =>
        simp only [List.getElem?_cons_succ] at h
        simpa using k3 i q h
  | [], _ :: _, h => h.elim
  | _ :: _, [], h => h.elim
theorem give_S {m : List (Nat × Res)} {ks : List Nat} {rs : List Res} (h : give m ks rs) {F : Nat → Nat → Prop} {w : World} (own : ∀ p, p ∈ m → p.2.holds (F p.1) w) (disj : ∀ p q b, p ∈ m → q ∈ m → p.1 ≠ q.1 → F p.1 b → ¬ F q.1 b) : Owns rs (fun b => ∃ k, k ∈ ks ∧ F k b) w ∧ ∀ k, k ∈ ks → ∃ r, (k, r) ∈ m := by
  obtain ⟨h1, h2, h3⟩ := give_get h
  have hg : ∀ i, i < ks.length → ∃ r, (ks.getD i 0, r) ∈ m := fun i hi => by
    obtain ⟨q, hq, _⟩ := h3 i rs[i] (List.getElem?_eq_getElem (by omega))
    exact ⟨q, look_mem hq⟩
  have hd : ∀ i, (hi : i < ks.length) → ks.getD i 0 = ks[i] := fun i hi => by simp [hi]
  refine ⟨⟨fun i => F (ks.getD i 0), fun i r hr => ?_, fun i j b hi hj hne hb hb' => ?_, fun b => ⟨?_, ?_⟩⟩, ?_⟩
  · obtain ⟨q, hq, he⟩ := h3 i r hr
    exact he.to (own _ (look_mem hq))
  · obtain ⟨r1, m1⟩ := hg i (by omega)
    obtain ⟨r2, m2⟩ := hg j (by omega)
    refine disj _ _ b m1 m2 (fun e => hne ?_) hb hb'
    simp only [hd i (by omega), hd j (by omega)] at e
    exact (List.getElem_inj h2).1 e
  · rintro ⟨k, hk, hb⟩
    obtain ⟨i, hi, rfl⟩ := List.getElem_of_mem hk
    exact ⟨i, by omega, by show F (ks.getD i 0) b; rw [hd i hi]; exact hb⟩
  · rintro ⟨i, hi, hb⟩
    exact ⟨_, by rw [hd i (by omega)]; exact List.getElem_mem _, hb⟩
  · intro k hk
    obtain ⟨i, hi, rfl⟩ := List.getElem_of_mem hk
    obtain ⟨r, hr⟩ := hg i hi
    rw [hd i hi] at hr
    exact ⟨r, hr⟩
def rest (ks : List Nat) : List (Nat × Res) → List (Nat × Res)
  | [] => []
  | (k, r) :: t => match memN k ks || Nat.ble 1000 k with | true => rest ks t | false => (k, r) :: rest ks t
theorem rest_mem {ks : List Nat} {p : Nat × Res} : ∀ {l : List (Nat × Res)}, p ∈ rest ks l → p ∈ l ∧ p.1 ∉ ks ∧ p.1 < 1000
  | [], h => by cases h
  | (k, r) :: t, h => by
    simp only [rest] at h
    split at h
    · exact ⟨List.mem_cons_of_mem _ (rest_mem h).1, (rest_mem h).2⟩
    · rename_i hn
      rcases List.mem_cons.1 h with rfl | h
      · simp only [Bool.or_eq_false_iff] at hn
        refine ⟨List.mem_cons_self, fun hm => ?_, ?_⟩
        · rw [memN_mem.2 hm] at hn
          cases hn.1
        · have := hn.2
          rcases Nat.lt_or_ge k 1000 with h5 | h5
          · exact h5
          · rw [Nat.ble_eq_true_of_le h5] at this
            cases this
      · exact ⟨List.mem_cons_of_mem _ (rest_mem h).1, (rest_mem h).2⟩
def delL : List Nat → List (Nat × Res) → List (Nat × Res)
  | [], l => l
  | k :: ks, l => delL ks (del k l)
theorem delL_mem {p : Nat × Res} : ∀ {ks : List Nat} {l : List (Nat × Res)}, p ∈ delL ks l → p ∈ l ∧ p.1 ∉ ks
  | [], l, h => ⟨h, by simp⟩
  | k :: ks, l, h => by
    obtain ⟨h1, h2⟩ := delL_mem (ks := ks) h
    obtain ⟨h3, h4⟩ := mem_del h1
    exact ⟨h3, by simp [h2, h4]⟩
/-- What is handed back stands under these numbers. -/
def back : List (Nat × Res) → List Res → Prop
  | [], [] => True
  | (k, r) :: t, q :: l => q.eqv r ∧ memN k (t.map Prod.fst) = false ∧ back t l
  | _, _ => False
theorem back_get : ∀ {t : List (Nat × Res)} {l : List Res}, back t l → t.length = l.length ∧ (t.map Prod.fst).Nodup ∧ ∀ (i : Nat) (p : Nat × Res), t[i]? = some p → ∃ q : Res, l[i]? = some q ∧ q.eqv p.2
  | [], [], _ => ⟨rfl, List.nodup_nil, fun i r h => by simp at h⟩
  | (k, r) :: t, q :: l, ⟨h1, h2, h3⟩ => by
    obtain ⟨k1, k2, k3⟩ := back_get h3
    refine ⟨by simp [k1], List.nodup_cons.2 ⟨fun hm => ?_, k2⟩, fun i p h => ?_⟩
    · rw [memN_mem.2 hm] at h2
      cases h2
    · cases i with
      | zero =>
        simp only [List.getElem?_cons_zero, Option.some.injEq] at h
        subst h
        exact ⟨q, rfl, h1⟩
      | succ i =>
        simp only [List.getElem?_cons_succ] at h
        simpa using k3 i p h
  | [], _ :: _, h => h.elim
  | _ :: _, [], h => h.elim
/-- New blocks are there, which nobody will change. -/
theorem Inv.more {C : Ctx} {m : Mem} {w w' : World} {I : Nat → Prop} {F : Nat → Nat → Prop} (h : Inv C m w I F) (he : Ext (fun b => b < w.heap.size) w w') {Q : World → Prop} (hq : ∀ W, Ext (fun b => I b ∨ (w.heap.size ≤ b ∧ b < w'.heap.size)) w' W → Q W) :
    Inv C ⟨m.B, fun W => Q W ∧ m.G W, m.rs⟩ w' (fun b => I b ∨ (w.heap.size ≤ b ∧ b < w'.heap.size)) F := by
  refine ⟨h.grow.trans he fun b hb => Nat.lt_of_lt_of_le hb.1 h.grow.size, ?_, fun b hb => .inl (h.I0 b hb), ?_, fun q hq => (h.own q hq).ext (he.mono fun b hb => (h.Fsz q b hq hb).1), ?_, h.disj, h.new, fun W e => h.base W ((he.mono h.Isz).trans e fun b hb => .inl hb), fun W e => ⟨hq W e, h.know W ((he.mono h.Isz).trans e fun b hb => .inl hb)⟩⟩
  · rintro b (hb | hb)
    · exact Nat.lt_of_lt_of_le (h.Isz b hb) he.size
    · exact hb.2
  · rintro b (hb | hb) hlt
    · exact h.Iold b hb hlt
    · have := h.grow.size; omega
  · intro q b hq hb
    obtain ⟨h1, h2, h3⟩ := h.Fsz q b hq hb
    refine ⟨Nat.lt_of_lt_of_le h1 he.size, ?_, h3⟩
    rintro (h4 | h4)
    · exact h2 h4
    · omega
section
variable {P : Program} {C : Ctx} {T : Ty} {res : List ResultVar} {p : Pos} {tm : Tm} {m : Mem}
theorem retS0 {v : Value} (rs : C.α → List Res) (hB : C.B = fun x => Owns (rs x)) (x : C.α) (hv : v = C.enc x) (ks : List Nat) (hg : give m.rs ks (rs x)) (h : ∀ W, pubs (rest ks m.rs) W → m.G W → C.R x W) : RetP C v m := by
  rintro w ⟨I, F, hi⟩
  obtain ⟨ho, hk⟩ := give_S hg hi.own hi.disj
  have hF : ∀ b, (∃ k, k ∈ ks ∧ F k b) → b < w.heap.size ∧ ¬ I b ∧ (b < C.w0.heap.size → C.S0 b) := fun b ⟨k, h1, h2⟩ => by
    obtain ⟨r, hr⟩ := hk k h1
    exact hi.Fsz _ b hr h2
  refine ⟨x, fun b => ∃ k, k ∈ ks ∧ F k b, by rw [hv], hi.grow, fun b hb => ⟨(hF b hb).1, fun h0 => (hF b hb).2.1 (hi.I0 b h0), (hF b hb).2.2⟩, by rw [hB]; exact ho, fun W e => h W (pubs_of fun q hq => ?_) (hi.know W (e.mono fun b hb => ⟨?_, fun hs => (hF b hs).2.1 hb⟩))⟩
  · obtain ⟨h1, h2, h3⟩ := rest_mem hq
    refine ((hi.own q h1).ext (e.mono fun b hb => ⟨.inr ⟨hi.new q b h1 h3 hb, (hi.Fsz q b h1 hb).1⟩, ?_⟩)).fact
    rintro ⟨k, h4, h5⟩
    obtain ⟨r, hr⟩ := hk k h4
    exact hi.disj q (k, r) b h1 hr (fun e => h2 (by rw [e]; exact h4)) hb h5
  · rcases Nat.lt_or_ge b C.w0.heap.size with h4 | h4
    · exact .inl (hi.Iold b hb h4)
    · exact .inr ⟨h4, hi.Isz b hb⟩
theorem retS {v : Value} {f : FuncId} {fn : Func} {n : Nat} {w : World} {I S : Nat → Prop} {α : Type} {enc : α → Value} {rs : α → List Res} {R : α → World → Prop} (hC : C = ⟨P, f, fn, n, w, I, S, α, enc, fun x => Owns (rs x), R⟩) (x : α) (ks : List Nat) (hv : v = enc x) (hg : give m.rs ks (rs x)) (h : ∀ W, pubs (rest ks m.rs) W → m.G W → R x W) : RetP C v m := by
  subst hC
  exact retS0 rs rfl x hv ks hg h
/-- A call of a function that is lent things (ks), and hands things back. -/
theorem callS (ok : Okc P T C res) {o : Oper} {fo : Operand} {args : Array Operand} {tys : Array TypeId} (ho : o.op = .call ⟨.value fo, args, tys⟩) {f : FuncId} {fi ca : Array Value} (hf : ev tm fo = some (.c (.v (.func (.func f) fi ca)))) {svs : List SV} (ha : evs tm args.toList = some svs) (ks : List Nat) (lent : List Res) (hg : give m.rs ks lent)
    {V : Array Value} (hV : fi ++ (svs.map SV.val).toArray ++ ca = V) {α : Type} {enc : α → Value} {rs : α → List Res} {R : α → World → Prop} (bk : α → List (Nat × Res))
    (spec : ∀ w I S, (∀ b, I b → b < w.heap.size) → (∀ W, Ext I w W → m.G W) → Owns lent S w → (∀ b, S b → b < w.heap.size ∧ ¬ I b) → FnS P f V w I S enc rs R)
    (hbk : ∀ x, back (bk x) (rs x)) (hks : (∀ k, k ∈ ks → k < 1000) ∨ ∀ x q, q ∈ bk x → 1000 ≤ q.1)
    (k : ∀ x W, R x W → sx T C res 1000 p (put C.n o.dst (.c (nv (enc x))) tm) ⟨m.B, fun W => R x W ∧ m.G W, bk x ++ delL ((bk x).map Prod.fst) (delL ks m.rs)⟩) : At C (.op o p) tm m := by
  obtain rfl := ok.P
  rintro a w cs hR ⟨I, F, hi⟩
  obtain ⟨hown, hkm⟩ := give_S hg hi.own hi.disj
  have hF : ∀ b, (∃ k, k ∈ ks ∧ F k b) → b < w.heap.size ∧ ¬ I b ∧ (b < C.w0.heap.size → C.S0 b) := fun b ⟨k, h1, h2⟩ => by
    obtain ⟨r, hr⟩ := hkm k h1
    exact hi.Fsz _ b hr h2
  obtain ⟨hc, hs⟩ := spec w I _ hi.Isz hi.know hown fun b hb => ⟨(hF b hb).1, (hF b hb).2.1⟩
  show o.wp C.P a w (Nx C cs p) (QQ C cs p.k)
  have e1 : a.eval fo = .func (.func f) fi ca := hR.eval hf
  have e2 : args.map a.eval = (svs.map SV.val).toArray := by apply Array.ext'; simpa using evs_ok hR ha
  have hr : (execOp a.eval o).run C.P w = .ok (.enter f V) w := by
    rw [← hV]
    simp [execOp, ho, resolve, e1, e2, Deferred.ofValue, invoke, callB_run hc]
  unfold Oper.wp
  rw [hr]
  refine Calls.mono hs ?_
  rintro e w' ⟨v, S', rfl, hgw, hS1, ⟨F', f1, f2, f3⟩, hP⟩
  have hIS : ∀ b, I b → b < w.heap.size ∧ ¬ ∃ k, k ∈ ks ∧ F k b := fun b hb => ⟨hi.Isz b hb, fun hs => (hF b hs).2.1 hb⟩
  have hIw : Ext I w w' := hgw.mono hIS
  have hRp := hR.put o.dst (.c (nv (enc v)))
  simp only [SV.val, nv_val] at hRp
  obtain ⟨b1, b2, b3⟩ := back_get (hbk v)
  have idx : ∀ q, q ∈ bk v → ∃ i r, (bk v)[i]? = some q ∧ i < (rs v).length ∧ (rs v)[i]? = some r ∧ r.eqv q.2 := fun q hq => by
    obtain ⟨i, hi, rfl⟩ := List.getElem_of_mem hq
    obtain ⟨r, h1, h2⟩ := b3 i _ (List.getElem?_eq_getElem hi)
    exact ⟨i, r, List.getElem?_eq_getElem hi, by omega, h1, h2⟩
  have uniq : ∀ i j (x y : Nat × Res), (bk v)[i]? = some x → (bk v)[j]? = some y → x.1 = y.1 → i = j := fun i j x y hx hy e => by
    obtain ⟨h1, h2⟩ := List.getElem?_eq_some_iff.1 hx
    obtain ⟨h3, h4⟩ := List.getElem?_eq_some_iff.1 hy
    have e1 : ((bk v).map Prod.fst)[i]'(by simpa using h1) = ((bk v).map Prod.fst)[j]'(by simpa using h3) := by simp [h2, h4, e]
    exact (List.getElem_inj b2).1 e1
  let FF : Nat → Nat → Prop := fun j b => (∃ i r, (bk v)[i]? = some (j, r) ∧ F' i b) ∨ ((∀ q, q ∈ bk v → q.1 ≠ j) ∧ F j b)
  have FFn : ∀ i q b, (bk v)[i]? = some q → (FF q.1 b ↔ F' i b) := fun i q b hq => by
    constructor
    · rintro (⟨i', r', h1, h2⟩ | ⟨h1, _⟩)
      · have := uniq i i' _ _ hq h1 rfl
        rw [this]
        exact h2
      · exact absurd rfl (h1 q (List.mem_of_getElem? hq))
    · exact fun hb => .inl ⟨i, q.2, hq, hb⟩
  have FFo : ∀ q b, q ∈ delL ((bk v).map Prod.fst) (delL ks m.rs) → q ∈ m.rs ∧ q.1 ∉ ks ∧ (FF q.1 b ↔ F q.1 b) := fun q b hq => by
    obtain ⟨h1, h2⟩ := delL_mem hq
    obtain ⟨h3, h4⟩ := delL_mem h1
    have h5 : ∀ x, x ∈ bk v → x.1 ≠ q.1 := fun x hx e => h2 (by rw [← e]; exact List.mem_map_of_mem hx)
    refine ⟨h3, h4, ⟨?_, fun hb => .inr ⟨h5, hb⟩⟩⟩
    rintro (⟨i, r, k1, _⟩ | ⟨_, hb⟩)
    · exact absurd rfl (h5 (q.1, r) (List.mem_of_getElem? k1))
    · exact hb
  have notS : ∀ q b, q ∈ m.rs → q.1 ∉ ks → F q.1 b → ¬ ∃ k, k ∈ ks ∧ F k b := fun q b hq hn hb ⟨k, h1, h2⟩ => by
    obtain ⟨r, hr⟩ := hkm k h1
    exact hi.disj q (k, r) b hq hr (fun e => hn (by rw [e]; exact h1)) hb h2
  have notS' : ∀ q b, q ∈ m.rs → q.1 ∉ ks → F q.1 b → ¬ S' b := fun q b hq hn hb hs => notS q b hq hn hb ((hS1 b hs).2.2 (hi.Fsz q b hq hb).1)
  refine ok.sx (k v w' (hP w' (Ext.refl _ _))) _ _ _ hRp ⟨fun b => I b ∨ ((w.heap.size ≤ b ∧ b < w'.heap.size) ∧ ¬ S' b), FF, hi.grow.trans hgw fun b hb => ⟨Nat.lt_of_lt_of_le hb.1 hi.grow.size, fun hs => hb.2 ((hF b hs).2.2 hb.1)⟩, ?_, fun b hb => .inl (hi.I0 b hb), ?_, ?_, ?_, ?_, ?_, ?_, ?_⟩
  · rintro b (hb | hb)
    · exact Nat.lt_of_lt_of_le (hi.Isz b hb) hgw.size
    · exact hb.1.2
  · rintro b (hb | hb) hlt
    · exact hi.Iold b hb hlt
    · have := hi.grow.size; omega
  · intro q hq
    rcases List.mem_append.1 hq with hq | hq
    · obtain ⟨i, r, h1, h2, h3, h4⟩ := idx q hq
      exact (h4.to (f1 i r h3)).same fun b => FFn i q b h1
    · obtain ⟨h1, h2, _⟩ := FFo q 0 hq
      exact ((hi.own q h1).ext (hgw.mono fun b hb => ⟨(hi.Fsz q b h1 hb).1, notS q b h1 h2 hb⟩)).same fun b => (FFo q b hq).2.2
  · intro q b hq hb
    rcases List.mem_append.1 hq with hq | hq
    · obtain ⟨i, r, h1, h2, h3, h4⟩ := idx q hq
      have hs : S' b := (f3 b).2 ⟨i, h2, (FFn i q b h1).1 hb⟩
      obtain ⟨k1, k2, k3⟩ := hS1 b hs
      refine ⟨k1, ?_, fun hlt => ?_⟩
      · rintro (h5 | h5)
        · exact k2 h5
        · exact h5.2 hs
      · exact (hF b (k3 (Nat.lt_of_lt_of_le hlt hi.grow.size))).2.2 hlt
    · obtain ⟨h1, h2, h3⟩ := FFo q b hq
      have hb := h3.1 hb
      obtain ⟨k1, k2, k3⟩ := hi.Fsz q b h1 hb
      refine ⟨Nat.lt_of_lt_of_le k1 hgw.size, ?_, k3⟩
      rintro (h5 | h5)
      · exact k2 h5
      · omega
  · intro q q' b hq hq' hne hb hb'
    rcases List.mem_append.1 hq with hq | hq
    · obtain ⟨i, r, h1, h2, h3, h4⟩ := idx q hq
      have e1 := (FFn i q b h1).1 hb
      rcases List.mem_append.1 hq' with hq' | hq'
      · obtain ⟨j, r', k1, k2, k3, k4⟩ := idx q' hq'
        refine f2 i j b h2 k2 (fun e => ?_) e1 ((FFn j q' b k1).1 hb')
        subst e
        rw [h1] at k1
        cases k1
        exact hne rfl
      · obtain ⟨k1, k2, k3⟩ := FFo q' b hq'
        exact notS' q' b k1 k2 (k3.1 hb') ((f3 b).2 ⟨i, h2, e1⟩)
    · obtain ⟨k1, k2, k3⟩ := FFo q b hq
      rcases List.mem_append.1 hq' with hq' | hq'
      · obtain ⟨i, r, h1, h2, h3, h4⟩ := idx q' hq'
        exact notS' q b k1 k2 (k3.1 hb) ((f3 b).2 ⟨i, h2, (FFn i q' b h1).1 hb'⟩)
      · obtain ⟨k4, k5, k6⟩ := FFo q' b hq'
        exact hi.disj q q' b k1 k4 hne (k3.1 hb) (k6.1 hb')
  · intro q b hq hlt hb
    rcases List.mem_append.1 hq with hq | hq
    · obtain ⟨i, r, h1, h2, h3, h4⟩ := idx q hq
      have hs : S' b := (f3 b).2 ⟨i, h2, (FFn i q b h1).1 hb⟩
      rcases hks with hks | hks
      · rcases Nat.lt_or_ge b w.heap.size with h5 | h5
        · obtain ⟨k, k1, k2⟩ := (hS1 b hs).2.2 h5
          obtain ⟨r', hr'⟩ := hkm k k1
          exact hi.new _ b hr' (hks k k1) k2
        · exact Nat.le_trans hi.grow.size h5
      · have := hks v q hq
        omega
    · obtain ⟨k1, k2, k3⟩ := FFo q b hq
      exact hi.new q b k1 hlt (k3.1 hb)
  · exact fun W e => hi.base W (hIw.trans e fun b hb => .inl hb)
  · refine fun W e => ⟨hP W (e.mono fun b hb => ?_), hi.know W (hIw.trans e fun b hb => .inl hb)⟩
    rcases hb with ⟨hb | hb, hs⟩
    · exact .inl hb
    · exact .inr ⟨hb, hs⟩
/-- A call of a function value, which only reads, and makes. -/
theorem callF (ok : Okc P T C res) {o : Oper} {fo : Operand} {args : Array Operand} {tys : Array TypeId} (ho : o.op = .call ⟨.value fo, args, tys⟩) {f : FuncId} {fi ca : Array Value} (hf : ev tm fo = some (.c (.v (.func (.func f) fi ca)))) {svs : List SV} (ha : evs tm args.toList = some svs) {V : Array Value} (hV : fi ++ (svs.map SV.val).toArray ++ ca = V) {α : Type} {enc : α → Value} {R : α → World → Prop}
    (spec : ∀ w I, (∀ b, I b → b < w.heap.size) → (∀ W, Ext I w W → m.G W) → Fn0 P f V w I enc R)
    (k : ∀ x W, R x W → sx T C res 1000 p (put C.n o.dst (.c (nv (enc x))) tm) ⟨m.B, fun W => R x W ∧ m.G W, m.rs⟩) : At C (.op o p) tm m := by
  refine callS ok ho hf ha [] [] trivial hV (rs := fun _ => []) (fun _ => []) (fun w I S hI hG hO hS => ?_) (fun _ => trivial) (.inl fun k hk => by cases hk) (fun x W h => by simpa [delL] using k x W h)
  obtain ⟨h1, h2⟩ := spec w I hI hG
  refine ⟨h1, Calls.mono h2 ?_⟩
  have hn : S = noS := funext fun b => propext ⟨fun hb => (by obtain ⟨F, _, _, h3⟩ := hO; obtain ⟨i, hi, _⟩ := (h3 b).1 hb; exact absurd hi (Nat.not_lt_zero _)), fun h => h.elim⟩
  rintro e w' ⟨x, S', rfl, k1, k2, k3, k4⟩
  subst hn
  exact ⟨x, S', rfl, k1, k2, ⟨fun _ _ => False, fun i r h => by simp at h, fun i j b hi => absurd hi (Nat.not_lt_zero _), fun b => ⟨fun hb => absurd hb (k3 b), fun ⟨i, hi, _⟩ => absurd hi (Nat.not_lt_zero _)⟩⟩, k4⟩
/-- A slice is made. -/
theorem mksl (ok : Okc P T C res) {o : Oper} {t d : Nat} {l c : Operand} (ho : o.op = .makeSlice t l c) (hd : o.dst = some d) {i ie : TI} (hi : tf t T = some i) (hik : i.kd = 3) (hie : tf i.el T = some ie) (hz1 : ie.sz = 1) {z : Value} (hz : ie.zero = [z]) {kl kc : IntKind} {x : Int} (hl : ev tm l = some (.c (.v (.int kl x)))) (hc : ev tm c = some (.c (.v (.int kc x))))
    (h0 : 0 ≤ x) (hb : (ie.bt : Int) * x ≤ 140737488355328) (hm : x ≤ 140737488355328)
    (kk : ∀ g, sx T C res 1000 p (put C.n (some d) (.c (.rw d (some ⟨g, 0, none⟩) x.toNat x.toNat)) tm) ⟨m.B, m.G, (d, .row (some ⟨g, 0, none⟩) x.toNat x.toNat i.el 1 (List.replicate x.toNat (.v z))) :: del d (del d m.rs)⟩) : At C (.op o p) tm m := by
  intro a w cs hR hJ
  obtain ⟨y, e1, e2, e3, z', e4, e5⟩ := (ok.ty.get hie).g_some
  have hzc : z'.cells = #[z] := by apply Array.ext'; rw [e5, hz]
  have h1 : a.eval l = .int kl x := hR.eval hl
  have h2 : a.eval c = .int kc x := hR.eval hc
  have hcell : madeCells z'.cells (x.toNat * y.size) = ((List.replicate x.toNat (CV.v z)).map CV.val).toArray := by
    rw [hzc, e2, hz1, Nat.mul_one]
    apply Array.ext'
    rw [toList_madeCells_one]
    simp [CV.val]
  have hrun : (execOp a.eval o).run C.P w = .ok (.value (.slice (some ⟨w.heap.size, 0, none⟩) x.toNat x.toNat)) (w.alloc (.cells ((List.replicate x.toNat (CV.v z)).map CV.val).toArray i.el)) := by
    have h3 := run_make (P := C.P) w t i.el y z' ((ok.ty.get hi).g_slice hik) e1 e4 kl kc x x h0 (Int.le_refl _) (by rw [e3]; omega) (by omega)
    rw [hcell] at h3
    simp [execOp, ho, h1, h2, h3]
  exact op_value (ok.sx (kk w.heap.size)) hrun (by rw [hd]; exact hR.put (some d) (.c (.rw d (some ⟨w.heap.size, 0, none⟩) x.toNat x.toNat))) (hJ.lit d i.el 1 x.toNat _ (by simp only [maxLen]; omega) (by simp))
/-- A row of one's own is cut off (its room stays). -/
theorem J.shrink {w : World} (k h : Nat) {a : Option Addr} {n c : Nat} {e : TypeId} {sz : Nat} {cs : List CV} (hl : look k m.rs = some (.row a n c e sz cs)) (hle : h ≤ n) (hs : a = none → h = 0) (hJ : J C m w) : J C ⟨m.B, m.G, (k, .row a h c e sz (cs.take (h * sz))) :: del k (del k m.rs)⟩ w := by
  obtain ⟨I, F, hJ⟩ := hJ
  have h0 := hJ.own _ (look_mem hl)
  refine ⟨I, _, hJ.upd k k _ (fun b => (Value.slice a n c).ownBlock = some b) (fun b => (Value.slice a n c).ownBlock = some b) (fun b hb => ⟨(h0.1 b).2 hb, _, look_mem hl⟩) ((Ext.refl (fun _ => True) w).mono fun _ _ => trivial) ⟨fun b => by cases a <;> exact Iff.rfl, ?_, ?_⟩ (fun b hb => ⟨(h0.2.lt b hb).2, .inl hb⟩) id⟩
  · have h1 : cs.length = n * sz := by simpa using h0.2.1
    have h2 : h * sz ≤ n * sz := Nat.mul_le_mul_right _ hle
    simp [h1, h2]
  · rcases h0.2.2 with ⟨hv, hn⟩ | ⟨g, cap, cur, hv, hb, hg, hnc, hcm, hcs, ht⟩
    · cases hv
      obtain rfl := hs rfl
      exact .inl ⟨rfl, rfl⟩
    · obtain ⟨rfl, rfl⟩ : a = some ⟨g, 0, none⟩ ∧ c = cap := by simpa using hv
      refine .inr ⟨g, c, cur, rfl, hb, hg, Nat.le_trans hle hnc, hcm, hcs, ?_⟩
      have h2 : h * sz ≤ n * sz := Nat.mul_le_mul_right _ hle
      rw [List.map_take, ← ht, List.take_take, Nat.min_eq_left h2]
theorem shrink (k h : Nat) {a : Option Addr} {n c : Nat} {e : TypeId} {sz : Nat} {cs : List CV} (hl : look k m.rs = some (.row a n c e sz cs)) (hle : h ≤ n) (hs : a = none → h = 0) (kk : At C p tm ⟨m.B, m.G, (k, .row a h c e sz (cs.take (h * sz))) :: del k (del k m.rs)⟩) : At C p tm m :=
  fun act w cs0 hR hJ => kk act w cs0 hR (hJ.shrink k h hl hle hs)
theorem shrinkR {v : Value} (k h : Nat) {a : Option Addr} {n c : Nat} {e : TypeId} {sz : Nat} {cs : List CV} (hl : look k m.rs = some (.row a n c e sz cs)) (hle : h ≤ n) (hs : a = none → h = 0) (kk : RetP C v ⟨m.B, m.G, (k, .row a h c e sz (cs.take (h * sz))) :: del k (del k m.rs)⟩) : RetP C v m :=
  fun w hJ => kk w (hJ.shrink k h hl hle hs)
theorem nilR {v : Value} (k : Nat) (e : TypeId) (sz : Nat) (kk : RetP C v ⟨m.B, m.G, (k, .row none 0 0 e sz []) :: del k (del k m.rs)⟩) : RetP C v m := fun w hJ => kk w (hJ.nilrow k e sz)
theorem rowLe (k : Nat) {a : Option Addr} {n c : Nat} {e : TypeId} {sz : Nat} {cs : List CV} (hl : look k m.rs = some (.row a n c e sz cs)) (h : n ≤ c → At C p tm m) : At C p tm m := by
  rintro act w cs0 hR ⟨I, F, hJ⟩
  refine h ?_ act w cs0 hR ⟨I, F, hJ⟩
  rcases (hJ.own _ (look_mem hl)).2.2 with ⟨hv, hn⟩ | ⟨g, cap, cur, hv, hb, hg, hnc, _⟩
  · omega
  · obtain ⟨rfl, rfl⟩ : a = some ⟨g, 0, none⟩ ∧ c = cap := by simpa using hv
    exact hnc
/-- Zeros are appended to none. -/
theorem appZ (ok : Okc P T C res) {o : Oper} {s x : Operand} {t tn d : Nat} (ho : o.op = .call ⟨.builtin .append, #[s, x], #[t, tn]⟩) (hd : o.dst = some d) {i ie ii : TI} (hi : tf t T = some i) (hik : i.kd = 3) (hie : tf i.el T = some ie) (hz1 : ie.sz = 1) {z : Value} (hz : ie.zero = [z]) (htn : tf tn T = some ii) (hin : ii.kd = 8)
    (hs : ev tm s = some (.c (.v (.slice none 0 0)))) {kn : IntKind} {y : Int} {n : Nat} (hx : ev tm x = some (.c (.v (.int kn y)))) (hy : y = n) (h0 : 0 < n) (hb : n * ie.bt ≤ 140737488355328) (hm : n ≤ 140737488355328)
    (kk : ∀ g c, n ≤ c → sx T C res 1000 p (put C.n (some d) (.c (.rw d (some ⟨g, 0, none⟩) n c)) tm) ⟨m.B, m.G, (d, .row (some ⟨g, 0, none⟩) n c i.el 1 (List.replicate n (.v z))) :: del d (del d m.rs)⟩) : At C (.op o p) tm m := by
  rintro act w cs0 hR ⟨I, F, hJ⟩
  obtain ⟨y', e1, e2, e3, z', e4, e5⟩ := (ok.ty.get hie).g_some
  have hzc : z'.cells = #[z] := by apply Array.ext'; rw [e5, hz]
  subst hy
  have hr := Lib.run_append_nil_zeros (P := C.P) w t tn o.type i.el y' z' kn _ ((ok.ty.get hi).g_slice hik) ((ok.ty.get htn).g_int hin) e1 e4 n h0 (by rw [e2]; omega) (by omega) (by rw [e3]; omega)
  have hg := grownCap_ge w n 0 i.el
  have h1 : act.eval s = .slice none 0 0 := hR.eval hs
  have h2 : act.eval x = .int kn n := hR.eval hx
  have hrun : (execOp act.eval o).run C.P w = .ok (.value (.slice (some ⟨w.heap.size, 0, none⟩) n (grownCap w n 0 i.el))) (w.drew.alloc (.cells (Builtin.zeroCells z'.cells n ++ Builtin.zeroCells z'.cells (grownCap w n 0 i.el - n)) i.el)) := by
    simp [execOp, ho, resolve, invoke, builtin, h1, h2, hr]
  have hzz : ∀ j, (Builtin.zeroCells z'.cells j).toList = List.replicate j z := fun j => by
    rw [hzc]
    show (madeCells #[z] (j * 1)).toList = _
    rw [Nat.mul_one, toList_madeCells_one]
  have hcm : grownCap w n 0 i.el ≤ maxLen := grownCap_le_maxLen w n 0 i.el (by simp only [maxLen]; omega)
  have hup := hJ.upd d d (.row (some ⟨w.heap.size, 0, none⟩) n (grownCap w n 0 i.el) i.el 1 (List.replicate n (.v z))) noS (fun b => b = w.heap.size) (fun _ hb => hb.elim) (w' := w.drew.alloc (.cells (Builtin.zeroCells z'.cells n ++ Builtin.zeroCells z'.cells (grownCap w n 0 i.el - n)) i.el)) ((Ext.drew _ w).trans (Ext.alloc _ w.drew _ fun b hb => hb.1) fun _ hx => hx)
    ⟨fun b => by simp [Value.ownBlock]; exact ⟨fun h => h.symm, fun h => h.symm⟩, by simp, .inr ⟨w.heap.size, _, _, rfl, Nat.zero_le _, heap_alloc_new w.drew _, hg, hcm, by
      rw [← Array.length_toList]
      simp [hzz]
      omega, by simp [hzz, CV.val]⟩⟩ (fun b hb => ⟨by simp [hb], .inr (by omega)⟩) id
  exact op_value (ok.sx (kk w.heap.size _ hg)) hrun (by rw [hd]; exact hR.put (some d) (.c (.rw d (some ⟨w.heap.size, 0, none⟩) n _))) ⟨I, _, hup⟩
/-- A text's bytes stand in a block. -/
def textAt (g : Nat) (s : ByteArray) (W : World) : Prop := ∀ j, j < s.size → W.cell? ⟨g, j, none⟩ = some (.int .u8 (s.data.toList.getD j 0).toNat)
/-- A text, as bytes. -/
theorem strB (ok : Okc P T C res) {o : Oper} {src dst : TypeId} {x : Operand} (ho : o.op = .convert src dst x) {s : ByteArray} (hx : ev tm x = some (.c (.v (.string s)))) {i0 i ie : TI} (h0 : tf src T = some i0) (hi : tf dst T = some i) (hik : i.kd = 3) (hie : tf i.el T = some ie) (hk : ie.kd = 8) (hu : kdec ie.el = .u8)
    (kk : ∀ g c, s.size ≤ c → sx T C res 1000 p (put C.n o.dst (.c (.v (.slice (some ⟨g, 0, none⟩) s.size c))) tm) ⟨m.B, fun W => textAt g s W ∧ m.G W, m.rs⟩) : At C (.op o p) tm m := by
  rintro a w cs hR ⟨I, F, hJ⟩
  have h1 : a.eval x = .string s := hR.eval hx
  obtain ⟨d0, hd0, _⟩ := (ok.ty.get h0).g_under
  have h2 := Lib.run_convert_string_bytes (P := C.P) w src dst i.el s hd0 ((ok.ty.get hi).g_slice hik) (by have := (ok.ty.get hie).g_int hk; rw [hu] at this; exact this)
  have hrun : (execOp a.eval o).run C.P w = .ok (.value (.slice (some ⟨w.heap.size, 0, none⟩) s.size (grownCap w s.size 0 i.el))) (Lib.bytesWorld w i.el s) := by simp [execOp, ho, h1, h2]
  have hR2 := hR.put o.dst (.c (.v (.slice (some ⟨w.heap.size, 0, none⟩) s.size (grownCap w s.size 0 i.el))))
  refine op_value (w' := Lib.bytesWorld w i.el s) (ok.sx (kk w.heap.size _ (grownCap_ge w s.size 0 i.el))) hrun hR2 ⟨_, F, hJ.more (w' := Lib.bytesWorld w i.el s) ⟨rfl, rfl, rfl, by rw [Lib.bytesWorld_size]; omega, fun b hb => Lib.bytesWorld_at_old w _ s b hb⟩ fun W e j hj => ?_⟩
  rw [e.cell (.inr ⟨Nat.le_refl _, by rw [Lib.bytesWorld_size]; exact Nat.lt_succ_self _⟩), Lib.bytesWorld_cell w _ s j hj]
end
end Go.Proofs.YtbbaoeidobdblaaGreat.Sx

/- Sx, part 8: how data read in memory: numbers, texts, entries, runs, inodes, deeds, states. -/
set_option linter.unusedVariables false
set_option linter.unusedSimpArgs false
namespace Go.Proofs.YtbbaoeidobdblaaGreat.Sx
open Go
@[simp] theorem map_nv (l : List Value) : (l.map nv).map CV.val = l := by simp [Function.comp_def, nv_val]
@[simp] theorem map_nv' (l : List Value) : l.map (CV.val ∘ nv) = l := by simp [Function.comp_def, nv_val]
structure Dt (α : Type) where
  sz : Nat
  K : World → α → List Value → Prop
  len : ∀ {w x cs}, K w x cs → cs.length = sz
  one : ∀ {w x cs}, K w x cs → ∀ u ∈ cs, u.oneCell' = true
/-- A slice at a that reads as xs. -/
def Rd {α : Type} (d : Dt α) (W : World) (a : Option Addr) (xs : List α) : Prop :=
  xs ≠ [] → ∃ b o, a = some ⟨b, o, none⟩ ∧ ∀ i x, xs[i]? = some x → ∃ cs, d.K W x cs ∧ ∀ j v, cs[j]? = some v → W.cell? ⟨b, o + i * d.sz + j, none⟩ = some v
theorem rd_nil {α : Type} (d : Dt α) (W : World) (a : Option Addr) : Rd d W a [] := fun h => absurd rfl h
theorem Rd.get {α : Type} {d : Dt α} {W : World} {b o : Nat} {xs : List α} (h : Rd d W (some ⟨b, o, none⟩) xs) {i : Nat} (hi : i < xs.length) : ∃ cs, d.K W xs[i] cs ∧ cs.length = d.sz ∧ ∀ j v, cs[j]? = some v → W.cell? ⟨b, o + i * d.sz + j, none⟩ = some v := by
  obtain ⟨b', o', e, hc⟩ := h (by rintro rfl; simp at hi)
  cases e
  obtain ⟨cs, h1, h2⟩ := hc i xs[i] (List.getElem?_eq_getElem hi)
  exact ⟨cs, h1, d.len h1, h2⟩
theorem Rd.is_some {α : Type} {d : Dt α} {W : World} {a : Option Addr} {xs : List α} (h : Rd d W a xs) (h0 : 0 < xs.length) : ∃ b o, a = some ⟨b, o, none⟩ := by
  obtain ⟨b, o, e, _⟩ := h (by rintro rfl; simp at h0)
  exact ⟨b, o, e⟩
/-- Cells, element by element. -/
def Rows {α : Type} (d : Dt α) (W : World) (xs : List α) (cs : List Value) : Prop := cs.length = xs.length * d.sz ∧ ∀ i x, xs[i]? = some x → d.K W x ((cs.drop (i * d.sz)).take d.sz)
theorem rows_nil {α : Type} (d : Dt α) (W : World) : Rows d W [] [] := ⟨by simp, fun i x h => by simp at h⟩
theorem Rows.snoc {α : Type} {d : Dt α} {W : World} {xs : List α} {cs c : List Value} {x : α} (h : Rows d W xs cs) (hx : d.K W x c) : Rows d W (xs ++ [x]) (cs ++ c) := by
  have hl := d.len hx
  refine ⟨by simp [h.1, hl, Nat.add_mul], fun i y hy => ?_⟩
  rcases Nat.lt_or_ge i xs.length with hi | hi
  · rw [List.getElem?_append_left hi] at hy
    have h1 := h.2 i y hy
    have h2 : i * d.sz + d.sz ≤ cs.length := by
      rw [h.1, ← Nat.succ_mul]
      exact Nat.mul_le_mul_right _ hi
    rw [List.drop_append_of_le_length (by omega), List.take_append_of_le_length (by rw [List.length_drop]; omega)]
    exact h1
  · rw [List.getElem?_append_right hi] at hy
    have h0 : i - xs.length = 0 := by
      rcases Nat.eq_zero_or_pos (i - xs.length) with h | h
      · exact h
      · rw [List.getElem?_eq_none (by simp; omega)] at hy
        cases hy
    rw [h0] at hy
    simp at hy
    subst hy
    have : i = xs.length := by omega
    rw [this, ← h.1, List.drop_left, ← hl, List.take_length]
    exact hx
theorem Rd.all_rows {α : Type} {d : Dt α} {W : World} {b o : Nat} {xs : List α} (h : Rd d W (some ⟨b, o, none⟩) xs) : ∃ l, Rows d W xs l ∧ (∀ u ∈ l, u.oneCell' = true) ∧ ∀ j v, l[j]? = some v → W.cell? ⟨b, o + j, none⟩ = some v := by
  have key : ∀ n, n ≤ xs.length → ∃ l, Rows d W (xs.take n) l ∧ (∀ u ∈ l, u.oneCell' = true) ∧ ∀ j v, l[j]? = some v → W.cell? ⟨b, o + j, none⟩ = some v := by
    intro n
    induction n with
    | zero => exact fun _ => ⟨[], by simpa using rows_nil d W, fun u hu => (by cases hu), fun j v h => (by simp at h)⟩
    | succ n ih =>
      intro hn
      obtain ⟨l, h1, h2, h3⟩ := ih (by omega)
      obtain ⟨cs, k1, k2, k3⟩ := h.get (i := n) (by omega)
      refine ⟨l ++ cs, ?_, fun u hu => ?_, fun j v hv => ?_⟩
      · rw [List.take_add_one, List.getElem?_eq_getElem (by omega)]
        exact h1.snoc k1
      · rcases List.mem_append.1 hu with hu | hu
        · exact h2 u hu
        · exact d.one k1 u hu
      · have hl : l.length = n * d.sz := by rw [h1.1, List.length_take]; congr 1; omega
        rcases Nat.lt_or_ge j l.length with hj | hj
        · rw [List.getElem?_append_left hj] at hv
          exact h3 j v hv
        · rw [List.getElem?_append_right hj] at hv
          have := k3 _ v hv
          rw [hl] at this hj
          rw [show o + j = o + n * d.sz + (j - n * d.sz) by omega]
          exact this
  obtain ⟨l, h1⟩ := key xs.length (Nat.le_refl _)
  rw [List.take_length] at h1
  exact ⟨l, h1⟩
/-- A row of one's own reads so. -/
theorem Rows.rd {α : Type} {d : Dt α} {W : World} {a : Option Addr} {n c base : Nat} {e : TypeId} {xs : List α} {cs : List Value} (h : Rows d W xs cs) (ho : W.ownsRow base e d.sz (.slice a n c) n cs) (h0 : 0 < d.sz) : n = xs.length ∧ n ≤ c ∧ Rd d W a xs := by
  have hn : n = xs.length := by
    have h1 := ho.1.symm.trans h.1
    exact Nat.eq_of_mul_eq_mul_right h0 h1
  subst hn
  rcases ho.2 with ⟨hv, h1⟩ | ⟨g, cap, cur, hv, _, hg, hnc, _⟩
  · exact ⟨rfl, by omega, fun hne => absurd (List.eq_nil_of_length_eq_zero h1) hne⟩
  · obtain ⟨rfl, rfl⟩ : a = some ⟨g, 0, none⟩ ∧ c = cap := by simpa using hv
    refine ⟨rfl, hnc, fun _ => ⟨g, 0, rfl, fun i x hx => ⟨_, h.2 i x hx, fun j v hv => ?_⟩⟩⟩
    have hj : j < d.sz := by
      have := (List.getElem?_eq_some_iff.1 hv).1
      rw [List.length_take] at this
      omega
    rw [List.getElem?_take, if_pos hj, List.getElem?_drop] at hv
    have hlt := (List.getElem?_eq_some_iff.1 hv).1
    rw [Nat.zero_add, ho.cellAt (i * d.sz + j) (by rw [← ho.1]; exact hlt)]
    exact hv
/-- What is the same value of some cells, whatever the world. -/
def flat {α : Type} (sz : Nat) (f : α → List Value) (h1 : ∀ x, (f x).length = sz) (h2 : ∀ x, ∀ u ∈ f x, u.oneCell' = true) : Dt α := ⟨sz, fun _ x cs => cs = f x, fun h => by rw [h, h1], fun h u hu => h2 _ u (by rw [← h]; exact hu)⟩
theorem Rows.cons_iff {α : Type} {d : Dt α} {W : World} {x : α} {xs : List α} {l : List Value} : Rows d W (x :: xs) l ↔ ∃ c r, l = c ++ r ∧ d.K W x c ∧ Rows d W xs r := by
  constructor
  · intro ⟨h1, h2⟩
    have e : l.length = d.sz + xs.length * d.sz := by rw [h1, List.length_cons, Nat.succ_mul, Nat.add_comm]
    refine ⟨l.take d.sz, l.drop d.sz, (List.take_append_drop _ _).symm, by simpa using h2 0 x rfl, by rw [List.length_drop, e]; omega, fun i y hy => ?_⟩
    have := h2 (i + 1) y (by simpa using hy)
    rwa [List.drop_drop, show d.sz + i * d.sz = (i + 1) * d.sz by rw [Nat.succ_mul, Nat.add_comm]]
  · rintro ⟨c, r, rfl, h1, h2, h3⟩
    have hl := d.len h1
    refine ⟨by rw [List.length_append, hl, h2, List.length_cons, Nat.succ_mul, Nat.add_comm], fun i y hy => ?_⟩
    cases i with
    | zero =>
      simp only [List.getElem?_cons_zero, Option.some.injEq] at hy
      subst hy
      rw [Nat.zero_mul, List.drop_zero, ← hl, List.take_left]
      exact h1
    | succ i =>
      have := h3 i y (by simpa using hy)
      rwa [show (i + 1) * d.sz = c.length + i * d.sz by rw [hl, Nat.succ_mul, Nat.add_comm], ← List.drop_drop, List.drop_left]
theorem rows_flat {α : Type} {sz : Nat} {f : α → List Value} {h1 : ∀ x, (f x).length = sz} {h2 : ∀ x, ∀ u ∈ f x, u.oneCell' = true} {W : World} : ∀ {xs : List α} {l : List Value}, Rows (flat sz f h1 h2) W xs l ↔ l = xs.flatMap f
  | [], l => ⟨fun h => List.eq_nil_of_length_eq_zero (by simpa using h.1), fun h => by subst h; exact rows_nil _ _⟩
  | x :: xs, l => by
    rw [Rows.cons_iff]
    constructor
    · rintro ⟨c, r, rfl, h3, h4⟩
      rw [rows_flat.1 h4]
      exact congrArg (· ++ xs.flatMap f) h3
    · rintro rfl
      exact ⟨f x, xs.flatMap f, rfl, rfl, rows_flat.2 rfl⟩
def dInt : Dt Int := flat 1 (fun x => [.int .i64 x]) (fun _ => rfl) (fun x u hu => by simp at hu; subst hu; rfl)
def dByte : Dt Int := flat 1 (fun x => [.int .u8 x]) (fun _ => rfl) (fun x u hu => by simp at hu; subst hu; rfl)
def dStr : Dt ByteArray := flat 1 (fun x => [.string x]) (fun _ => rfl) (fun x u hu => by simp at hu; subst hu; rfl)
structure Ent where
  name : ByteArray
  no : Int
structure Rn where
  fr : Int
  at_ : Int
  ct : Int
def dEnt : Dt Ent := flat 2 (fun x => [.string x.name, .int .i64 x.no]) (fun _ => rfl) (fun x u hu => by simp at hu; rcases hu with rfl | rfl <;> rfl)
def dRn : Dt Rn := flat 3 (fun x => [.int .i64 x.fr, .int .i64 x.at_, .int .i64 x.ct]) (fun _ => rfl) (fun x u hu => by simp at hu; rcases hu with rfl | rfl | rfl <;> rfl)
structure Ino where
  no : Int
  kind : Int
  links : Int
  size : Int
  target : ByteArray
  ents : List Ent
  runs : List Rn
/-- A slice's value: where, and how much room. -/
abbrev Sl := Option Addr × Nat
def Sl.ok {α : Type} (d : Dt α) (W : World) (s : Sl) (xs : List α) : Prop := xs.length ≤ s.2 ∧ xs.length ≤ 100000000000 ∧ Rd d W s.1 xs
abbrev inoC (x : Ino) (e r : Sl) : List Value := [.int .i64 x.no, .int .i64 x.kind, .int .i64 x.links, .int .i64 x.size, .string x.target, .slice e.1 x.ents.length e.2, .slice r.1 x.runs.length r.2]
def InoR (W : World) (x : Ino) (e r : Sl) : Prop := e.ok dEnt W x.ents ∧ r.ok dRn W x.runs
def dIno : Dt Ino := ⟨7, fun W x cs => ∃ e r, cs = inoC x e r ∧ InoR W x e r, fun h => by obtain ⟨e, r, rfl, _⟩ := h; rfl, fun h u hu => by
  obtain ⟨e, r, rfl, _⟩ := h
  simp [inoC] at hu
  rcases hu with rfl | rfl | rfl | rfl | rfl | rfl | rfl <;> rfl⟩
structure Dee where
  kind : Int
  no : Int
  ino : Ino
abbrev deeC (x : Dee) (e r : Sl) : List Value := .int .i64 x.kind :: .int .i64 x.no :: inoC x.ino e r
def dDee : Dt Dee := ⟨9, fun W x cs => ∃ e r, cs = deeC x e r ∧ InoR W x.ino e r, fun h => by obtain ⟨e, r, rfl, _⟩ := h; rfl, fun h u hu => by
  obtain ⟨e, r, rfl, _⟩ := h
  simp [deeC, inoC] at hu
  rcases hu with rfl | rfl | rfl | rfl | rfl | rfl | rfl | rfl | rfl <;> rfl⟩
structure Sta where
  next : Int
  inos : List Ino
  bad : List Int
abbrev staC (x : Sta) (i b : Sl) : List Value := [.int .i64 x.next, .slice i.1 x.inos.length i.2, .slice b.1 x.bad.length b.2]
def StaR (W : World) (x : Sta) (i b : Sl) : Prop := i.ok dIno W x.inos ∧ b.ok dInt W x.bad
theorem rows_byte {W : World} {xs : List Int} {l : List Value} : Rows dByte W xs l ↔ l = xs.map (Value.int .u8) := by
  unfold dByte
  rw [rows_flat]
  simp [List.map_eq_flatMap]
theorem w64 {x : Int} (h : -9223372036854775808 ≤ x) (k : x ≤ 9223372036854775807) : IntKind.i64.wrap x = x := by rw [IntKind.wrap_i64]; omega
theorem owns_nil (w : World) : Owns [] noS w := ⟨fun _ _ => False, fun i r h => by simp at h, fun i j b hi => absurd hi (Nat.not_lt_zero _), fun b => ⟨fun h => h.elim, fun ⟨i, hi, _⟩ => absurd hi (Nat.not_lt_zero _)⟩⟩
theorem no_owns {S : Nat → Prop} {w : World} (h : Owns [] S w) : S = noS := funext fun b => propext ⟨fun hb => (by obtain ⟨F, _, _, h3⟩ := h; obtain ⟨i, hi, _⟩ := (h3 b).1 hb; exact absurd hi (Nat.not_lt_zero _)), fun h => h.elim⟩
def dBs : Dt (List Int) := ⟨1, fun W x cs => ∃ s : Sl, cs = [.slice s.1 x.length s.2] ∧ s.ok dByte W x, fun h => by obtain ⟨s, rfl, _⟩ := h; rfl, fun h u hu => by
  obtain ⟨s, rfl, _⟩ := h
  simp at hu
  subst hu
  rfl⟩
/-- A slice's value whole: where, how long, how much room. -/
abbrev Sv := Option Addr × Nat × Nat
abbrev Sv.val (s : Sv) : Value := .slice s.1 s.2.1 s.2.2
def Sv.ok {α : Type} (d : Dt α) (W : World) (s : Sv) (xs : List α) : Prop := s.2.1 = xs.length ∧ Sl.ok d W (s.1, s.2.2) xs
/-- A contract told for a length that is a number's. -/
theorem Fits.sv {P : Program} {f : FuncId} {args : Array Value} {w : World} {I : Nat → Prop} {α : Type} {d : Dt α} {n : Nat} {xs : List α} (e : n = xs.length) (h : Fn0 P f args w I (fun r : Sl => .slice r.1 n r.2) (fun r W => r.ok d W xs)) : Fn0 P f args w I Sv.val (fun r W => Sv.ok d W r xs) := by
  refine ⟨h.1, Calls.mono h.2 ?_⟩
  rintro e1 w' ⟨x, S', rfl, k1, k2, k3, k4⟩
  exact ⟨(x.1, n, x.2), S', rfl, k1, k2, k3, fun W hW => ⟨e, k4 W hW⟩⟩
/-- A value that is a slice which reads so. -/
def slQ {α : Type} (d : Dt α) (xs : List α) (v : Value) (W : World) : Prop := ∃ s : Sl, v = .slice s.1 xs.length s.2 ∧ s.ok d W xs
theorem slQ.get {α : Type} {d : Dt α} {xs : List α} {a : Option Addr} {n c : Nat} {W : World} (h : slQ d xs (.slice a n c) W) : n = xs.length ∧ Sl.ok d W (a, c) xs := by
  obtain ⟨⟨a', c'⟩, e, h⟩ := h
  cases e
  exact ⟨rfl, h⟩
theorem Fits.lone {P : Program} {f : FuncId} {args : Array Value} {w : World} {I S : Nat → Prop} {α : Type} {enc : α → Value} {B : α → (Nat → Prop) → World → Prop} {R : α → World → Prop} (h : Fits P f args w I noS enc B R) (hO : Owns [] S w) : Fits P f args w I S enc B R := by
  rw [no_owns hO]
  exact h
def bC (l : List Int) : List CV := l.map fun y => .v (.int .u8 y)
theorem bC_nv (l : List Int) : (l.map (Value.int .u8)).map nv = bC l := by simp [bC, Function.comp_def, nv]
theorem bC_val (l : List Int) : (bC l).map CV.val = l.map (Value.int .u8) := by simp [bC, Function.comp_def, CV.val]
theorem bC_app (l k : List Int) : bC l ++ bC k = bC (l ++ k) := by simp [bC]
end Go.Proofs.YtbbaoeidobdblaaGreat.Sx

/- Bytes: slices.Grow, slices.Concat, codec.Put. -/
set_option linter.unusedVariables false
set_option linter.unusedSimpArgs false
namespace Go.Proofs.YtbbaoeidobdblaaGreat.Sx
open Go
attribute [local simp ↓] ifb_true' ifb_false'
attribute [local simp] ifb_true ifb_false ifb_eq sx argsT find ev evOp evs evo evBin evInt evStr evNil evNilA ptrA slcA isNoneA asB evLoad look del cellsB evUn evConv kdec fld evFieldA evField evIdxA evIdx evSlc bndL bndH evLen mmi put resV guardV gvL setO tupV cellsOf ones one upd lits nv exitTo SV.val CV.val TI.agg rdyA allR keepB scan simpO gsp isS subs keepT pickT wr memN pubs Res.fact Region.binds bld rest give delL back Res.eqv vi vb num
theorem grow0 (w : World) (I : Nat → Prop) (hI : ∀ b, I b → b < w.heap.size) (n : Nat) (hn : n ≤ 100000000000) :
    FnS Tryz.prog 188 #[.slice none 0 0, .int .i64 n] w I noS (fun x : Sl => .slice x.1 0 x.2) (fun x => [.row x.1 0 x.2 5 1 []]) (fun _ _ => True) := by
  refine enterS (svs := [.c (.v (.slice none 0 0)), .c (.v (.int .i64 n))]) tysOk Tryz.func188 rfl Tryz.ntmps188 Tryz.results188 (by kernel_rfl) (by simp) hI [] (owns_nil w) (fun b hb => hb.elim) (fun _ => True) (fun _ _ => trivial) fun C hC hn ok => ?_
  have e1 : ∀ x : Int, 0 ≤ x → x ≤ 100000000000 → IntKind.i64.wrap (x - IntKind.i64.wrap 0) = x := fun x h k => by
    have h0 : IntKind.i64.wrap 0 = 0 := w64 (by omega) (by omega)
    rw [h0, Int.sub_zero]
    exact w64 (by omega) (by omega)
  have e1 := e1 n (by omega) (by omega)
  simp [hn, e1]
  refine ⟨fun h => absurd h (by omega), ?_⟩
  refine ⟨fun h0 => ?_, fun h0 => ?_⟩
  · refine appZ ok rfl rfl rfl rfl rfl rfl rfl rfl rfl rfl rfl rfl h0 (by show n * 1 ≤ _; omega) (by omega) fun g c hc => ?_
    simp [hn]
    refine shrinkR 22 0 rfl (Nat.zero_le _) (fun h => by cases h) ?_
    simp
    exact retS hC (some ⟨g, 0, none⟩, c) [22] rfl (by simp) fun W _ _ => trivial
  · exact nilR 22 5 1 (retS hC (none, 0) [22] rfl (by simp) fun W _ _ => trivial)
def sumL (xss : List (List Int)) (i : Nat) : Nat := (xss.take i).flatten.length
theorem sumL_succ (xss : List (List Int)) (i : Nat) (h : i < xss.length) : sumL xss (i + 1) = sumL xss i + xss[i].length := by
  simp only [sumL, List.take_add_one, List.flatten_append, List.length_append, List.getElem?_eq_getElem h]
  simp
theorem sumL_le (xss : List (List Int)) (i : Nat) : sumL xss i ≤ xss.flatten.length := by
  have : xss.flatten = (xss.take i).flatten ++ (xss.drop i).flatten := by rw [← List.flatten_append, List.take_append_drop]
  rw [this, List.length_append]
  exact Nat.le_add_right _ _
theorem concat0 (w : World) (I : Nat → Prop) (hI : ∀ b, I b → b < w.heap.size) (xss : List (List Int)) (s : Sl) (h : ∀ W, Ext I w W → s.ok dBs W xss) (hN : xss.flatten.length ≤ 100000000000) (h0 : 0 < xss.length) :
    Fn0 Tryz.prog 148 #[.slice s.1 xss.length s.2] w I (fun x : Sl => .slice x.1 xss.flatten.length x.2) (fun x W => x.ok dByte W xss.flatten) := by
  obtain ⟨b, off, e⟩ := (h w (Ext.refl _ _)).2.2.is_some h0
  have hk := (h w (Ext.refl _ _)).2.1
  obtain ⟨a, c⟩ := s
  cases e
  refine enter (svs := [.c (.v (.slice (some ⟨b, off, none⟩) xss.length c))]) tysOk Tryz.func148 rfl Tryz.ntmps148 Tryz.results148 (by kernel_rfl) (by simp) hI (fun W => Sl.ok dBs W (some ⟨b, off, none⟩, c) xss) h fun C hC hn ok => ?_
  simp [hn]
  have ld : ∀ (i : Nat) (hlt : i < xss.length) (W : World), Sl.ok dBs W (some ⟨b, off, none⟩, c) xss → ∃ v, W.cell? ⟨b, off + i, none⟩ = some v ∧ slQ dByte xss[i] v W := fun i hlt W hW => by
    obtain ⟨cs, ⟨s, rfl, hs⟩, _, hc⟩ := hW.2.2.get hlt
    exact ⟨_, by simpa [dBs] using hc 0 _ rfl, s, rfl, hs⟩
  have e2 : ∀ i, i < xss.length → IntKind.i64.wrap ((i : Int) + 1) = (i + 1 : Nat) := fun i h => by rw [w64 (by omega) (by omega)]; omega
  have ht : ∀ i (hlt : i < xss.length), (xss.take (i + 1)).flatten = (xss.take i).flatten ++ xss[i] := fun i hlt => by
    rw [List.take_add_one, List.getElem?_eq_getElem hlt, List.flatten_append]
    simp only [Option.toList, List.flatten_cons, List.flatten_nil, List.append_nil]
  refine loop ok (fun i => [(11, .c (.v (.int .i64 (i : Nat)))), (3, .c (.v (.int .i64 (sumL xss i))))]) (fun _ => []) (fun i W => i ≤ xss.length) (fun i => xss.length - i) 0 ?_ ?_ (fun W _ => Nat.zero_le _) fun i W hi hG next => ?_
  · simp [sumL]
  · simp
  simp [hn]
  refine ⟨fun hlt => ?_, fun hge => ?_⟩
  · refine ⟨hlt, load1 ok rfl rfl rfl rfl (slQ dByte xss[i]) (fun W hW => ld i hlt W hW.2) ?_⟩
    · rintro v W ⟨s, rfl, hs⟩ hG
      have e1 : IntKind.i64.wrap ((sumL xss i : Int) + xss[i].length) = sumL xss (i + 1) := by
        have h1 := sumL_succ xss i hlt
        have h2 := sumL_le xss (i + 1)
        rw [w64 (by omega) (by omega)]
        omega
      simp [hn, e1, e2 i hlt]
      refine ⟨fun h => absurd h (by omega), next (i + 1) _ _ (by omega) (fun W h => ⟨hlt, h.2.2⟩) ?_⟩
      simp
  · have hi' : i = xss.length := by omega
    subst hi'
    refine callS ok rfl rfl rfl [] [] trivial rfl (fun x : Sl => [(600, .row x.1 0 x.2 5 1 [])]) (fun w I S hI hG hO hS => (grow0 w I hI (sumL xss xss.length) (Nat.le_trans (sumL_le _ _) hN)).lone hO) ?_ (.inl fun k hk => by cases hk) fun x W _ => ?_
    · simp
    · simp [hn]
      refine loop ok (fun a : Nat × Sl => [(27, .c (.v (.int .i64 (a.1 : Nat)))), (6, .c (.v (.slice a.2.1 (sumL xss a.1) a.2.2)))]) (fun a => [(600, .row a.2.1 (sumL xss a.1) a.2.2 5 1 (bC (xss.take a.1).flatten))]) (fun a W => a.1 ≤ xss.length) (fun a => xss.length - a.1) (0, x) ?_ ?_ (fun W _ => Nat.zero_le _) ?_
      · simp [sumL]
      · simp [sumL, bC]
      · rintro ⟨i, r⟩ W hi2 hG2 next2
        simp [hn]
        refine ⟨fun hlt => ?_, fun hge => ?_⟩
        · refine ⟨hlt, load1 ok rfl rfl rfl rfl (slQ dByte xss[i]) (fun W hW => ld i hlt W hW.2) ?_⟩
          rintro v W ⟨⟨a', c'⟩, rfl, hs⟩ hG
          have hu := sumL_succ xss i hlt
          have hm := sumL_le xss (i + 1)
          by_cases hx : xss[i] = []
          · simp [hn, hx]
            refine rowLe 600 rfl fun hle => app0 ok rfl rfl rfl rfl rfl rfl rfl hle rfl rfl ?_
            simp [hn, e2 i hlt]
            refine next2 (i + 1, r) _ _ (by simp; omega) (fun W h => ⟨hlt, h.2.2⟩) ?_
            simp [hu, ht i hlt, hx]
          · have h1 : 0 < xss[i].length := List.length_pos_iff.2 hx
            obtain ⟨b', o', e'⟩ := hs.2.2.is_some h1
            cases e'
            simp [hn]
            refine appI ok 600 rfl rfl rfl rfl rfl (by decide) rfl rfl rfl rfl rfl rfl h1 (by show _ * 1 ≤ _; omega) (by omega) (fun l W => l = xss[i].map (.int .u8)) (fun W hW => ?_) fun l g' c'' W hq _ => ?_
            · obtain ⟨l, k1, k2, k3⟩ := hW.1.get.2.2.2.all_rows
              exact ⟨l, k1.1, k2, k3, rows_byte.1 k1⟩
            · subst hq
              simp [hn, e2 i hlt]
              refine next2 (i + 1, (some ⟨g', 0, none⟩, c'')) _ _ (by simp; omega) (fun W h => ⟨hlt, h.2.2⟩) ?_
              simp [hu, ht i hlt, ← bC_nv]
        · have hi' : i = xss.length := by simp only at hi2; omega
          subst hi'
          have hfl : (xss.take xss.length).flatten = xss.flatten := by rw [List.take_length]
          refine ret0 hC r (by simp [sumL, hfl]) fun W hp hG => ?_
          simp only [pubs, Res.fact, bC_val, hfl] at hp
          obtain ⟨k1, k2, k3⟩ := (rows_byte.2 rfl : Rows dByte W xss.flatten _).rd hp.1 (by decide)
          exact ⟨by omega, hN, k3⟩
end Go.Proofs.YtbbaoeidobdblaaGreat.Sx

/- Plain: numbers, texts, inodes and deeds as bytes. -/
set_option linter.unusedVariables false
set_option linter.unusedSimpArgs false
namespace Go.Proofs.YtbbaoeidobdblaaGreat.Sx
open Go
/-- The lowest bytes of a number. -/
def lowB (v : Int) (n : Nat) : List Int := (List.range n).map fun (i : Nat) => v / 2 ^ (8 * i) % 256
theorem lowB_length (v : Int) (n : Nat) : (lowB v n).length = n := by simp [lowB]
/-- So far as it is filled. -/
def fillB (v : Int) (n i : Nat) : List Int := (lowB v n).take i ++ List.replicate (n - i) 0
theorem fillB_length (v : Int) (n i : Nat) (h : i ≤ n) : (fillB v n i).length = n := by simp [fillB, lowB_length]; omega
theorem fillB_set (v : Int) (n i : Nat) (h : i < n) : (fillB v n i).set i (v / 2 ^ (8 * i) % 256) = fillB v n (i + 1) := by
  have hl : ((lowB v n).take i).length = i := by rw [List.length_take, lowB_length]; omega
  have hg : (lowB v n)[i]? = some (v / 2 ^ (8 * i) % 256) := by simp [lowB, h]
  unfold fillB
  rw [List.set_append_right _ _ (by omega), hl, Nat.sub_self, show n - i = (n - (i + 1)) + 1 from by omega, List.replicate_succ, List.set_cons_zero, List.take_add_one, hg]
  simp
theorem fillB_full (v : Int) (n : Nat) : fillB v n n = lowB v n := by
  unfold fillB
  rw [List.take_of_length_le (by rw [lowB_length]; exact Nat.le_refl _), Nat.sub_self]
  simp
theorem fillB_none (v : Int) (n : Nat) : fillB v n 0 = List.replicate n 0 := by simp [fillB]
theorem u8_wrap (x : Int) : IntKind.u8.wrap x = x % 256 := by simp [IntKind.wrap, IntKind.signed, IntKind.bits]
theorem u64_wrap (x : Int) : IntKind.u64.wrap x = x % 18446744073709551616 := by simp [IntKind.wrap, IntKind.signed, IntKind.bits]
def bytesOf (s : ByteArray) : List Int := s.data.toList.map fun b => (b.toNat : Int)
theorem bytesOf_length (s : ByteArray) : (bytesOf s).length = s.size := by simp [bytesOf]
def intB (v : Int) : List Int := lowB (v % 18446744073709551616) 8
theorem intB_length (v : Int) : (intB v).length = 8 := lowB_length _ _
def textB (s : ByteArray) : List Int := lowB s.size 4 ++ bytesOf s
theorem textB_length (s : ByteArray) : (textB s).length = s.size + 4 := by simp [textB, lowB_length, bytesOf_length, Nat.add_comm]
def entB (x : Ent) : List Int := textB x.name ++ intB x.no
def runB (x : Rn) : List Int := intB x.fr ++ intB x.at_ ++ intB x.ct
def headB (x : Ino) : List Int := intB x.no ++ intB x.kind ++ intB x.links ++ intB x.size ++ textB x.target
def inoB (x : Ino) : List Int := headB x ++ lowB x.ents.length 4 ++ x.ents.flatMap entB ++ lowB x.runs.length 4 ++ x.runs.flatMap runB
def tailB (d : Dee) : List Int := if d.kind = 1 ∨ d.kind = 3 ∨ d.kind = 4 then intB d.no else if d.kind = 2 then inoB d.ino else []
def deedB (d : Dee) : List Int := lowB (d.kind % 18446744073709551616) 1 ++ tailB d
def deedsB (l : List Dee) : List Int := l.flatMap deedB
theorem fm_take {α : Type} (f : α → List Int) (l : List α) (i : Nat) (h : i < l.length) : (l.take (i + 1)).flatMap f = (l.take i).flatMap f ++ f l[i] := by
  rw [List.take_add_one, List.getElem?_eq_getElem h, List.flatMap_append]
  simp
theorem fm_le {α : Type} (f : α → List Int) (l : List α) (i : Nat) : ((l.take i).flatMap f).length ≤ (l.flatMap f).length := by
  conv => rhs; rw [← List.take_append_drop i l, List.flatMap_append, List.length_append]
  exact Nat.le_add_right _ _
theorem ints_length (l : List Int) : (l.flatMap intB).length = 8 * l.length := by
  induction l with
  | nil => rfl
  | cons x r ih => simp [ih, intB_length]; omega
theorem headB_length (x : Ino) : (headB x).length = 36 + x.target.size := by simp only [headB, List.length_append, intB_length, textB_length]; omega
theorem inoB_length (x : Ino) : (inoB x).length = 44 + x.target.size + (x.ents.flatMap entB).length + (x.runs.flatMap runB).length := by simp only [inoB, List.length_append, headB_length, lowB_length]; omega
end Go.Proofs.YtbbaoeidobdblaaGreat.Sx

/- codec.Put, PutInt, PutText; pack.ints. -/
set_option linter.unusedVariables false
set_option linter.unusedSimpArgs false
namespace Go.Proofs.YtbbaoeidobdblaaGreat.Sx
open Go
attribute [local simp ↓] ifb_true' ifb_false'
attribute [local simp] ifb_true ifb_false ifb_eq sx argsT find ev evOp evs evo evBin evInt evStr evNil evNilA ptrA slcA isNoneA asB evLoad look del cellsB evUn evConv kdec fld evFieldA evField evIdxA evIdx evSlc bndL bndH evLen mmi put resV guardV gvL setO tupV cellsOf ones one upd lits nv exitTo SV.val CV.val TI.agg rdyA allR keepB scan simpO gsp isS subs keepT pickT wr memN pubs Res.fact Region.binds bld rest give delL back Res.eqv vi vb num
theorem two_ok {W : World} {a b : Option Addr} {n m c d : Nat} {g : Option Addr} {xs ys : List Int} (h : W.ownsRow 0 57 1 (.slice g 2 2) 2 [.slice a n c, .slice b m d]) (h1 : Sl.ok dByte W (a, c) xs) (e1 : n = xs.length) (h2 : Sl.ok dByte W (b, d) ys) (e2 : m = ys.length) : Sl.ok dBs W (g, 2) [xs, ys] := by
  subst e1 e2
  have hr : Rows dBs W [xs, ys] [.slice a xs.length c, .slice b ys.length d] := (rows_nil dBs W).snoc (x := xs) (c := [.slice a xs.length c]) ⟨(a, c), rfl, h1⟩ |>.snoc (x := ys) (c := [.slice b ys.length d]) ⟨(b, d), rfl, h2⟩
  obtain ⟨k1, k2, k3⟩ := hr.rd h (by decide)
  exact ⟨by simp, by simp, k3⟩
theorem byte_ok {W : World} {a : Option Addr} {n c : Nat} {xs : List Int} (h : W.ownsRow 0 5 1 (.slice a n c) n ((bC xs).map CV.val)) (hl : xs.length ≤ 100000000000) : n = xs.length ∧ Sl.ok dByte W (a, c) xs := by
  rw [bC_val] at h
  obtain ⟨k1, k2, k3⟩ := (rows_byte.2 rfl : Rows dByte W xs _).rd h (by decide)
  exact ⟨k1, by simp; omega, hl, k3⟩
theorem bC_set (l : List Int) (i : Nat) (x : Int) : (bC l).set i (.v (.int .u8 x)) = bC (l.set i x) := by simp [bC, List.map_set]
theorem bC_length (l : List Int) : (bC l).length = l.length := by simp [bC]
theorem put0 (w : World) (I : Nat → Prop) (hI : ∀ b, I b → b < w.heap.size) (xs : List Int) (s : Sl) (v : Int) (n : Nat) (h : ∀ W, Ext I w W → s.ok dByte W xs) (hl : xs.length + n ≤ 100000000000) (hn : n ≤ 8) (hv : 0 ≤ v) :
    Fn0 Tryz.prog 105 #[.slice s.1 xs.length s.2, .int .u64 v, .int .i64 n] w I (fun r : Sl => .slice r.1 (xs.length + n) r.2) (fun r W => r.ok dByte W (xs ++ lowB v n)) := by
  refine enter (svs := [.c (.v (.slice s.1 xs.length s.2)), .c (.v (.int .u64 v)), .c (.v (.int .i64 n))]) tysOk Tryz.func105 rfl Tryz.ntmps105 Tryz.results105 (by kernel_rfl) (by simp) hI (fun W => s.ok dByte W xs) h fun C hC hN ok => ?_
  have e1 : ¬ ((n : Int) < 0) := by omega
  have e2 : ¬ ((8 : Int) < n) := by omega
  simp [hN, e1, e2]
  refine mksl ok rfl rfl rfl rfl rfl rfl rfl rfl rfl (by omega) (by show (1 : Int) * n ≤ _; omega) (by omega) fun g => ?_
  simp [hN]
  refine loop ok (fun i : Nat => [(15, .c (.v (.int .i64 i)))]) (fun i => [(12, .row (some ⟨g, 0, none⟩) n n 5 1 (bC (fillB v n i)))]) (fun i W => i ≤ n) (fun i => n - i) 0 ?_ ?_ (fun W _ => Nat.zero_le _) fun i W hi hG next => ?_
  · simp
  · simp [fillB_none, bC]
  simp [hN]
  refine ⟨fun hlt => ?_, fun hge => ?_⟩
  · have e3 : IntKind.i64.wrap (8 * (i : Int)) = (8 * i : Nat) := by rw [w64 (by omega) (by omega)]; omega
    have e4 : min (8 * i) IntKind.u64.bits = 8 * i := by simp [IntKind.bits]; omega
    have e5 : v.fdiv (2 ^ (8 * i)) = v / 2 ^ (8 * i) := Int.fdiv_eq_ediv_of_nonneg _ (Int.le_of_lt (Int.pow_pos (by decide)))
    have e6 : IntKind.i64.wrap ((i : Int) + 1) = (i + 1 : Nat) := by rw [w64 (by omega) (by omega)]; omega
    rw [e3, e6, Int.toNat_natCast, e4, e5, u8_wrap, bC_set, fillB_set v n i hlt]
    refine ⟨by omega, hlt, by rw [bC_length, fillB_length v n i hi]; omega, next (i + 1) _ _ (by omega) (fun W h => ⟨hlt, h.2⟩) ?_⟩
    simp
  · have hi' : i = n := by omega
    subst hi'
    intro g2
    rw [fillB_full]
    refine pub 12 rfl (by decide) (pub 29 rfl (by decide) (call0 ok rfl rfl rfl (fun w I hI hG => concat0 w I hI [xs, lowB v i] (some ⟨g2, 0, none⟩, 2) (fun W e => two_ok (hG W e).1 (hG W e).2.2.2 rfl (byte_ok (hG W e).2.1 (by rw [lowB_length]; omega)).2 (lowB_length v i).symm) (by simp [lowB_length]; omega) (by simp)) fun x W hx => ?_))
    simp [hN]
    exact ret0 hC x (by simp [lowB_length]) fun W _ hG => by simpa using hG.1
end Go.Proofs.YtbbaoeidobdblaaGreat.Sx

/- codec.PutInt, PutText; pack.ints. -/
set_option linter.unusedVariables false
set_option linter.unusedSimpArgs false
namespace Go.Proofs.YtbbaoeidobdblaaGreat.Sx
open Go
attribute [local simp ↓] ifb_true' ifb_false'
attribute [local simp] ifb_true ifb_false ifb_eq sx argsT find ev evOp evs evo evBin evInt evStr evNil evNilA ptrA slcA isNoneA asB evLoad look del cellsB evUn evConv kdec fld evFieldA evField evIdxA evIdx evSlc bndL bndH evLen mmi put resV guardV gvL setO tupV cellsOf ones one upd lits nv exitTo SV.val CV.val TI.agg rdyA allR keepB scan simpO gsp isS subs keepT pickT wr memN pubs Res.fact Region.binds bld rest give delL back Res.eqv vi vb num
theorem putInt0 (w : World) (I : Nat → Prop) (hI : ∀ b, I b → b < w.heap.size) (xs : List Int) (s : Sl) (v : Int) (h : ∀ W, Ext I w W → s.ok dByte W xs) (hl : xs.length + 8 ≤ 100000000000) :
    Fn0 Tryz.prog 102 #[.slice s.1 xs.length s.2, .int .i64 v] w I (fun r : Sl => .slice r.1 (xs.length + 8) r.2) (fun r W => r.ok dByte W (xs ++ intB v)) := by
  refine enter (svs := [.c (.v (.slice s.1 xs.length s.2)), .c (.v (.int .i64 v))]) tysOk Tryz.func102 rfl Tryz.ntmps102 Tryz.results102 (by kernel_rfl) (by simp) hI (fun W => s.ok dByte W xs) h fun C hC hN ok => ?_
  simp [hN, u64_wrap]
  refine call0 ok rfl rfl rfl (fun w I hI hG => put0 w I hI xs s _ 8 hG hl (by omega) (Int.emod_nonneg _ (by decide))) fun x W hx => ?_
  simp [hN]
  exact ret0 hC x rfl fun W _ hG => hG.1
theorem text_ok {W : World} {g c : Nat} {s : ByteArray} (h : textAt g s W) (hc : s.size ≤ c) (hl : s.size ≤ 100000000000) : Sl.ok dByte W (some ⟨g, 0, none⟩, c) (bytesOf s) := by
  refine ⟨by rw [bytesOf_length]; exact hc, by rw [bytesOf_length]; exact hl, fun _ => ⟨g, 0, rfl, fun i x hx => ⟨_, rfl, fun j v hv => ?_⟩⟩⟩
  have hi : i < s.size := by
    have := (List.getElem?_eq_some_iff.1 hx).1
    rwa [bytesOf_length] at this
  have hj : j = 0 := by have := (List.getElem?_eq_some_iff.1 hv).1; simpa using this
  subst hj
  have h1 := h i hi
  simp only [List.getElem?_cons_zero, Option.some.injEq] at hv
  subst hv
  have h2 : i < s.data.toList.length := by rw [Array.length_toList]; exact hi
  have h3 : (bytesOf s)[i]? = some ((s.data.toList.getD i 0).toNat : Int) := by
    unfold bytesOf
    rw [List.getElem?_map, List.getElem?_eq_getElem h2]
    rw [Array.getElem_toList, List.getD_eq_getElem?_getD, List.getElem?_eq_getElem h2, Array.getElem_toList]
    rfl
  rw [h3] at hx
  cases hx
  simpa [dByte, flat] using h1
theorem putText0 (w : World) (I : Nat → Prop) (hI : ∀ b, I b → b < w.heap.size) (xs : List Int) (s : Sl) (t : ByteArray) (h : ∀ W, Ext I w W → s.ok dByte W xs) (hl : xs.length + 4 + t.size ≤ 100000000000) :
    Fn0 Tryz.prog 150 #[.slice s.1 xs.length s.2, .string t] w I (fun r : Sl => .slice r.1 (xs.length + (4 + t.size)) r.2) (fun r W => r.ok dByte W (xs ++ textB t)) := by
  refine enter (svs := [.c (.v (.slice s.1 xs.length s.2)), .c (.v (.string t))]) tysOk Tryz.func150 rfl Tryz.ntmps150 Tryz.results150 (by kernel_rfl) (by simp) hI (fun W => s.ok dByte W xs) h fun C hC hN ok => ?_
  have e1 : IntKind.u64.wrap (t.size : Int) = t.size := by rw [u64_wrap]; omega
  simp [hN, e1]
  refine call0 ok rfl rfl rfl (fun w I hI hG => put0 w I hI xs s _ 4 hG (by omega) (by omega) (by omega)) fun x W hx => ?_
  simp [hN]
  refine strB ok rfl rfl rfl rfl rfl rfl (by rfl) (by rfl) fun g c hc => ?_
  simp [hN]
  intro g2
  refine pub 12 rfl (by decide) (call0 ok rfl rfl rfl (fun w I hI hG => concat0 w I hI [xs ++ lowB t.size 4, bytesOf t] (some ⟨g2, 0, none⟩, 2) (fun W e => two_ok (hG W e).1 (hG W e).2.2.1 (by simp [lowB_length]) (text_ok (hG W e).2.1 hc (by omega)) (bytesOf_length t).symm) (by simp [lowB_length, bytesOf_length]; omega) (by simp)) fun y W hy => ?_)
  simp [hN]
  exact ret0 hC y (by simp [lowB_length, bytesOf_length]) fun W _ hG => by have := hG.1; simpa [textB] using this
theorem ints0 (w : World) (I : Nat → Prop) (hI : ∀ b, I b → b < w.heap.size) (xs l : List Int) (s t : Sl) (h : ∀ W, Ext I w W → s.ok dByte W xs ∧ t.ok dInt W l) (hl : xs.length + 8 * l.length ≤ 100000000000) :
    Fn0 Tryz.prog 151 #[.slice s.1 xs.length s.2, .slice t.1 l.length t.2] w I (fun r : Sl => .slice r.1 (xs.length + 8 * l.length) r.2) (fun r W => r.ok dByte W (xs ++ l.flatMap intB)) := by
  obtain ⟨ta, tc⟩ := t
  refine enter (svs := [.c (.v (.slice s.1 xs.length s.2)), .c (.v (.slice ta l.length tc))]) tysOk Tryz.func151 rfl Tryz.ntmps151 Tryz.results151 (by kernel_rfl) (by simp) hI (fun W => s.ok dByte W xs ∧ Sl.ok dInt W (ta, tc) l) h fun C hC hN ok => ?_
  simp [hN]
  refine loop ok (fun a : Nat × Sl => [(9, .c (.v (.int .i64 (a.1 : Nat)))), (0, .c (.v (.slice a.2.1 (xs.length + 8 * a.1) a.2.2)))]) (fun _ => []) (fun a W => a.1 ≤ l.length ∧ a.2.ok dByte W (xs ++ (l.take a.1).flatMap intB)) (fun a => l.length - a.1) (0, s) ?_ ?_ (fun W hW => ⟨Nat.zero_le _, by simpa using hW.1⟩) ?_
  · simp
  · simp
  rintro ⟨i, r⟩ W ⟨hi, hr⟩ hG next
  simp [hN]
  refine ⟨fun hlt => ?_, fun hge => ?_⟩
  · obtain ⟨b, o, e⟩ := hG.2.2.2.is_some (Nat.lt_of_le_of_lt (Nat.zero_le _) hlt)
    cases e
    simp [hN]
    refine ⟨hlt, load1 ok rfl rfl rfl rfl (fun v W => v = .int .i64 l[i]) (fun W hW => ?_) ?_⟩
    · obtain ⟨cs, hk, _, hc⟩ := hW.2.2.2.2.get hlt
      exact ⟨_, by simpa [dInt, flat] using hc 0 (.int .i64 l[i]) (by rw [hk]; rfl), rfl⟩
    · rintro v W rfl hG2
      simp [hN]
      have hlen : (xs ++ (l.take i).flatMap intB).length = xs.length + 8 * i := by rw [List.length_append, ints_length, List.length_take]; omega
      rw [← hlen]
      refine call0 ok rfl rfl rfl (fun w I hI hG => putInt0 w I hI _ r _ (fun W e => (hG W e).1.2) (by omega)) fun y W hy => ?_
      have e6 : IntKind.i64.wrap ((i : Int) + 1) = (i + 1 : Nat) := by rw [w64 (by omega) (by omega)]; omega
      rw [hlen]
      simp [hN, e6]
      refine next (i + 1, y) _ _ (by simp; omega) (fun W h => ⟨⟨hlt, by rw [fm_take _ _ _ hlt]; simpa using h.1⟩, h.2.2⟩) ?_
      simp [Nat.mul_add, Nat.add_assoc]
  · have hi' : i = l.length := by simp only at hi; omega
    subst hi'
    exact ret0 hC r rfl fun W _ hG => by have := hG.1.2; rwa [List.take_length] at this
end Go.Proofs.YtbbaoeidobdblaaGreat.Sx
