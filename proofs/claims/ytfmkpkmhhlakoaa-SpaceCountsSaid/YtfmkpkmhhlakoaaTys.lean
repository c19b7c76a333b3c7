/- What is asked of the types of this program (written by tys.py). -/
import Derived.Test.YtfmkpkmhhlakoaaSxg
import Derived.Test.YtfmkpkmhhlakoaaProg
import Derived.KernelRfl
set_option linter.unusedVariables false
namespace Go.Proofs.Ytfmkpkmhhlakoaa.Sx
open Go
theorem k1 : TIok Try.prog 1 ⟨0, 1, 8, [.nilFunc], [], 0, 0⟩ := ⟨by kernel_rfl, by kernel_rfl, by kernel_rfl⟩
theorem k2 : TIok Try.prog 2 ⟨8, 1, 8, [.int .i64 0], [], 3, 0⟩ := ⟨by kernel_rfl, by kernel_rfl, by kernel_rfl⟩
theorem k3 : TIok Try.prog 3 ⟨8, 1, 8, [.int .i64 0], [], 3, 0⟩ := ⟨by kernel_rfl, by kernel_rfl, by kernel_rfl⟩
theorem k4 : TIok Try.prog 4 ⟨7, 1, 1, [.bool false], [], 0, 0⟩ := ⟨by kernel_rfl, by kernel_rfl, by kernel_rfl⟩
theorem k5 : TIok Try.prog 5 ⟨8, 1, 1, [.int .u8 0], [], 4, 0⟩ := ⟨by kernel_rfl, by kernel_rfl, by kernel_rfl⟩
theorem k6 : TIok Try.prog 6 ⟨8, 1, 1, [.int .u8 0], [], 4, 0⟩ := ⟨by kernel_rfl, by kernel_rfl, by kernel_rfl⟩
theorem k7 : TIok Try.prog 7 ⟨1, 4, 24, [.int .i64 0, .int .i64 0, .bool false, .int .u8 0], [(0, 1, false), (1, 1, false), (2, 1, false), (3, 1, false)], 0, 0⟩ := ⟨by kernel_rfl, by kernel_rfl, by kernel_rfl⟩
theorem k8 : TIok Try.prog 8 ⟨1, 4, 24, [.int .i64 0, .int .i64 0, .bool false, .int .u8 0], [(0, 1, false), (1, 1, false), (2, 1, false), (3, 1, false)], 0, 0⟩ := ⟨by kernel_rfl, by kernel_rfl, by kernel_rfl⟩
theorem k9 : TIok Try.prog 9 ⟨4, 1, 16, [.string ⟨#[]⟩], [], 0, 0⟩ := ⟨by kernel_rfl, by kernel_rfl, by kernel_rfl⟩
theorem k10 : TIok Try.prog 10 ⟨4, 1, 16, [.string ⟨#[]⟩], [], 0, 0⟩ := ⟨by kernel_rfl, by kernel_rfl, by kernel_rfl⟩
theorem k11 : TIok Try.prog 11 ⟨4, 1, 16, [.string ⟨#[]⟩], [], 0, 0⟩ := ⟨by kernel_rfl, by kernel_rfl, by kernel_rfl⟩
theorem k12 : TIok Try.prog 12 ⟨8, 1, 8, [.int .u64 0], [], 7, 0⟩ := ⟨by kernel_rfl, by kernel_rfl, by kernel_rfl⟩
theorem k13 : TIok Try.prog 13 ⟨1, 2, 24, [.string ⟨#[]⟩, .int .u64 0], [(0, 1, false), (1, 1, false)], 0, 0⟩ := ⟨by kernel_rfl, by kernel_rfl, by kernel_rfl⟩
theorem k14 : TIok Try.prog 14 ⟨1, 2, 24, [.string ⟨#[]⟩, .int .u64 0], [(0, 1, false), (1, 1, false)], 0, 0⟩ := ⟨by kernel_rfl, by kernel_rfl, by kernel_rfl⟩
theorem k15 : TIok Try.prog 15 ⟨6, 1, 8, [.pointer none], [], 216, 0⟩ := ⟨by kernel_rfl, by kernel_rfl, by kernel_rfl⟩
theorem k16 : TIok Try.prog 16 ⟨6, 1, 8, [.pointer none], [], 219, 0⟩ := ⟨by kernel_rfl, by kernel_rfl, by kernel_rfl⟩
theorem k17 : TIok Try.prog 17 ⟨6, 1, 8, [.pointer none], [], 228, 0⟩ := ⟨by kernel_rfl, by kernel_rfl, by kernel_rfl⟩
theorem k18 : TIok Try.prog 18 ⟨1, 1, 8, [.pointer none], [(0, 1, false)], 0, 0⟩ := ⟨by kernel_rfl, by kernel_rfl, by kernel_rfl⟩
theorem k19 : TIok Try.prog 19 ⟨1, 1, 8, [.pointer none], [(0, 1, false)], 0, 0⟩ := ⟨by kernel_rfl, by kernel_rfl, by kernel_rfl⟩
theorem k21 : TIok Try.prog 21 ⟨8, 1, 4, [.int .i32 0], [], 2, 0⟩ := ⟨by kernel_rfl, by kernel_rfl, by kernel_rfl⟩
theorem k22 : TIok Try.prog 22 ⟨3, 1, 24, [.slice none 0 0], [], 3, 0⟩ := ⟨by kernel_rfl, by kernel_rfl, by kernel_rfl⟩
theorem k23 : TIok Try.prog 23 ⟨6, 1, 8, [.pointer none], [], 99, 0⟩ := ⟨by kernel_rfl, by kernel_rfl, by kernel_rfl⟩
theorem k24 : TIok Try.prog 24 ⟨0, 1, 8, [.nilFunc], [], 0, 0⟩ := ⟨by kernel_rfl, by kernel_rfl, by kernel_rfl⟩
theorem k25 : TIok Try.prog 25 ⟨0, 1, 8, [.nilFunc], [], 0, 0⟩ := ⟨by kernel_rfl, by kernel_rfl, by kernel_rfl⟩
theorem k26 : TIok Try.prog 26 ⟨8, 1, 8, [.int .i64 0], [], 3, 0⟩ := ⟨by kernel_rfl, by kernel_rfl, by kernel_rfl⟩
theorem k28 : TIok Try.prog 28 ⟨0, 1, 8, [.nilFunc], [], 0, 0⟩ := ⟨by kernel_rfl, by kernel_rfl, by kernel_rfl⟩
theorem k29 : TIok Try.prog 29 ⟨0, 1, 8, [.nilFunc], [], 0, 0⟩ := ⟨by kernel_rfl, by kernel_rfl, by kernel_rfl⟩
theorem k30 : TIok Try.prog 30 ⟨8, 1, 8, [.int .u64 0], [], 7, 0⟩ := ⟨by kernel_rfl, by kernel_rfl, by kernel_rfl⟩
theorem k31 : TIok Try.prog 31 ⟨1, 3, 24, [.int .i64 0, .int .i64 0, .int .i64 0], [(0, 1, false), (1, 1, false), (2, 1, false)], 0, 0⟩ := ⟨by kernel_rfl, by kernel_rfl, by kernel_rfl⟩
theorem k32 : TIok Try.prog 32 ⟨1, 3, 24, [.int .i64 0, .int .i64 0, .int .i64 0], [(0, 1, false), (1, 1, false), (2, 1, false)], 0, 0⟩ := ⟨by kernel_rfl, by kernel_rfl, by kernel_rfl⟩
theorem k34 : TIok Try.prog 34 ⟨0, 1, 8, [.nilFunc], [], 0, 0⟩ := ⟨by kernel_rfl, by kernel_rfl, by kernel_rfl⟩
theorem k35 : TIok Try.prog 35 ⟨0, 1, 8, [.nilFunc], [], 0, 0⟩ := ⟨by kernel_rfl, by kernel_rfl, by kernel_rfl⟩
theorem k36 : TIok Try.prog 36 ⟨0, 1, 8, [.nilFunc], [], 0, 0⟩ := ⟨by kernel_rfl, by kernel_rfl, by kernel_rfl⟩
theorem k37 : TIok Try.prog 37 ⟨3, 1, 24, [.slice none 0 0], [], 105, 0⟩ := ⟨by kernel_rfl, by kernel_rfl, by kernel_rfl⟩
theorem k38 : TIok Try.prog 38 ⟨1, 5, 40, [.int .i64 0, .int .i64 0, .int .i64 0, .int .i64 0, .int .i64 0], [(0, 1, false), (1, 1, false), (2, 1, false), (3, 1, false), (4, 1, false)], 0, 0⟩ := ⟨by kernel_rfl, by kernel_rfl, by kernel_rfl⟩
theorem k39 : TIok Try.prog 39 ⟨1, 5, 40, [.int .i64 0, .int .i64 0, .int .i64 0, .int .i64 0, .int .i64 0], [(0, 1, false), (1, 1, false), (2, 1, false), (3, 1, false), (4, 1, false)], 0, 0⟩ := ⟨by kernel_rfl, by kernel_rfl, by kernel_rfl⟩
theorem k40 : TIok Try.prog 40 ⟨0, 1, 8, [.nilFunc], [], 0, 0⟩ := ⟨by kernel_rfl, by kernel_rfl, by kernel_rfl⟩
theorem k41 : TIok Try.prog 41 ⟨3, 1, 24, [.slice none 0 0], [], 63, 0⟩ := ⟨by kernel_rfl, by kernel_rfl, by kernel_rfl⟩
theorem k42 : TIok Try.prog 42 ⟨1, 3, 56, [.int .i64 0, .slice none 0 0, .slice none 0 0], [(0, 1, false), (1, 1, false), (2, 1, false)], 0, 0⟩ := ⟨by kernel_rfl, by kernel_rfl, by kernel_rfl⟩
theorem k43 : TIok Try.prog 43 ⟨1, 3, 56, [.int .i64 0, .slice none 0 0, .slice none 0 0], [(0, 1, false), (1, 1, false), (2, 1, false)], 0, 0⟩ := ⟨by kernel_rfl, by kernel_rfl, by kernel_rfl⟩
theorem k44 : TIok Try.prog 44 ⟨0, 1, 8, [.nilFunc], [], 0, 0⟩ := ⟨by kernel_rfl, by kernel_rfl, by kernel_rfl⟩
theorem k45 : TIok Try.prog 45 ⟨0, 1, 8, [.nilFunc], [], 0, 0⟩ := ⟨by kernel_rfl, by kernel_rfl, by kernel_rfl⟩
theorem k46 : TIok Try.prog 46 ⟨0, 1, 8, [.nilFunc], [], 0, 0⟩ := ⟨by kernel_rfl, by kernel_rfl, by kernel_rfl⟩
theorem k47 : TIok Try.prog 47 ⟨0, 1, 8, [.nilFunc], [], 0, 0⟩ := ⟨by kernel_rfl, by kernel_rfl, by kernel_rfl⟩
theorem k48 : TIok Try.prog 48 ⟨8, 1, 4, [.int .u32 0], [], 6, 0⟩ := ⟨by kernel_rfl, by kernel_rfl, by kernel_rfl⟩
theorem k49 : TIok Try.prog 49 ⟨1, 3, 24, [.int .i64 0, .int .i64 0, .int .u32 0], [(0, 1, false), (1, 1, false), (2, 1, false)], 0, 0⟩ := ⟨by kernel_rfl, by kernel_rfl, by kernel_rfl⟩
theorem k50 : TIok Try.prog 50 ⟨1, 3, 24, [.int .i64 0, .int .i64 0, .int .u32 0], [(0, 1, false), (1, 1, false), (2, 1, false)], 0, 0⟩ := ⟨by kernel_rfl, by kernel_rfl, by kernel_rfl⟩
theorem k51 : TIok Try.prog 51 ⟨3, 1, 24, [.slice none 0 0], [], 50, 0⟩ := ⟨by kernel_rfl, by kernel_rfl, by kernel_rfl⟩
theorem k52 : TIok Try.prog 52 ⟨0, 1, 8, [.nilFunc], [], 0, 0⟩ := ⟨by kernel_rfl, by kernel_rfl, by kernel_rfl⟩
theorem k53 : TIok Try.prog 53 ⟨0, 1, 8, [.nilFunc], [], 0, 0⟩ := ⟨by kernel_rfl, by kernel_rfl, by kernel_rfl⟩
theorem k54 : TIok Try.prog 54 ⟨1, 4, 32, [.int .i64 0, .int .i64 0, .int .i64 0, .bool false], [(0, 1, false), (1, 1, false), (2, 1, false), (3, 1, false)], 0, 0⟩ := ⟨by kernel_rfl, by kernel_rfl, by kernel_rfl⟩
theorem k55 : TIok Try.prog 55 ⟨1, 4, 32, [.int .i64 0, .int .i64 0, .int .i64 0, .bool false], [(0, 1, false), (1, 1, false), (2, 1, false), (3, 1, false)], 0, 0⟩ := ⟨by kernel_rfl, by kernel_rfl, by kernel_rfl⟩
theorem k56 : TIok Try.prog 56 ⟨3, 1, 24, [.slice none 0 0], [], 55, 0⟩ := ⟨by kernel_rfl, by kernel_rfl, by kernel_rfl⟩
theorem k57 : TIok Try.prog 57 ⟨0, 1, 8, [.nilFunc], [], 0, 0⟩ := ⟨by kernel_rfl, by kernel_rfl, by kernel_rfl⟩
theorem k58 : TIok Try.prog 58 ⟨0, 1, 8, [.nilFunc], [], 0, 0⟩ := ⟨by kernel_rfl, by kernel_rfl, by kernel_rfl⟩
theorem k59 : TIok Try.prog 59 ⟨0, 1, 8, [.nilFunc], [], 0, 0⟩ := ⟨by kernel_rfl, by kernel_rfl, by kernel_rfl⟩
theorem k60 : TIok Try.prog 60 ⟨3, 1, 24, [.slice none 0 0], [], 170, 0⟩ := ⟨by kernel_rfl, by kernel_rfl, by kernel_rfl⟩
theorem k61 : TIok Try.prog 61 ⟨3, 1, 24, [.slice none 0 0], [], 107, 0⟩ := ⟨by kernel_rfl, by kernel_rfl, by kernel_rfl⟩
theorem k62 : TIok Try.prog 62 ⟨1, 7, 96, [.int .i64 0, .int .i64 0, .int .i64 0, .int .i64 0, .string ⟨#[]⟩, .slice none 0 0, .slice none 0 0], [(0, 1, false), (1, 1, false), (2, 1, false), (3, 1, false), (4, 1, false), (5, 1, false), (6, 1, false)], 0, 0⟩ := ⟨by kernel_rfl, by kernel_rfl, by kernel_rfl⟩
theorem k63 : TIok Try.prog 63 ⟨1, 7, 96, [.int .i64 0, .int .i64 0, .int .i64 0, .int .i64 0, .string ⟨#[]⟩, .slice none 0 0, .slice none 0 0], [(0, 1, false), (1, 1, false), (2, 1, false), (3, 1, false), (4, 1, false), (5, 1, false), (6, 1, false)], 0, 0⟩ := ⟨by kernel_rfl, by kernel_rfl, by kernel_rfl⟩
theorem k65 : TIok Try.prog 65 ⟨0, 1, 8, [.nilFunc], [], 0, 0⟩ := ⟨by kernel_rfl, by kernel_rfl, by kernel_rfl⟩
theorem k67 : TIok Try.prog 67 ⟨0, 1, 8, [.nilFunc], [], 0, 0⟩ := ⟨by kernel_rfl, by kernel_rfl, by kernel_rfl⟩
theorem k68 : TIok Try.prog 68 ⟨0, 1, 8, [.nilFunc], [], 0, 0⟩ := ⟨by kernel_rfl, by kernel_rfl, by kernel_rfl⟩
theorem k69 : TIok Try.prog 69 ⟨0, 1, 8, [.nilFunc], [], 0, 0⟩ := ⟨by kernel_rfl, by kernel_rfl, by kernel_rfl⟩
theorem k70 : TIok Try.prog 70 ⟨0, 1, 8, [.nilFunc], [], 0, 0⟩ := ⟨by kernel_rfl, by kernel_rfl, by kernel_rfl⟩
theorem k71 : TIok Try.prog 71 ⟨0, 1, 8, [.nilFunc], [], 0, 0⟩ := ⟨by kernel_rfl, by kernel_rfl, by kernel_rfl⟩
theorem k72 : TIok Try.prog 72 ⟨0, 1, 8, [.nilFunc], [], 0, 0⟩ := ⟨by kernel_rfl, by kernel_rfl, by kernel_rfl⟩
theorem k73 : TIok Try.prog 73 ⟨0, 1, 8, [.nilFunc], [], 0, 0⟩ := ⟨by kernel_rfl, by kernel_rfl, by kernel_rfl⟩
theorem k74 : TIok Try.prog 74 ⟨0, 1, 8, [.nilFunc], [], 0, 0⟩ := ⟨by kernel_rfl, by kernel_rfl, by kernel_rfl⟩
theorem k75 : TIok Try.prog 75 ⟨0, 1, 8, [.nilFunc], [], 0, 0⟩ := ⟨by kernel_rfl, by kernel_rfl, by kernel_rfl⟩
theorem k76 : TIok Try.prog 76 ⟨3, 1, 24, [.slice none 0 0], [], 82, 0⟩ := ⟨by kernel_rfl, by kernel_rfl, by kernel_rfl⟩
theorem k77 : TIok Try.prog 77 ⟨6, 1, 8, [.pointer none], [], 80, 0⟩ := ⟨by kernel_rfl, by kernel_rfl, by kernel_rfl⟩
theorem k78 : TIok Try.prog 78 ⟨2, 48, 384, [.int .i64 0, .int .i64 0, .int .i64 0, .int .i64 0, .int .i64 0, .int .i64 0, .int .i64 0, .int .i64 0, .int .i64 0, .int .i64 0, .int .i64 0, .int .i64 0, .int .i64 0, .int .i64 0, .int .i64 0, .int .i64 0, .int .i64 0, .int .i64 0, .int .i64 0, .int .i64 0, .int .i64 0, .int .i64 0, .int .i64 0, .int .i64 0, .int .i64 0, .int .i64 0, .int .i64 0, .int .i64 0, .int .i64 0, .int .i64 0, .int .i64 0, .int .i64 0, .int .i64 0, .int .i64 0, .int .i64 0, .int .i64 0, .int .i64 0, .int .i64 0, .int .i64 0, .int .i64 0, .int .i64 0, .int .i64 0, .int .i64 0, .int .i64 0, .int .i64 0, .int .i64 0, .int .i64 0, .int .i64 0], [], 32, 16⟩ := ⟨by kernel_rfl, by kernel_rfl, by kernel_rfl⟩
theorem k79 : TIok Try.prog 79 ⟨1, 48, 384, [.int .i64 0, .int .i64 0, .int .i64 0, .int .i64 0, .int .i64 0, .int .i64 0, .int .i64 0, .int .i64 0, .int .i64 0, .int .i64 0, .int .i64 0, .int .i64 0, .int .i64 0, .int .i64 0, .int .i64 0, .int .i64 0, .int .i64 0, .int .i64 0, .int .i64 0, .int .i64 0, .int .i64 0, .int .i64 0, .int .i64 0, .int .i64 0, .int .i64 0, .int .i64 0, .int .i64 0, .int .i64 0, .int .i64 0, .int .i64 0, .int .i64 0, .int .i64 0, .int .i64 0, .int .i64 0, .int .i64 0, .int .i64 0, .int .i64 0, .int .i64 0, .int .i64 0, .int .i64 0, .int .i64 0, .int .i64 0, .int .i64 0, .int .i64 0, .int .i64 0, .int .i64 0, .int .i64 0, .int .i64 0], [(0, 48, true)], 0, 0⟩ := ⟨by kernel_rfl, by kernel_rfl, by kernel_rfl⟩
theorem k80 : TIok Try.prog 80 ⟨1, 48, 384, [.int .i64 0, .int .i64 0, .int .i64 0, .int .i64 0, .int .i64 0, .int .i64 0, .int .i64 0, .int .i64 0, .int .i64 0, .int .i64 0, .int .i64 0, .int .i64 0, .int .i64 0, .int .i64 0, .int .i64 0, .int .i64 0, .int .i64 0, .int .i64 0, .int .i64 0, .int .i64 0, .int .i64 0, .int .i64 0, .int .i64 0, .int .i64 0, .int .i64 0, .int .i64 0, .int .i64 0, .int .i64 0, .int .i64 0, .int .i64 0, .int .i64 0, .int .i64 0, .int .i64 0, .int .i64 0, .int .i64 0, .int .i64 0, .int .i64 0, .int .i64 0, .int .i64 0, .int .i64 0, .int .i64 0, .int .i64 0, .int .i64 0, .int .i64 0, .int .i64 0, .int .i64 0, .int .i64 0, .int .i64 0], [(0, 48, true)], 0, 0⟩ := ⟨by kernel_rfl, by kernel_rfl, by kernel_rfl⟩
theorem k81 : TIok Try.prog 81 ⟨1, 5, 40, [.int .i64 0, .int .i64 0, .int .i64 0, .int .i64 0, .int .i64 0], [(0, 1, false), (1, 1, false), (2, 1, false), (3, 1, false), (4, 1, false)], 0, 0⟩ := ⟨by kernel_rfl, by kernel_rfl, by kernel_rfl⟩
theorem k82 : TIok Try.prog 82 ⟨1, 5, 40, [.int .i64 0, .int .i64 0, .int .i64 0, .int .i64 0, .int .i64 0], [(0, 1, false), (1, 1, false), (2, 1, false), (3, 1, false), (4, 1, false)], 0, 0⟩ := ⟨by kernel_rfl, by kernel_rfl, by kernel_rfl⟩
theorem k84 : TIok Try.prog 84 ⟨0, 1, 8, [.nilFunc], [], 0, 0⟩ := ⟨by kernel_rfl, by kernel_rfl, by kernel_rfl⟩
theorem k85 : TIok Try.prog 85 ⟨0, 1, 8, [.nilFunc], [], 0, 0⟩ := ⟨by kernel_rfl, by kernel_rfl, by kernel_rfl⟩
theorem k86 : TIok Try.prog 86 ⟨0, 1, 8, [.nilFunc], [], 0, 0⟩ := ⟨by kernel_rfl, by kernel_rfl, by kernel_rfl⟩
theorem k87 : TIok Try.prog 87 ⟨0, 1, 8, [.nilFunc], [], 0, 0⟩ := ⟨by kernel_rfl, by kernel_rfl, by kernel_rfl⟩
theorem k88 : TIok Try.prog 88 ⟨0, 1, 8, [.nilFunc], [], 0, 0⟩ := ⟨by kernel_rfl, by kernel_rfl, by kernel_rfl⟩
theorem k89 : TIok Try.prog 89 ⟨1, 9, 112, [.int .i64 0, .int .i64 0, .int .i64 0, .int .i64 0, .int .i64 0, .int .i64 0, .string ⟨#[]⟩, .slice none 0 0, .slice none 0 0], [(0, 1, false), (1, 1, false), (2, 7, true)], 0, 0⟩ := ⟨by kernel_rfl, by kernel_rfl, by kernel_rfl⟩
theorem k90 : TIok Try.prog 90 ⟨1, 9, 112, [.int .i64 0, .int .i64 0, .int .i64 0, .int .i64 0, .int .i64 0, .int .i64 0, .string ⟨#[]⟩, .slice none 0 0, .slice none 0 0], [(0, 1, false), (1, 1, false), (2, 7, true)], 0, 0⟩ := ⟨by kernel_rfl, by kernel_rfl, by kernel_rfl⟩
theorem k91 : TIok Try.prog 91 ⟨3, 1, 24, [.slice none 0 0], [], 90, 0⟩ := ⟨by kernel_rfl, by kernel_rfl, by kernel_rfl⟩
theorem k92 : TIok Try.prog 92 ⟨1, 3, 24, [.int .i64 0, .int .i64 0, .int .i64 0], [(0, 1, false), (1, 1, false), (2, 1, false)], 0, 0⟩ := ⟨by kernel_rfl, by kernel_rfl, by kernel_rfl⟩
theorem k93 : TIok Try.prog 93 ⟨1, 3, 24, [.int .i64 0, .int .i64 0, .int .i64 0], [(0, 1, false), (1, 1, false), (2, 1, false)], 0, 0⟩ := ⟨by kernel_rfl, by kernel_rfl, by kernel_rfl⟩
theorem k94 : TIok Try.prog 94 ⟨0, 1, 8, [.nilFunc], [], 0, 0⟩ := ⟨by kernel_rfl, by kernel_rfl, by kernel_rfl⟩
theorem k95 : TIok Try.prog 95 ⟨0, 1, 8, [.nilFunc], [], 0, 0⟩ := ⟨by kernel_rfl, by kernel_rfl, by kernel_rfl⟩
theorem k96 : TIok Try.prog 96 ⟨0, 1, 8, [.nilFunc], [], 0, 0⟩ := ⟨by kernel_rfl, by kernel_rfl, by kernel_rfl⟩
theorem k97 : TIok Try.prog 97 ⟨5, 1, 8, [.map none], [], 0, 0⟩ := ⟨by kernel_rfl, by kernel_rfl, by kernel_rfl⟩
theorem k98 : TIok Try.prog 98 ⟨1, 1, 8, [.map none], [(0, 1, false)], 0, 0⟩ := ⟨by kernel_rfl, by kernel_rfl, by kernel_rfl⟩
theorem k99 : TIok Try.prog 99 ⟨1, 1, 8, [.map none], [(0, 1, false)], 0, 0⟩ := ⟨by kernel_rfl, by kernel_rfl, by kernel_rfl⟩
theorem k100 : TIok Try.prog 100 ⟨1, 1, 8, [.int .i64 0], [(0, 1, false)], 0, 0⟩ := ⟨by kernel_rfl, by kernel_rfl, by kernel_rfl⟩
theorem k101 : TIok Try.prog 101 ⟨1, 1, 8, [.int .i64 0], [(0, 1, false)], 0, 0⟩ := ⟨by kernel_rfl, by kernel_rfl, by kernel_rfl⟩
theorem k102 : TIok Try.prog 102 ⟨0, 1, 8, [.nilFunc], [], 0, 0⟩ := ⟨by kernel_rfl, by kernel_rfl, by kernel_rfl⟩
theorem k103 : TIok Try.prog 103 ⟨0, 1, 8, [.nilFunc], [], 0, 0⟩ := ⟨by kernel_rfl, by kernel_rfl, by kernel_rfl⟩
theorem k104 : TIok Try.prog 104 ⟨1, 4, 48, [.int .i64 0, .string ⟨#[]⟩, .string ⟨#[]⟩, .int .i64 0], [(0, 1, false), (1, 1, false), (2, 1, false), (3, 1, false)], 0, 0⟩ := ⟨by kernel_rfl, by kernel_rfl, by kernel_rfl⟩
theorem k105 : TIok Try.prog 105 ⟨1, 4, 48, [.int .i64 0, .string ⟨#[]⟩, .string ⟨#[]⟩, .int .i64 0], [(0, 1, false), (1, 1, false), (2, 1, false), (3, 1, false)], 0, 0⟩ := ⟨by kernel_rfl, by kernel_rfl, by kernel_rfl⟩
theorem k106 : TIok Try.prog 106 ⟨1, 3, 24, [.int .i64 0, .int .i64 0, .int .i64 0], [(0, 1, false), (1, 1, false), (2, 1, false)], 0, 0⟩ := ⟨by kernel_rfl, by kernel_rfl, by kernel_rfl⟩
theorem k107 : TIok Try.prog 107 ⟨1, 3, 24, [.int .i64 0, .int .i64 0, .int .i64 0], [(0, 1, false), (1, 1, false), (2, 1, false)], 0, 0⟩ := ⟨by kernel_rfl, by kernel_rfl, by kernel_rfl⟩
theorem k108 : TIok Try.prog 108 ⟨0, 1, 8, [.nilFunc], [], 0, 0⟩ := ⟨by kernel_rfl, by kernel_rfl, by kernel_rfl⟩
theorem k109 : TIok Try.prog 109 ⟨0, 1, 8, [.nilFunc], [], 0, 0⟩ := ⟨by kernel_rfl, by kernel_rfl, by kernel_rfl⟩
theorem k110 : TIok Try.prog 110 ⟨0, 1, 8, [.nilFunc], [], 0, 0⟩ := ⟨by kernel_rfl, by kernel_rfl, by kernel_rfl⟩
theorem k111 : TIok Try.prog 111 ⟨0, 1, 8, [.nilFunc], [], 0, 0⟩ := ⟨by kernel_rfl, by kernel_rfl, by kernel_rfl⟩
theorem k112 : TIok Try.prog 112 ⟨0, 1, 8, [.nilFunc], [], 0, 0⟩ := ⟨by kernel_rfl, by kernel_rfl, by kernel_rfl⟩
theorem k113 : TIok Try.prog 113 ⟨5, 1, 8, [.map none], [], 0, 0⟩ := ⟨by kernel_rfl, by kernel_rfl, by kernel_rfl⟩
theorem k114 : TIok Try.prog 114 ⟨0, 1, 8, [.nilFunc], [], 0, 0⟩ := ⟨by kernel_rfl, by kernel_rfl, by kernel_rfl⟩
theorem k115 : TIok Try.prog 115 ⟨0, 1, 8, [.nilFunc], [], 0, 0⟩ := ⟨by kernel_rfl, by kernel_rfl, by kernel_rfl⟩
theorem k116 : TIok Try.prog 116 ⟨1, 1, 8, [.int .i64 0], [(0, 1, false)], 0, 0⟩ := ⟨by kernel_rfl, by kernel_rfl, by kernel_rfl⟩
theorem k117 : TIok Try.prog 117 ⟨1, 1, 8, [.int .i64 0], [(0, 1, false)], 0, 0⟩ := ⟨by kernel_rfl, by kernel_rfl, by kernel_rfl⟩
theorem k118 : TIok Try.prog 118 ⟨0, 1, 8, [.nilFunc], [], 0, 0⟩ := ⟨by kernel_rfl, by kernel_rfl, by kernel_rfl⟩
theorem k120 : TIok Try.prog 120 ⟨0, 1, 8, [.nilFunc], [], 0, 0⟩ := ⟨by kernel_rfl, by kernel_rfl, by kernel_rfl⟩
theorem k121 : TIok Try.prog 121 ⟨0, 1, 8, [.nilFunc], [], 0, 0⟩ := ⟨by kernel_rfl, by kernel_rfl, by kernel_rfl⟩
theorem k122 : TIok Try.prog 122 ⟨0, 1, 8, [.nilFunc], [], 0, 0⟩ := ⟨by kernel_rfl, by kernel_rfl, by kernel_rfl⟩
theorem k123 : TIok Try.prog 123 ⟨0, 1, 8, [.nilFunc], [], 0, 0⟩ := ⟨by kernel_rfl, by kernel_rfl, by kernel_rfl⟩
theorem k124 : TIok Try.prog 124 ⟨0, 1, 8, [.nilFunc], [], 0, 0⟩ := ⟨by kernel_rfl, by kernel_rfl, by kernel_rfl⟩
theorem k125 : TIok Try.prog 125 ⟨0, 1, 8, [.nilFunc], [], 0, 0⟩ := ⟨by kernel_rfl, by kernel_rfl, by kernel_rfl⟩
theorem k126 : TIok Try.prog 126 ⟨0, 1, 8, [.nilFunc], [], 0, 0⟩ := ⟨by kernel_rfl, by kernel_rfl, by kernel_rfl⟩
theorem k127 : TIok Try.prog 127 ⟨0, 1, 8, [.nilFunc], [], 0, 0⟩ := ⟨by kernel_rfl, by kernel_rfl, by kernel_rfl⟩
theorem k128 : TIok Try.prog 128 ⟨0, 1, 8, [.nilFunc], [], 0, 0⟩ := ⟨by kernel_rfl, by kernel_rfl, by kernel_rfl⟩
theorem k129 : TIok Try.prog 129 ⟨0, 1, 8, [.nilFunc], [], 0, 0⟩ := ⟨by kernel_rfl, by kernel_rfl, by kernel_rfl⟩
theorem k130 : TIok Try.prog 130 ⟨0, 1, 8, [.nilFunc], [], 0, 0⟩ := ⟨by kernel_rfl, by kernel_rfl, by kernel_rfl⟩
theorem k131 : TIok Try.prog 131 ⟨0, 1, 8, [.nilFunc], [], 0, 0⟩ := ⟨by kernel_rfl, by kernel_rfl, by kernel_rfl⟩
theorem k132 : TIok Try.prog 132 ⟨0, 1, 8, [.nilFunc], [], 0, 0⟩ := ⟨by kernel_rfl, by kernel_rfl, by kernel_rfl⟩
theorem k133 : TIok Try.prog 133 ⟨0, 1, 8, [.nilFunc], [], 0, 0⟩ := ⟨by kernel_rfl, by kernel_rfl, by kernel_rfl⟩
theorem k135 : TIok Try.prog 135 ⟨0, 1, 8, [.nilFunc], [], 0, 0⟩ := ⟨by kernel_rfl, by kernel_rfl, by kernel_rfl⟩
theorem k137 : TIok Try.prog 137 ⟨0, 1, 8, [.nilFunc], [], 0, 0⟩ := ⟨by kernel_rfl, by kernel_rfl, by kernel_rfl⟩
theorem k138 : TIok Try.prog 138 ⟨0, 1, 8, [.nilFunc], [], 0, 0⟩ := ⟨by kernel_rfl, by kernel_rfl, by kernel_rfl⟩
theorem k139 : TIok Try.prog 139 ⟨0, 1, 8, [.nilFunc], [], 0, 0⟩ := ⟨by kernel_rfl, by kernel_rfl, by kernel_rfl⟩
theorem k140 : TIok Try.prog 140 ⟨0, 1, 8, [.nilFunc], [], 0, 0⟩ := ⟨by kernel_rfl, by kernel_rfl, by kernel_rfl⟩
theorem k141 : TIok Try.prog 141 ⟨3, 1, 24, [.slice none 0 0], [], 9, 0⟩ := ⟨by kernel_rfl, by kernel_rfl, by kernel_rfl⟩
theorem k143 : TIok Try.prog 143 ⟨0, 1, 8, [.nilFunc], [], 0, 0⟩ := ⟨by kernel_rfl, by kernel_rfl, by kernel_rfl⟩
theorem k144 : TIok Try.prog 144 ⟨0, 1, 8, [.nilFunc], [], 0, 0⟩ := ⟨by kernel_rfl, by kernel_rfl, by kernel_rfl⟩
theorem k145 : TIok Try.prog 145 ⟨0, 1, 8, [.nilFunc], [], 0, 0⟩ := ⟨by kernel_rfl, by kernel_rfl, by kernel_rfl⟩
theorem k146 : TIok Try.prog 146 ⟨0, 1, 8, [.nilFunc], [], 0, 0⟩ := ⟨by kernel_rfl, by kernel_rfl, by kernel_rfl⟩
theorem k147 : TIok Try.prog 147 ⟨3, 1, 24, [.slice none 0 0], [], 5, 0⟩ := ⟨by kernel_rfl, by kernel_rfl, by kernel_rfl⟩
theorem k148 : TIok Try.prog 148 ⟨0, 1, 8, [.nilFunc], [], 0, 0⟩ := ⟨by kernel_rfl, by kernel_rfl, by kernel_rfl⟩
theorem k149 : TIok Try.prog 149 ⟨0, 1, 8, [.nilFunc], [], 0, 0⟩ := ⟨by kernel_rfl, by kernel_rfl, by kernel_rfl⟩
theorem k150 : TIok Try.prog 150 ⟨0, 1, 8, [.nilFunc], [], 0, 0⟩ := ⟨by kernel_rfl, by kernel_rfl, by kernel_rfl⟩
theorem k151 : TIok Try.prog 151 ⟨0, 1, 8, [.nilFunc], [], 0, 0⟩ := ⟨by kernel_rfl, by kernel_rfl, by kernel_rfl⟩
theorem k152 : TIok Try.prog 152 ⟨0, 1, 8, [.nilFunc], [], 0, 0⟩ := ⟨by kernel_rfl, by kernel_rfl, by kernel_rfl⟩
theorem k153 : TIok Try.prog 153 ⟨8, 1, 8, [.int .i64 0], [], 3, 0⟩ := ⟨by kernel_rfl, by kernel_rfl, by kernel_rfl⟩
theorem k155 : TIok Try.prog 155 ⟨0, 1, 8, [.nilFunc], [], 0, 0⟩ := ⟨by kernel_rfl, by kernel_rfl, by kernel_rfl⟩
theorem k156 : TIok Try.prog 156 ⟨0, 1, 8, [.nilFunc], [], 0, 0⟩ := ⟨by kernel_rfl, by kernel_rfl, by kernel_rfl⟩
theorem k157 : TIok Try.prog 157 ⟨0, 1, 8, [.nilFunc], [], 0, 0⟩ := ⟨by kernel_rfl, by kernel_rfl, by kernel_rfl⟩
theorem k158 : TIok Try.prog 158 ⟨0, 1, 8, [.nilFunc], [], 0, 0⟩ := ⟨by kernel_rfl, by kernel_rfl, by kernel_rfl⟩
theorem k159 : TIok Try.prog 159 ⟨0, 1, 8, [.nilFunc], [], 0, 0⟩ := ⟨by kernel_rfl, by kernel_rfl, by kernel_rfl⟩
theorem k160 : TIok Try.prog 160 ⟨8, 1, 8, [.int .u64 0], [], 7, 0⟩ := ⟨by kernel_rfl, by kernel_rfl, by kernel_rfl⟩
theorem k162 : TIok Try.prog 162 ⟨0, 1, 8, [.nilFunc], [], 0, 0⟩ := ⟨by kernel_rfl, by kernel_rfl, by kernel_rfl⟩
theorem k163 : TIok Try.prog 163 ⟨0, 1, 8, [.nilFunc], [], 0, 0⟩ := ⟨by kernel_rfl, by kernel_rfl, by kernel_rfl⟩
theorem k165 : TIok Try.prog 165 ⟨0, 1, 8, [.nilFunc], [], 0, 0⟩ := ⟨by kernel_rfl, by kernel_rfl, by kernel_rfl⟩
theorem k166 : TIok Try.prog 166 ⟨0, 1, 8, [.nilFunc], [], 0, 0⟩ := ⟨by kernel_rfl, by kernel_rfl, by kernel_rfl⟩
theorem k168 : TIok Try.prog 168 ⟨0, 1, 8, [.nilFunc], [], 0, 0⟩ := ⟨by kernel_rfl, by kernel_rfl, by kernel_rfl⟩
theorem k169 : TIok Try.prog 169 ⟨1, 2, 24, [.string ⟨#[]⟩, .int .i64 0], [(0, 1, false), (1, 1, false)], 0, 0⟩ := ⟨by kernel_rfl, by kernel_rfl, by kernel_rfl⟩
theorem k170 : TIok Try.prog 170 ⟨1, 2, 24, [.string ⟨#[]⟩, .int .i64 0], [(0, 1, false), (1, 1, false)], 0, 0⟩ := ⟨by kernel_rfl, by kernel_rfl, by kernel_rfl⟩
theorem k171 : TIok Try.prog 171 ⟨0, 1, 8, [.nilFunc], [], 0, 0⟩ := ⟨by kernel_rfl, by kernel_rfl, by kernel_rfl⟩
theorem k173 : TIok Try.prog 173 ⟨0, 1, 8, [.nilFunc], [], 0, 0⟩ := ⟨by kernel_rfl, by kernel_rfl, by kernel_rfl⟩
theorem k174 : TIok Try.prog 174 ⟨0, 1, 8, [.nilFunc], [], 0, 0⟩ := ⟨by kernel_rfl, by kernel_rfl, by kernel_rfl⟩
theorem k175 : TIok Try.prog 175 ⟨0, 1, 8, [.nilFunc], [], 0, 0⟩ := ⟨by kernel_rfl, by kernel_rfl, by kernel_rfl⟩
theorem k176 : TIok Try.prog 176 ⟨0, 1, 8, [.nilFunc], [], 0, 0⟩ := ⟨by kernel_rfl, by kernel_rfl, by kernel_rfl⟩
theorem k177 : TIok Try.prog 177 ⟨0, 1, 8, [.nilFunc], [], 0, 0⟩ := ⟨by kernel_rfl, by kernel_rfl, by kernel_rfl⟩
theorem k178 : TIok Try.prog 178 ⟨6, 1, 8, [.pointer none], [], 180, 0⟩ := ⟨by kernel_rfl, by kernel_rfl, by kernel_rfl⟩
theorem k179 : TIok Try.prog 179 ⟨1, 6, 96, [.int .i64 0, .slice none 0 0, .slice none 0 0, .slice none 0 0, .int .i64 0, .int .i64 0], [(0, 3, true), (3, 1, false), (4, 1, false), (5, 1, false)], 0, 0⟩ := ⟨by kernel_rfl, by kernel_rfl, by kernel_rfl⟩
theorem k180 : TIok Try.prog 180 ⟨1, 6, 96, [.int .i64 0, .slice none 0 0, .slice none 0 0, .slice none 0 0, .int .i64 0, .int .i64 0], [(0, 3, true), (3, 1, false), (4, 1, false), (5, 1, false)], 0, 0⟩ := ⟨by kernel_rfl, by kernel_rfl, by kernel_rfl⟩
theorem k181 : TIok Try.prog 181 ⟨0, 1, 8, [.nilFunc], [], 0, 0⟩ := ⟨by kernel_rfl, by kernel_rfl, by kernel_rfl⟩
theorem k182 : TIok Try.prog 182 ⟨0, 1, 8, [.nilFunc], [], 0, 0⟩ := ⟨by kernel_rfl, by kernel_rfl, by kernel_rfl⟩
theorem k183 : TIok Try.prog 183 ⟨0, 1, 8, [.nilFunc], [], 0, 0⟩ := ⟨by kernel_rfl, by kernel_rfl, by kernel_rfl⟩
theorem k184 : TIok Try.prog 184 ⟨0, 1, 8, [.nilFunc], [], 0, 0⟩ := ⟨by kernel_rfl, by kernel_rfl, by kernel_rfl⟩
theorem k185 : TIok Try.prog 185 ⟨0, 1, 8, [.nilFunc], [], 0, 0⟩ := ⟨by kernel_rfl, by kernel_rfl, by kernel_rfl⟩
theorem k186 : TIok Try.prog 186 ⟨0, 1, 8, [.nilFunc], [], 0, 0⟩ := ⟨by kernel_rfl, by kernel_rfl, by kernel_rfl⟩
theorem k187 : TIok Try.prog 187 ⟨0, 1, 8, [.nilFunc], [], 0, 0⟩ := ⟨by kernel_rfl, by kernel_rfl, by kernel_rfl⟩
theorem k188 : TIok Try.prog 188 ⟨0, 1, 8, [.nilFunc], [], 0, 0⟩ := ⟨by kernel_rfl, by kernel_rfl, by kernel_rfl⟩
theorem k189 : TIok Try.prog 189 ⟨8, 1, 8, [.int .u64 0], [], 7, 0⟩ := ⟨by kernel_rfl, by kernel_rfl, by kernel_rfl⟩
theorem k190 : TIok Try.prog 190 ⟨0, 1, 8, [.nilFunc], [], 0, 0⟩ := ⟨by kernel_rfl, by kernel_rfl, by kernel_rfl⟩
theorem k191 : TIok Try.prog 191 ⟨0, 1, 8, [.nilFunc], [], 0, 0⟩ := ⟨by kernel_rfl, by kernel_rfl, by kernel_rfl⟩
theorem k192 : TIok Try.prog 192 ⟨0, 1, 8, [.nilFunc], [], 0, 0⟩ := ⟨by kernel_rfl, by kernel_rfl, by kernel_rfl⟩
theorem k193 : TIok Try.prog 193 ⟨6, 1, 8, [.pointer none], [], 3, 0⟩ := ⟨by kernel_rfl, by kernel_rfl, by kernel_rfl⟩
theorem k194 : TIok Try.prog 194 ⟨0, 1, 8, [.nilFunc], [], 0, 0⟩ := ⟨by kernel_rfl, by kernel_rfl, by kernel_rfl⟩
theorem k195 : TIok Try.prog 195 ⟨0, 1, 8, [.nilFunc], [], 0, 0⟩ := ⟨by kernel_rfl, by kernel_rfl, by kernel_rfl⟩
theorem k196 : TIok Try.prog 196 ⟨0, 1, 8, [.nilFunc], [], 0, 0⟩ := ⟨by kernel_rfl, by kernel_rfl, by kernel_rfl⟩
theorem k197 : TIok Try.prog 197 ⟨0, 1, 8, [.nilFunc], [], 0, 0⟩ := ⟨by kernel_rfl, by kernel_rfl, by kernel_rfl⟩
theorem k198 : TIok Try.prog 198 ⟨0, 1, 8, [.nilFunc], [], 0, 0⟩ := ⟨by kernel_rfl, by kernel_rfl, by kernel_rfl⟩
theorem k199 : TIok Try.prog 199 ⟨0, 1, 8, [.nilFunc], [], 0, 0⟩ := ⟨by kernel_rfl, by kernel_rfl, by kernel_rfl⟩
theorem k200 : TIok Try.prog 200 ⟨0, 1, 8, [.nilFunc], [], 0, 0⟩ := ⟨by kernel_rfl, by kernel_rfl, by kernel_rfl⟩
theorem k201 : TIok Try.prog 201 ⟨0, 1, 8, [.nilFunc], [], 0, 0⟩ := ⟨by kernel_rfl, by kernel_rfl, by kernel_rfl⟩
theorem k202 : TIok Try.prog 202 ⟨0, 1, 8, [.nilFunc], [], 0, 0⟩ := ⟨by kernel_rfl, by kernel_rfl, by kernel_rfl⟩
theorem k203 : TIok Try.prog 203 ⟨0, 1, 8, [.nilFunc], [], 0, 0⟩ := ⟨by kernel_rfl, by kernel_rfl, by kernel_rfl⟩
theorem k204 : TIok Try.prog 204 ⟨0, 1, 8, [.nilFunc], [], 0, 0⟩ := ⟨by kernel_rfl, by kernel_rfl, by kernel_rfl⟩
theorem k205 : TIok Try.prog 205 ⟨0, 1, 8, [.nilFunc], [], 0, 0⟩ := ⟨by kernel_rfl, by kernel_rfl, by kernel_rfl⟩
theorem k206 : TIok Try.prog 206 ⟨6, 1, 8, [.pointer none], [], 189, 0⟩ := ⟨by kernel_rfl, by kernel_rfl, by kernel_rfl⟩
theorem k208 : TIok Try.prog 208 ⟨0, 1, 8, [.nilFunc], [], 0, 0⟩ := ⟨by kernel_rfl, by kernel_rfl, by kernel_rfl⟩
theorem k209 : TIok Try.prog 209 ⟨3, 1, 24, [.slice none 0 0], [], 147, 0⟩ := ⟨by kernel_rfl, by kernel_rfl, by kernel_rfl⟩
theorem k210 : TIok Try.prog 210 ⟨0, 1, 8, [.nilFunc], [], 0, 0⟩ := ⟨by kernel_rfl, by kernel_rfl, by kernel_rfl⟩
theorem k211 : TIok Try.prog 211 ⟨0, 1, 8, [.nilFunc], [], 0, 0⟩ := ⟨by kernel_rfl, by kernel_rfl, by kernel_rfl⟩
theorem k212 : TIok Try.prog 212 ⟨0, 1, 8, [.nilFunc], [], 0, 0⟩ := ⟨by kernel_rfl, by kernel_rfl, by kernel_rfl⟩
theorem k213 : TIok Try.prog 213 ⟨0, 1, 8, [.nilFunc], [], 0, 0⟩ := ⟨by kernel_rfl, by kernel_rfl, by kernel_rfl⟩
theorem k214 : TIok Try.prog 214 ⟨0, 1, 8, [.nilFunc], [], 0, 0⟩ := ⟨by kernel_rfl, by kernel_rfl, by kernel_rfl⟩
theorem k215 : TIok Try.prog 215 ⟨1, 4, 40, [.pointer none, .pointer none, .pointer none, .string ⟨#[]⟩], [(0, 1, false), (1, 1, false), (2, 1, false), (3, 1, false)], 0, 0⟩ := ⟨by kernel_rfl, by kernel_rfl, by kernel_rfl⟩
theorem k216 : TIok Try.prog 216 ⟨1, 4, 40, [.pointer none, .pointer none, .pointer none, .string ⟨#[]⟩], [(0, 1, false), (1, 1, false), (2, 1, false), (3, 1, false)], 0, 0⟩ := ⟨by kernel_rfl, by kernel_rfl, by kernel_rfl⟩
theorem k217 : TIok Try.prog 217 ⟨2, 0, 0, [], [], 16, 0⟩ := ⟨by kernel_rfl, by kernel_rfl, by kernel_rfl⟩
theorem k218 : TIok Try.prog 218 ⟨1, 0, 0, [], [(0, 0, true)], 0, 0⟩ := ⟨by kernel_rfl, by kernel_rfl, by kernel_rfl⟩
theorem k219 : TIok Try.prog 219 ⟨1, 0, 0, [], [(0, 0, true)], 0, 0⟩ := ⟨by kernel_rfl, by kernel_rfl, by kernel_rfl⟩
theorem k220 : TIok Try.prog 220 ⟨0, 1, 8, [.nilFunc], [], 0, 0⟩ := ⟨by kernel_rfl, by kernel_rfl, by kernel_rfl⟩
theorem k221 : TIok Try.prog 221 ⟨8, 1, 1, [.int .u8 0], [], 4, 0⟩ := ⟨by kernel_rfl, by kernel_rfl, by kernel_rfl⟩
theorem k222 : TIok Try.prog 222 ⟨8, 1, 1, [.int .u8 0], [], 4, 0⟩ := ⟨by kernel_rfl, by kernel_rfl, by kernel_rfl⟩
theorem k223 : TIok Try.prog 223 ⟨0, 1, 8, [.nilFunc], [], 0, 0⟩ := ⟨by kernel_rfl, by kernel_rfl, by kernel_rfl⟩
theorem k224 : TIok Try.prog 224 ⟨6, 1, 8, [.pointer none], [], 5, 0⟩ := ⟨by kernel_rfl, by kernel_rfl, by kernel_rfl⟩
theorem k225 : TIok Try.prog 225 ⟨8, 1, 4, [.int .i32 0], [], 2, 0⟩ := ⟨by kernel_rfl, by kernel_rfl, by kernel_rfl⟩
theorem k226 : TIok Try.prog 226 ⟨8, 1, 4, [.int .i32 0], [], 2, 0⟩ := ⟨by kernel_rfl, by kernel_rfl, by kernel_rfl⟩
theorem k227 : TIok Try.prog 227 ⟨1, 11, 48, [.int .u64 0, .int .u64 0, .int .u32 0, .int .u8 0, .int .u8 0, .int .u8 0, .int .u8 0, .nilFunc, .pointer none, .int .i32 0, .int .i32 0], [(0, 1, false), (1, 1, false), (2, 1, false), (3, 1, false), (4, 1, false), (5, 1, false), (6, 1, false), (7, 1, false), (8, 1, false), (9, 1, false), (10, 1, false)], 0, 0⟩ := ⟨by kernel_rfl, by kernel_rfl, by kernel_rfl⟩
theorem k228 : TIok Try.prog 228 ⟨1, 11, 48, [.int .u64 0, .int .u64 0, .int .u32 0, .int .u8 0, .int .u8 0, .int .u8 0, .int .u8 0, .nilFunc, .pointer none, .int .i32 0, .int .i32 0], [(0, 1, false), (1, 1, false), (2, 1, false), (3, 1, false), (4, 1, false), (5, 1, false), (6, 1, false), (7, 1, false), (8, 1, false), (9, 1, false), (10, 1, false)], 0, 0⟩ := ⟨by kernel_rfl, by kernel_rfl, by kernel_rfl⟩
def tys : Ty := (.b (.b (.b (.b (.b (.b (.b (.b .n 1 ⟨0, 1, 8, [.nilFunc], [], 0, 0⟩ .n) 2 ⟨8, 1, 8, [.int .i64 0], [], 3, 0⟩ (.b .n 3 ⟨8, 1, 8, [.int .i64 0], [], 3, 0⟩ .n)) 4 ⟨7, 1, 1, [.bool false], [], 0, 0⟩ (.b (.b .n 5 ⟨8, 1, 1, [.int .u8 0], [], 4, 0⟩ .n) 6 ⟨8, 1, 1, [.int .u8 0], [], 4, 0⟩ .n)) 7 ⟨1, 4, 24, [.int .i64 0, .int .i64 0, .bool false, .int .u8 0], [(0, 1, false), (1, 1, false), (2, 1, false), (3, 1, false)], 0, 0⟩ (.b (.b (.b .n 8 ⟨1, 4, 24, [.int .i64 0, .int .i64 0, .bool false, .int .u8 0], [(0, 1, false), (1, 1, false), (2, 1, false), (3, 1, false)], 0, 0⟩ .n) 9 ⟨4, 1, 16, [.string ⟨#[]⟩], [], 0, 0⟩ (.b .n 10 ⟨4, 1, 16, [.string ⟨#[]⟩], [], 0, 0⟩ .n)) 11 ⟨4, 1, 16, [.string ⟨#[]⟩], [], 0, 0⟩ (.b (.b .n 12 ⟨8, 1, 8, [.int .u64 0], [], 7, 0⟩ .n) 13 ⟨1, 2, 24, [.string ⟨#[]⟩, .int .u64 0], [(0, 1, false), (1, 1, false)], 0, 0⟩ .n))) 14 ⟨1, 2, 24, [.string ⟨#[]⟩, .int .u64 0], [(0, 1, false), (1, 1, false)], 0, 0⟩ (.b (.b (.b (.b .n 15 ⟨6, 1, 8, [.pointer none], [], 216, 0⟩ .n) 16 ⟨6, 1, 8, [.pointer none], [], 219, 0⟩ (.b .n 17 ⟨6, 1, 8, [.pointer none], [], 228, 0⟩ .n)) 18 ⟨1, 1, 8, [.pointer none], [(0, 1, false)], 0, 0⟩ (.b (.b .n 19 ⟨1, 1, 8, [.pointer none], [(0, 1, false)], 0, 0⟩ .n) 21 ⟨8, 1, 4, [.int .i32 0], [], 2, 0⟩ .n)) 22 ⟨3, 1, 24, [.slice none 0 0], [], 3, 0⟩ (.b (.b (.b .n 23 ⟨6, 1, 8, [.pointer none], [], 99, 0⟩ .n) 24 ⟨0, 1, 8, [.nilFunc], [], 0, 0⟩ .n) 25 ⟨0, 1, 8, [.nilFunc], [], 0, 0⟩ (.b (.b .n 26 ⟨8, 1, 8, [.int .i64 0], [], 3, 0⟩ .n) 28 ⟨0, 1, 8, [.nilFunc], [], 0, 0⟩ .n)))) 29 ⟨0, 1, 8, [.nilFunc], [], 0, 0⟩ (.b (.b (.b (.b (.b .n 30 ⟨8, 1, 8, [.int .u64 0], [], 7, 0⟩ .n) 31 ⟨1, 3, 24, [.int .i64 0, .int .i64 0, .int .i64 0], [(0, 1, false), (1, 1, false), (2, 1, false)], 0, 0⟩ (.b .n 32 ⟨1, 3, 24, [.int .i64 0, .int .i64 0, .int .i64 0], [(0, 1, false), (1, 1, false), (2, 1, false)], 0, 0⟩ .n)) 34 ⟨0, 1, 8, [.nilFunc], [], 0, 0⟩ (.b (.b .n 35 ⟨0, 1, 8, [.nilFunc], [], 0, 0⟩ .n) 36 ⟨0, 1, 8, [.nilFunc], [], 0, 0⟩ .n)) 37 ⟨3, 1, 24, [.slice none 0 0], [], 105, 0⟩ (.b (.b (.b .n 38 ⟨1, 5, 40, [.int .i64 0, .int .i64 0, .int .i64 0, .int .i64 0, .int .i64 0], [(0, 1, false), (1, 1, false), (2, 1, false), (3, 1, false), (4, 1, false)], 0, 0⟩ .n) 39 ⟨1, 5, 40, [.int .i64 0, .int .i64 0, .int .i64 0, .int .i64 0, .int .i64 0], [(0, 1, false), (1, 1, false), (2, 1, false), (3, 1, false), (4, 1, false)], 0, 0⟩ (.b .n 40 ⟨0, 1, 8, [.nilFunc], [], 0, 0⟩ .n)) 41 ⟨3, 1, 24, [.slice none 0 0], [], 63, 0⟩ (.b (.b .n 42 ⟨1, 3, 56, [.int .i64 0, .slice none 0 0, .slice none 0 0], [(0, 1, false), (1, 1, false), (2, 1, false)], 0, 0⟩ .n) 43 ⟨1, 3, 56, [.int .i64 0, .slice none 0 0, .slice none 0 0], [(0, 1, false), (1, 1, false), (2, 1, false)], 0, 0⟩ .n))) 44 ⟨0, 1, 8, [.nilFunc], [], 0, 0⟩ (.b (.b (.b (.b .n 45 ⟨0, 1, 8, [.nilFunc], [], 0, 0⟩ .n) 46 ⟨0, 1, 8, [.nilFunc], [], 0, 0⟩ (.b .n 47 ⟨0, 1, 8, [.nilFunc], [], 0, 0⟩ .n)) 48 ⟨8, 1, 4, [.int .u32 0], [], 6, 0⟩ (.b (.b .n 49 ⟨1, 3, 24, [.int .i64 0, .int .i64 0, .int .u32 0], [(0, 1, false), (1, 1, false), (2, 1, false)], 0, 0⟩ .n) 50 ⟨1, 3, 24, [.int .i64 0, .int .i64 0, .int .u32 0], [(0, 1, false), (1, 1, false), (2, 1, false)], 0, 0⟩ .n)) 51 ⟨3, 1, 24, [.slice none 0 0], [], 50, 0⟩ (.b (.b (.b .n 52 ⟨0, 1, 8, [.nilFunc], [], 0, 0⟩ .n) 53 ⟨0, 1, 8, [.nilFunc], [], 0, 0⟩ .n) 54 ⟨1, 4, 32, [.int .i64 0, .int .i64 0, .int .i64 0, .bool false], [(0, 1, false), (1, 1, false), (2, 1, false), (3, 1, false)], 0, 0⟩ (.b (.b .n 55 ⟨1, 4, 32, [.int .i64 0, .int .i64 0, .int .i64 0, .bool false], [(0, 1, false), (1, 1, false), (2, 1, false), (3, 1, false)], 0, 0⟩ .n) 56 ⟨3, 1, 24, [.slice none 0 0], [], 55, 0⟩ .n))))) 57 ⟨0, 1, 8, [.nilFunc], [], 0, 0⟩ (.b (.b (.b (.b (.b (.b .n 58 ⟨0, 1, 8, [.nilFunc], [], 0, 0⟩ .n) 59 ⟨0, 1, 8, [.nilFunc], [], 0, 0⟩ (.b .n 60 ⟨3, 1, 24, [.slice none 0 0], [], 170, 0⟩ .n)) 61 ⟨3, 1, 24, [.slice none 0 0], [], 107, 0⟩ (.b (.b .n 62 ⟨1, 7, 96, [.int .i64 0, .int .i64 0, .int .i64 0, .int .i64 0, .string ⟨#[]⟩, .slice none 0 0, .slice none 0 0], [(0, 1, false), (1, 1, false), (2, 1, false), (3, 1, false), (4, 1, false), (5, 1, false), (6, 1, false)], 0, 0⟩ .n) 63 ⟨1, 7, 96, [.int .i64 0, .int .i64 0, .int .i64 0, .int .i64 0, .string ⟨#[]⟩, .slice none 0 0, .slice none 0 0], [(0, 1, false), (1, 1, false), (2, 1, false), (3, 1, false), (4, 1, false), (5, 1, false), (6, 1, false)], 0, 0⟩ .n)) 65 ⟨0, 1, 8, [.nilFunc], [], 0, 0⟩ (.b (.b (.b .n 67 ⟨0, 1, 8, [.nilFunc], [], 0, 0⟩ .n) 68 ⟨0, 1, 8, [.nilFunc], [], 0, 0⟩ (.b .n 69 ⟨0, 1, 8, [.nilFunc], [], 0, 0⟩ .n)) 70 ⟨0, 1, 8, [.nilFunc], [], 0, 0⟩ (.b (.b .n 71 ⟨0, 1, 8, [.nilFunc], [], 0, 0⟩ .n) 72 ⟨0, 1, 8, [.nilFunc], [], 0, 0⟩ .n))) 73 ⟨0, 1, 8, [.nilFunc], [], 0, 0⟩ (.b (.b (.b (.b .n 74 ⟨0, 1, 8, [.nilFunc], [], 0, 0⟩ .n) 75 ⟨0, 1, 8, [.nilFunc], [], 0, 0⟩ (.b .n 76 ⟨3, 1, 24, [.slice none 0 0], [], 82, 0⟩ .n)) 77 ⟨6, 1, 8, [.pointer none], [], 80, 0⟩ (.b (.b .n 78 ⟨2, 48, 384, [.int .i64 0, .int .i64 0, .int .i64 0, .int .i64 0, .int .i64 0, .int .i64 0, .int .i64 0, .int .i64 0, .int .i64 0, .int .i64 0, .int .i64 0, .int .i64 0, .int .i64 0, .int .i64 0, .int .i64 0, .int .i64 0, .int .i64 0, .int .i64 0, .int .i64 0, .int .i64 0, .int .i64 0, .int .i64 0, .int .i64 0, .int .i64 0, .int .i64 0, .int .i64 0, .int .i64 0, .int .i64 0, .int .i64 0, .int .i64 0, .int .i64 0, .int .i64 0, .int .i64 0, .int .i64 0, .int .i64 0, .int .i64 0, .int .i64 0, .int .i64 0, .int .i64 0, .int .i64 0, .int .i64 0, .int .i64 0, .int .i64 0, .int .i64 0, .int .i64 0, .int .i64 0, .int .i64 0, .int .i64 0], [], 32, 16⟩ .n) 79 ⟨1, 48, 384, [.int .i64 0, .int .i64 0, .int .i64 0, .int .i64 0, .int .i64 0, .int .i64 0, .int .i64 0, .int .i64 0, .int .i64 0, .int .i64 0, .int .i64 0, .int .i64 0, .int .i64 0, .int .i64 0, .int .i64 0, .int .i64 0, .int .i64 0, .int .i64 0, .int .i64 0, .int .i64 0, .int .i64 0, .int .i64 0, .int .i64 0, .int .i64 0, .int .i64 0, .int .i64 0, .int .i64 0, .int .i64 0, .int .i64 0, .int .i64 0, .int .i64 0, .int .i64 0, .int .i64 0, .int .i64 0, .int .i64 0, .int .i64 0, .int .i64 0, .int .i64 0, .int .i64 0, .int .i64 0, .int .i64 0, .int .i64 0, .int .i64 0, .int .i64 0, .int .i64 0, .int .i64 0, .int .i64 0, .int .i64 0], [(0, 48, true)], 0, 0⟩ .n)) 80 ⟨1, 48, 384, [.int .i64 0, .int .i64 0, .int .i64 0, .int .i64 0, .int .i64 0, .int .i64 0, .int .i64 0, .int .i64 0, .int .i64 0, .int .i64 0, .int .i64 0, .int .i64 0, .int .i64 0, .int .i64 0, .int .i64 0, .int .i64 0, .int .i64 0, .int .i64 0, .int .i64 0, .int .i64 0, .int .i64 0, .int .i64 0, .int .i64 0, .int .i64 0, .int .i64 0, .int .i64 0, .int .i64 0, .int .i64 0, .int .i64 0, .int .i64 0, .int .i64 0, .int .i64 0, .int .i64 0, .int .i64 0, .int .i64 0, .int .i64 0, .int .i64 0, .int .i64 0, .int .i64 0, .int .i64 0, .int .i64 0, .int .i64 0, .int .i64 0, .int .i64 0, .int .i64 0, .int .i64 0, .int .i64 0, .int .i64 0], [(0, 48, true)], 0, 0⟩ (.b (.b (.b .n 81 ⟨1, 5, 40, [.int .i64 0, .int .i64 0, .int .i64 0, .int .i64 0, .int .i64 0], [(0, 1, false), (1, 1, false), (2, 1, false), (3, 1, false), (4, 1, false)], 0, 0⟩ .n) 82 ⟨1, 5, 40, [.int .i64 0, .int .i64 0, .int .i64 0, .int .i64 0, .int .i64 0], [(0, 1, false), (1, 1, false), (2, 1, false), (3, 1, false), (4, 1, false)], 0, 0⟩ .n) 84 ⟨0, 1, 8, [.nilFunc], [], 0, 0⟩ (.b (.b .n 85 ⟨0, 1, 8, [.nilFunc], [], 0, 0⟩ .n) 86 ⟨0, 1, 8, [.nilFunc], [], 0, 0⟩ .n)))) 87 ⟨0, 1, 8, [.nilFunc], [], 0, 0⟩ (.b (.b (.b (.b (.b .n 88 ⟨0, 1, 8, [.nilFunc], [], 0, 0⟩ .n) 89 ⟨1, 9, 112, [.int .i64 0, .int .i64 0, .int .i64 0, .int .i64 0, .int .i64 0, .int .i64 0, .string ⟨#[]⟩, .slice none 0 0, .slice none 0 0], [(0, 1, false), (1, 1, false), (2, 7, true)], 0, 0⟩ (.b .n 90 ⟨1, 9, 112, [.int .i64 0, .int .i64 0, .int .i64 0, .int .i64 0, .int .i64 0, .int .i64 0, .string ⟨#[]⟩, .slice none 0 0, .slice none 0 0], [(0, 1, false), (1, 1, false), (2, 7, true)], 0, 0⟩ .n)) 91 ⟨3, 1, 24, [.slice none 0 0], [], 90, 0⟩ (.b (.b .n 92 ⟨1, 3, 24, [.int .i64 0, .int .i64 0, .int .i64 0], [(0, 1, false), (1, 1, false), (2, 1, false)], 0, 0⟩ .n) 93 ⟨1, 3, 24, [.int .i64 0, .int .i64 0, .int .i64 0], [(0, 1, false), (1, 1, false), (2, 1, false)], 0, 0⟩ .n)) 94 ⟨0, 1, 8, [.nilFunc], [], 0, 0⟩ (.b (.b (.b .n 95 ⟨0, 1, 8, [.nilFunc], [], 0, 0⟩ .n) 96 ⟨0, 1, 8, [.nilFunc], [], 0, 0⟩ .n) 97 ⟨5, 1, 8, [.map none], [], 0, 0⟩ (.b (.b .n 98 ⟨1, 1, 8, [.map none], [(0, 1, false)], 0, 0⟩ .n) 99 ⟨1, 1, 8, [.map none], [(0, 1, false)], 0, 0⟩ .n))) 100 ⟨1, 1, 8, [.int .i64 0], [(0, 1, false)], 0, 0⟩ (.b (.b (.b (.b .n 101 ⟨1, 1, 8, [.int .i64 0], [(0, 1, false)], 0, 0⟩ .n) 102 ⟨0, 1, 8, [.nilFunc], [], 0, 0⟩ (.b .n 103 ⟨0, 1, 8, [.nilFunc], [], 0, 0⟩ .n)) 104 ⟨1, 4, 48, [.int .i64 0, .string ⟨#[]⟩, .string ⟨#[]⟩, .int .i64 0], [(0, 1, false), (1, 1, false), (2, 1, false), (3, 1, false)], 0, 0⟩ (.b (.b .n 105 ⟨1, 4, 48, [.int .i64 0, .string ⟨#[]⟩, .string ⟨#[]⟩, .int .i64 0], [(0, 1, false), (1, 1, false), (2, 1, false), (3, 1, false)], 0, 0⟩ .n) 106 ⟨1, 3, 24, [.int .i64 0, .int .i64 0, .int .i64 0], [(0, 1, false), (1, 1, false), (2, 1, false)], 0, 0⟩ .n)) 107 ⟨1, 3, 24, [.int .i64 0, .int .i64 0, .int .i64 0], [(0, 1, false), (1, 1, false), (2, 1, false)], 0, 0⟩ (.b (.b (.b .n 108 ⟨0, 1, 8, [.nilFunc], [], 0, 0⟩ .n) 109 ⟨0, 1, 8, [.nilFunc], [], 0, 0⟩ .n) 110 ⟨0, 1, 8, [.nilFunc], [], 0, 0⟩ (.b (.b .n 111 ⟨0, 1, 8, [.nilFunc], [], 0, 0⟩ .n) 112 ⟨0, 1, 8, [.nilFunc], [], 0, 0⟩ .n)))))) 113 ⟨5, 1, 8, [.map none], [], 0, 0⟩ (.b (.b (.b (.b (.b (.b (.b .n 114 ⟨0, 1, 8, [.nilFunc], [], 0, 0⟩ .n) 115 ⟨0, 1, 8, [.nilFunc], [], 0, 0⟩ (.b .n 116 ⟨1, 1, 8, [.int .i64 0], [(0, 1, false)], 0, 0⟩ .n)) 117 ⟨1, 1, 8, [.int .i64 0], [(0, 1, false)], 0, 0⟩ (.b (.b .n 118 ⟨0, 1, 8, [.nilFunc], [], 0, 0⟩ .n) 120 ⟨0, 1, 8, [.nilFunc], [], 0, 0⟩ .n)) 121 ⟨0, 1, 8, [.nilFunc], [], 0, 0⟩ (.b (.b (.b .n 122 ⟨0, 1, 8, [.nilFunc], [], 0, 0⟩ .n) 123 ⟨0, 1, 8, [.nilFunc], [], 0, 0⟩ (.b .n 124 ⟨0, 1, 8, [.nilFunc], [], 0, 0⟩ .n)) 125 ⟨0, 1, 8, [.nilFunc], [], 0, 0⟩ (.b (.b .n 126 ⟨0, 1, 8, [.nilFunc], [], 0, 0⟩ .n) 127 ⟨0, 1, 8, [.nilFunc], [], 0, 0⟩ .n))) 128 ⟨0, 1, 8, [.nilFunc], [], 0, 0⟩ (.b (.b (.b (.b .n 129 ⟨0, 1, 8, [.nilFunc], [], 0, 0⟩ .n) 130 ⟨0, 1, 8, [.nilFunc], [], 0, 0⟩ (.b .n 131 ⟨0, 1, 8, [.nilFunc], [], 0, 0⟩ .n)) 132 ⟨0, 1, 8, [.nilFunc], [], 0, 0⟩ (.b (.b .n 133 ⟨0, 1, 8, [.nilFunc], [], 0, 0⟩ .n) 135 ⟨0, 1, 8, [.nilFunc], [], 0, 0⟩ .n)) 137 ⟨0, 1, 8, [.nilFunc], [], 0, 0⟩ (.b (.b (.b .n 138 ⟨0, 1, 8, [.nilFunc], [], 0, 0⟩ .n) 139 ⟨0, 1, 8, [.nilFunc], [], 0, 0⟩ .n) 140 ⟨0, 1, 8, [.nilFunc], [], 0, 0⟩ (.b (.b .n 141 ⟨3, 1, 24, [.slice none 0 0], [], 9, 0⟩ .n) 143 ⟨0, 1, 8, [.nilFunc], [], 0, 0⟩ .n)))) 144 ⟨0, 1, 8, [.nilFunc], [], 0, 0⟩ (.b (.b (.b (.b (.b .n 145 ⟨0, 1, 8, [.nilFunc], [], 0, 0⟩ .n) 146 ⟨0, 1, 8, [.nilFunc], [], 0, 0⟩ (.b .n 147 ⟨3, 1, 24, [.slice none 0 0], [], 5, 0⟩ .n)) 148 ⟨0, 1, 8, [.nilFunc], [], 0, 0⟩ (.b (.b .n 149 ⟨0, 1, 8, [.nilFunc], [], 0, 0⟩ .n) 150 ⟨0, 1, 8, [.nilFunc], [], 0, 0⟩ .n)) 151 ⟨0, 1, 8, [.nilFunc], [], 0, 0⟩ (.b (.b (.b .n 152 ⟨0, 1, 8, [.nilFunc], [], 0, 0⟩ .n) 153 ⟨8, 1, 8, [.int .i64 0], [], 3, 0⟩ .n) 155 ⟨0, 1, 8, [.nilFunc], [], 0, 0⟩ (.b (.b .n 156 ⟨0, 1, 8, [.nilFunc], [], 0, 0⟩ .n) 157 ⟨0, 1, 8, [.nilFunc], [], 0, 0⟩ .n))) 158 ⟨0, 1, 8, [.nilFunc], [], 0, 0⟩ (.b (.b (.b (.b .n 159 ⟨0, 1, 8, [.nilFunc], [], 0, 0⟩ .n) 160 ⟨8, 1, 8, [.int .u64 0], [], 7, 0⟩ (.b .n 162 ⟨0, 1, 8, [.nilFunc], [], 0, 0⟩ .n)) 163 ⟨0, 1, 8, [.nilFunc], [], 0, 0⟩ (.b (.b .n 165 ⟨0, 1, 8, [.nilFunc], [], 0, 0⟩ .n) 166 ⟨0, 1, 8, [.nilFunc], [], 0, 0⟩ .n)) 168 ⟨0, 1, 8, [.nilFunc], [], 0, 0⟩ (.b (.b (.b .n 169 ⟨1, 2, 24, [.string ⟨#[]⟩, .int .i64 0], [(0, 1, false), (1, 1, false)], 0, 0⟩ .n) 170 ⟨1, 2, 24, [.string ⟨#[]⟩, .int .i64 0], [(0, 1, false), (1, 1, false)], 0, 0⟩ .n) 171 ⟨0, 1, 8, [.nilFunc], [], 0, 0⟩ (.b (.b .n 173 ⟨0, 1, 8, [.nilFunc], [], 0, 0⟩ .n) 174 ⟨0, 1, 8, [.nilFunc], [], 0, 0⟩ .n))))) 175 ⟨0, 1, 8, [.nilFunc], [], 0, 0⟩ (.b (.b (.b (.b (.b (.b .n 176 ⟨0, 1, 8, [.nilFunc], [], 0, 0⟩ .n) 177 ⟨0, 1, 8, [.nilFunc], [], 0, 0⟩ (.b .n 178 ⟨6, 1, 8, [.pointer none], [], 180, 0⟩ .n)) 179 ⟨1, 6, 96, [.int .i64 0, .slice none 0 0, .slice none 0 0, .slice none 0 0, .int .i64 0, .int .i64 0], [(0, 3, true), (3, 1, false), (4, 1, false), (5, 1, false)], 0, 0⟩ (.b (.b .n 180 ⟨1, 6, 96, [.int .i64 0, .slice none 0 0, .slice none 0 0, .slice none 0 0, .int .i64 0, .int .i64 0], [(0, 3, true), (3, 1, false), (4, 1, false), (5, 1, false)], 0, 0⟩ .n) 181 ⟨0, 1, 8, [.nilFunc], [], 0, 0⟩ .n)) 182 ⟨0, 1, 8, [.nilFunc], [], 0, 0⟩ (.b (.b (.b .n 183 ⟨0, 1, 8, [.nilFunc], [], 0, 0⟩ .n) 184 ⟨0, 1, 8, [.nilFunc], [], 0, 0⟩ (.b .n 185 ⟨0, 1, 8, [.nilFunc], [], 0, 0⟩ .n)) 186 ⟨0, 1, 8, [.nilFunc], [], 0, 0⟩ (.b (.b .n 187 ⟨0, 1, 8, [.nilFunc], [], 0, 0⟩ .n) 188 ⟨0, 1, 8, [.nilFunc], [], 0, 0⟩ .n))) 189 ⟨8, 1, 8, [.int .u64 0], [], 7, 0⟩ (.b (.b (.b (.b .n 190 ⟨0, 1, 8, [.nilFunc], [], 0, 0⟩ .n) 191 ⟨0, 1, 8, [.nilFunc], [], 0, 0⟩ (.b .n 192 ⟨0, 1, 8, [.nilFunc], [], 0, 0⟩ .n)) 193 ⟨6, 1, 8, [.pointer none], [], 3, 0⟩ (.b (.b .n 194 ⟨0, 1, 8, [.nilFunc], [], 0, 0⟩ .n) 195 ⟨0, 1, 8, [.nilFunc], [], 0, 0⟩ .n)) 196 ⟨0, 1, 8, [.nilFunc], [], 0, 0⟩ (.b (.b (.b .n 197 ⟨0, 1, 8, [.nilFunc], [], 0, 0⟩ .n) 198 ⟨0, 1, 8, [.nilFunc], [], 0, 0⟩ .n) 199 ⟨0, 1, 8, [.nilFunc], [], 0, 0⟩ (.b (.b .n 200 ⟨0, 1, 8, [.nilFunc], [], 0, 0⟩ .n) 201 ⟨0, 1, 8, [.nilFunc], [], 0, 0⟩ .n)))) 202 ⟨0, 1, 8, [.nilFunc], [], 0, 0⟩ (.b (.b (.b (.b (.b .n 203 ⟨0, 1, 8, [.nilFunc], [], 0, 0⟩ .n) 204 ⟨0, 1, 8, [.nilFunc], [], 0, 0⟩ (.b .n 205 ⟨0, 1, 8, [.nilFunc], [], 0, 0⟩ .n)) 206 ⟨6, 1, 8, [.pointer none], [], 189, 0⟩ (.b (.b .n 208 ⟨0, 1, 8, [.nilFunc], [], 0, 0⟩ .n) 209 ⟨3, 1, 24, [.slice none 0 0], [], 147, 0⟩ .n)) 210 ⟨0, 1, 8, [.nilFunc], [], 0, 0⟩ (.b (.b (.b .n 211 ⟨0, 1, 8, [.nilFunc], [], 0, 0⟩ .n) 212 ⟨0, 1, 8, [.nilFunc], [], 0, 0⟩ .n) 213 ⟨0, 1, 8, [.nilFunc], [], 0, 0⟩ (.b (.b .n 214 ⟨0, 1, 8, [.nilFunc], [], 0, 0⟩ .n) 215 ⟨1, 4, 40, [.pointer none, .pointer none, .pointer none, .string ⟨#[]⟩], [(0, 1, false), (1, 1, false), (2, 1, false), (3, 1, false)], 0, 0⟩ .n))) 216 ⟨1, 4, 40, [.pointer none, .pointer none, .pointer none, .string ⟨#[]⟩], [(0, 1, false), (1, 1, false), (2, 1, false), (3, 1, false)], 0, 0⟩ (.b (.b (.b (.b .n 217 ⟨2, 0, 0, [], [], 16, 0⟩ .n) 218 ⟨1, 0, 0, [], [(0, 0, true)], 0, 0⟩ (.b .n 219 ⟨1, 0, 0, [], [(0, 0, true)], 0, 0⟩ .n)) 220 ⟨0, 1, 8, [.nilFunc], [], 0, 0⟩ (.b (.b .n 221 ⟨8, 1, 1, [.int .u8 0], [], 4, 0⟩ .n) 222 ⟨8, 1, 1, [.int .u8 0], [], 4, 0⟩ .n)) 223 ⟨0, 1, 8, [.nilFunc], [], 0, 0⟩ (.b (.b (.b .n 224 ⟨6, 1, 8, [.pointer none], [], 5, 0⟩ .n) 225 ⟨8, 1, 4, [.int .i32 0], [], 2, 0⟩ .n) 226 ⟨8, 1, 4, [.int .i32 0], [], 2, 0⟩ (.b (.b .n 227 ⟨1, 11, 48, [.int .u64 0, .int .u64 0, .int .u32 0, .int .u8 0, .int .u8 0, .int .u8 0, .int .u8 0, .nilFunc, .pointer none, .int .i32 0, .int .i32 0], [(0, 1, false), (1, 1, false), (2, 1, false), (3, 1, false), (4, 1, false), (5, 1, false), (6, 1, false), (7, 1, false), (8, 1, false), (9, 1, false), (10, 1, false)], 0, 0⟩ .n) 228 ⟨1, 11, 48, [.int .u64 0, .int .u64 0, .int .u32 0, .int .u8 0, .int .u8 0, .int .u8 0, .int .u8 0, .nilFunc, .pointer none, .int .i32 0, .int .i32 0], [(0, 1, false), (1, 1, false), (2, 1, false), (3, 1, false), (4, 1, false), (5, 1, false), (6, 1, false), (7, 1, false), (8, 1, false), (9, 1, false), (10, 1, false)], 0, 0⟩ .n)))))))
theorem tysOk : TyOk Try.prog tys := ⟨⟨⟨⟨⟨⟨⟨⟨trivial, k1, trivial⟩, k2, ⟨trivial, k3, trivial⟩⟩, k4, ⟨⟨trivial, k5, trivial⟩, k6, trivial⟩⟩, k7, ⟨⟨⟨trivial, k8, trivial⟩, k9, ⟨trivial, k10, trivial⟩⟩, k11, ⟨⟨trivial, k12, trivial⟩, k13, trivial⟩⟩⟩, k14, ⟨⟨⟨⟨trivial, k15, trivial⟩, k16, ⟨trivial, k17, trivial⟩⟩, k18, ⟨⟨trivial, k19, trivial⟩, k21, trivial⟩⟩, k22, ⟨⟨⟨trivial, k23, trivial⟩, k24, trivial⟩, k25, ⟨⟨trivial, k26, trivial⟩, k28, trivial⟩⟩⟩⟩, k29, ⟨⟨⟨⟨⟨trivial, k30, trivial⟩, k31, ⟨trivial, k32, trivial⟩⟩, k34, ⟨⟨trivial, k35, trivial⟩, k36, trivial⟩⟩, k37, ⟨⟨⟨trivial, k38, trivial⟩, k39, ⟨trivial, k40, trivial⟩⟩, k41, ⟨⟨trivial, k42, trivial⟩, k43, trivial⟩⟩⟩, k44, ⟨⟨⟨⟨trivial, k45, trivial⟩, k46, ⟨trivial, k47, trivial⟩⟩, k48, ⟨⟨trivial, k49, trivial⟩, k50, trivial⟩⟩, k51, ⟨⟨⟨trivial, k52, trivial⟩, k53, trivial⟩, k54, ⟨⟨trivial, k55, trivial⟩, k56, trivial⟩⟩⟩⟩⟩, k57, ⟨⟨⟨⟨⟨⟨trivial, k58, trivial⟩, k59, ⟨trivial, k60, trivial⟩⟩, k61, ⟨⟨trivial, k62, trivial⟩, k63, trivial⟩⟩, k65, ⟨⟨⟨trivial, k67, trivial⟩, k68, ⟨trivial, k69, trivial⟩⟩, k70, ⟨⟨trivial, k71, trivial⟩, k72, trivial⟩⟩⟩, k73, ⟨⟨⟨⟨trivial, k74, trivial⟩, k75, ⟨trivial, k76, trivial⟩⟩, k77, ⟨⟨trivial, k78, trivial⟩, k79, trivial⟩⟩, k80, ⟨⟨⟨trivial, k81, trivial⟩, k82, trivial⟩, k84, ⟨⟨trivial, k85, trivial⟩, k86, trivial⟩⟩⟩⟩, k87, ⟨⟨⟨⟨⟨trivial, k88, trivial⟩, k89, ⟨trivial, k90, trivial⟩⟩, k91, ⟨⟨trivial, k92, trivial⟩, k93, trivial⟩⟩, k94, ⟨⟨⟨trivial, k95, trivial⟩, k96, trivial⟩, k97, ⟨⟨trivial, k98, trivial⟩, k99, trivial⟩⟩⟩, k100, ⟨⟨⟨⟨trivial, k101, trivial⟩, k102, ⟨trivial, k103, trivial⟩⟩, k104, ⟨⟨trivial, k105, trivial⟩, k106, trivial⟩⟩, k107, ⟨⟨⟨trivial, k108, trivial⟩, k109, trivial⟩, k110, ⟨⟨trivial, k111, trivial⟩, k112, trivial⟩⟩⟩⟩⟩⟩, k113, ⟨⟨⟨⟨⟨⟨⟨trivial, k114, trivial⟩, k115, ⟨trivial, k116, trivial⟩⟩, k117, ⟨⟨trivial, k118, trivial⟩, k120, trivial⟩⟩, k121, ⟨⟨⟨trivial, k122, trivial⟩, k123, ⟨trivial, k124, trivial⟩⟩, k125, ⟨⟨trivial, k126, trivial⟩, k127, trivial⟩⟩⟩, k128, ⟨⟨⟨⟨trivial, k129, trivial⟩, k130, ⟨trivial, k131, trivial⟩⟩, k132, ⟨⟨trivial, k133, trivial⟩, k135, trivial⟩⟩, k137, ⟨⟨⟨trivial, k138, trivial⟩, k139, trivial⟩, k140, ⟨⟨trivial, k141, trivial⟩, k143, trivial⟩⟩⟩⟩, k144, ⟨⟨⟨⟨⟨trivial, k145, trivial⟩, k146, ⟨trivial, k147, trivial⟩⟩, k148, ⟨⟨trivial, k149, trivial⟩, k150, trivial⟩⟩, k151, ⟨⟨⟨trivial, k152, trivial⟩, k153, trivial⟩, k155, ⟨⟨trivial, k156, trivial⟩, k157, trivial⟩⟩⟩, k158, ⟨⟨⟨⟨trivial, k159, trivial⟩, k160, ⟨trivial, k162, trivial⟩⟩, k163, ⟨⟨trivial, k165, trivial⟩, k166, trivial⟩⟩, k168, ⟨⟨⟨trivial, k169, trivial⟩, k170, trivial⟩, k171, ⟨⟨trivial, k173, trivial⟩, k174, trivial⟩⟩⟩⟩⟩, k175, ⟨⟨⟨⟨⟨⟨trivial, k176, trivial⟩, k177, ⟨trivial, k178, trivial⟩⟩, k179, ⟨⟨trivial, k180, trivial⟩, k181, trivial⟩⟩, k182, ⟨⟨⟨trivial, k183, trivial⟩, k184, ⟨trivial, k185, trivial⟩⟩, k186, ⟨⟨trivial, k187, trivial⟩, k188, trivial⟩⟩⟩, k189, ⟨⟨⟨⟨trivial, k190, trivial⟩, k191, ⟨trivial, k192, trivial⟩⟩, k193, ⟨⟨trivial, k194, trivial⟩, k195, trivial⟩⟩, k196, ⟨⟨⟨trivial, k197, trivial⟩, k198, trivial⟩, k199, ⟨⟨trivial, k200, trivial⟩, k201, trivial⟩⟩⟩⟩, k202, ⟨⟨⟨⟨⟨trivial, k203, trivial⟩, k204, ⟨trivial, k205, trivial⟩⟩, k206, ⟨⟨trivial, k208, trivial⟩, k209, trivial⟩⟩, k210, ⟨⟨⟨trivial, k211, trivial⟩, k212, trivial⟩, k213, ⟨⟨trivial, k214, trivial⟩, k215, trivial⟩⟩⟩, k216, ⟨⟨⟨⟨trivial, k217, trivial⟩, k218, ⟨trivial, k219, trivial⟩⟩, k220, ⟨⟨trivial, k221, trivial⟩, k222, trivial⟩⟩, k223, ⟨⟨⟨trivial, k224, trivial⟩, k225, trivial⟩, k226, ⟨⟨trivial, k227, trivial⟩, k228, trivial⟩⟩⟩⟩⟩⟩⟩
theorem mixed : Try.prog.follows .mixedOrders = true := by kernel_rfl
@[simp] theorem t1 : tf 1 tys = some ⟨0, 1, 8, [.nilFunc], [], 0, 0⟩ := rfl
@[simp] theorem t2 : tf 2 tys = some ⟨8, 1, 8, [.int .i64 0], [], 3, 0⟩ := rfl
@[simp] theorem t3 : tf 3 tys = some ⟨8, 1, 8, [.int .i64 0], [], 3, 0⟩ := rfl
@[simp] theorem t4 : tf 4 tys = some ⟨7, 1, 1, [.bool false], [], 0, 0⟩ := rfl
@[simp] theorem t5 : tf 5 tys = some ⟨8, 1, 1, [.int .u8 0], [], 4, 0⟩ := rfl
@[simp] theorem t6 : tf 6 tys = some ⟨8, 1, 1, [.int .u8 0], [], 4, 0⟩ := rfl
@[simp] theorem t7 : tf 7 tys = some ⟨1, 4, 24, [.int .i64 0, .int .i64 0, .bool false, .int .u8 0], [(0, 1, false), (1, 1, false), (2, 1, false), (3, 1, false)], 0, 0⟩ := rfl
@[simp] theorem t8 : tf 8 tys = some ⟨1, 4, 24, [.int .i64 0, .int .i64 0, .bool false, .int .u8 0], [(0, 1, false), (1, 1, false), (2, 1, false), (3, 1, false)], 0, 0⟩ := rfl
@[simp] theorem t9 : tf 9 tys = some ⟨4, 1, 16, [.string ⟨#[]⟩], [], 0, 0⟩ := rfl
@[simp] theorem t10 : tf 10 tys = some ⟨4, 1, 16, [.string ⟨#[]⟩], [], 0, 0⟩ := rfl
@[simp] theorem t11 : tf 11 tys = some ⟨4, 1, 16, [.string ⟨#[]⟩], [], 0, 0⟩ := rfl
@[simp] theorem t12 : tf 12 tys = some ⟨8, 1, 8, [.int .u64 0], [], 7, 0⟩ := rfl
@[simp] theorem t13 : tf 13 tys = some ⟨1, 2, 24, [.string ⟨#[]⟩, .int .u64 0], [(0, 1, false), (1, 1, false)], 0, 0⟩ := rfl
@[simp] theorem t14 : tf 14 tys = some ⟨1, 2, 24, [.string ⟨#[]⟩, .int .u64 0], [(0, 1, false), (1, 1, false)], 0, 0⟩ := rfl
@[simp] theorem t15 : tf 15 tys = some ⟨6, 1, 8, [.pointer none], [], 216, 0⟩ := rfl
@[simp] theorem t16 : tf 16 tys = some ⟨6, 1, 8, [.pointer none], [], 219, 0⟩ := rfl
@[simp] theorem t17 : tf 17 tys = some ⟨6, 1, 8, [.pointer none], [], 228, 0⟩ := rfl
@[simp] theorem t18 : tf 18 tys = some ⟨1, 1, 8, [.pointer none], [(0, 1, false)], 0, 0⟩ := rfl
@[simp] theorem t19 : tf 19 tys = some ⟨1, 1, 8, [.pointer none], [(0, 1, false)], 0, 0⟩ := rfl
@[simp] theorem t21 : tf 21 tys = some ⟨8, 1, 4, [.int .i32 0], [], 2, 0⟩ := rfl
@[simp] theorem t22 : tf 22 tys = some ⟨3, 1, 24, [.slice none 0 0], [], 3, 0⟩ := rfl
@[simp] theorem t23 : tf 23 tys = some ⟨6, 1, 8, [.pointer none], [], 99, 0⟩ := rfl
@[simp] theorem t24 : tf 24 tys = some ⟨0, 1, 8, [.nilFunc], [], 0, 0⟩ := rfl
@[simp] theorem t25 : tf 25 tys = some ⟨0, 1, 8, [.nilFunc], [], 0, 0⟩ := rfl
@[simp] theorem t26 : tf 26 tys = some ⟨8, 1, 8, [.int .i64 0], [], 3, 0⟩ := rfl
@[simp] theorem t28 : tf 28 tys = some ⟨0, 1, 8, [.nilFunc], [], 0, 0⟩ := rfl
@[simp] theorem t29 : tf 29 tys = some ⟨0, 1, 8, [.nilFunc], [], 0, 0⟩ := rfl
@[simp] theorem t30 : tf 30 tys = some ⟨8, 1, 8, [.int .u64 0], [], 7, 0⟩ := rfl
@[simp] theorem t31 : tf 31 tys = some ⟨1, 3, 24, [.int .i64 0, .int .i64 0, .int .i64 0], [(0, 1, false), (1, 1, false), (2, 1, false)], 0, 0⟩ := rfl
@[simp] theorem t32 : tf 32 tys = some ⟨1, 3, 24, [.int .i64 0, .int .i64 0, .int .i64 0], [(0, 1, false), (1, 1, false), (2, 1, false)], 0, 0⟩ := rfl
@[simp] theorem t34 : tf 34 tys = some ⟨0, 1, 8, [.nilFunc], [], 0, 0⟩ := rfl
@[simp] theorem t35 : tf 35 tys = some ⟨0, 1, 8, [.nilFunc], [], 0, 0⟩ := rfl
@[simp] theorem t36 : tf 36 tys = some ⟨0, 1, 8, [.nilFunc], [], 0, 0⟩ := rfl
@[simp] theorem t37 : tf 37 tys = some ⟨3, 1, 24, [.slice none 0 0], [], 105, 0⟩ := rfl
@[simp] theorem t38 : tf 38 tys = some ⟨1, 5, 40, [.int .i64 0, .int .i64 0, .int .i64 0, .int .i64 0, .int .i64 0], [(0, 1, false), (1, 1, false), (2, 1, false), (3, 1, false), (4, 1, false)], 0, 0⟩ := rfl
@[simp] theorem t39 : tf 39 tys = some ⟨1, 5, 40, [.int .i64 0, .int .i64 0, .int .i64 0, .int .i64 0, .int .i64 0], [(0, 1, false), (1, 1, false), (2, 1, false), (3, 1, false), (4, 1, false)], 0, 0⟩ := rfl
@[simp] theorem t40 : tf 40 tys = some ⟨0, 1, 8, [.nilFunc], [], 0, 0⟩ := rfl
@[simp] theorem t41 : tf 41 tys = some ⟨3, 1, 24, [.slice none 0 0], [], 63, 0⟩ := rfl
@[simp] theorem t42 : tf 42 tys = some ⟨1, 3, 56, [.int .i64 0, .slice none 0 0, .slice none 0 0], [(0, 1, false), (1, 1, false), (2, 1, false)], 0, 0⟩ := rfl
@[simp] theorem t43 : tf 43 tys = some ⟨1, 3, 56, [.int .i64 0, .slice none 0 0, .slice none 0 0], [(0, 1, false), (1, 1, false), (2, 1, false)], 0, 0⟩ := rfl
@[simp] theorem t44 : tf 44 tys = some ⟨0, 1, 8, [.nilFunc], [], 0, 0⟩ := rfl
@[simp] theorem t45 : tf 45 tys = some ⟨0, 1, 8, [.nilFunc], [], 0, 0⟩ := rfl
@[simp] theorem t46 : tf 46 tys = some ⟨0, 1, 8, [.nilFunc], [], 0, 0⟩ := rfl
@[simp] theorem t47 : tf 47 tys = some ⟨0, 1, 8, [.nilFunc], [], 0, 0⟩ := rfl
@[simp] theorem t48 : tf 48 tys = some ⟨8, 1, 4, [.int .u32 0], [], 6, 0⟩ := rfl
@[simp] theorem t49 : tf 49 tys = some ⟨1, 3, 24, [.int .i64 0, .int .i64 0, .int .u32 0], [(0, 1, false), (1, 1, false), (2, 1, false)], 0, 0⟩ := rfl
@[simp] theorem t50 : tf 50 tys = some ⟨1, 3, 24, [.int .i64 0, .int .i64 0, .int .u32 0], [(0, 1, false), (1, 1, false), (2, 1, false)], 0, 0⟩ := rfl
@[simp] theorem t51 : tf 51 tys = some ⟨3, 1, 24, [.slice none 0 0], [], 50, 0⟩ := rfl
@[simp] theorem t52 : tf 52 tys = some ⟨0, 1, 8, [.nilFunc], [], 0, 0⟩ := rfl
@[simp] theorem t53 : tf 53 tys = some ⟨0, 1, 8, [.nilFunc], [], 0, 0⟩ := rfl
@[simp] theorem t54 : tf 54 tys = some ⟨1, 4, 32, [.int .i64 0, .int .i64 0, .int .i64 0, .bool false], [(0, 1, false), (1, 1, false), (2, 1, false), (3, 1, false)], 0, 0⟩ := rfl
@[simp] theorem t55 : tf 55 tys = some ⟨1, 4, 32, [.int .i64 0, .int .i64 0, .int .i64 0, .bool false], [(0, 1, false), (1, 1, false), (2, 1, false), (3, 1, false)], 0, 0⟩ := rfl
@[simp] theorem t56 : tf 56 tys = some ⟨3, 1, 24, [.slice none 0 0], [], 55, 0⟩ := rfl
@[simp] theorem t57 : tf 57 tys = some ⟨0, 1, 8, [.nilFunc], [], 0, 0⟩ := rfl
@[simp] theorem t58 : tf 58 tys = some ⟨0, 1, 8, [.nilFunc], [], 0, 0⟩ := rfl
@[simp] theorem t59 : tf 59 tys = some ⟨0, 1, 8, [.nilFunc], [], 0, 0⟩ := rfl
@[simp] theorem t60 : tf 60 tys = some ⟨3, 1, 24, [.slice none 0 0], [], 170, 0⟩ := rfl
@[simp] theorem t61 : tf 61 tys = some ⟨3, 1, 24, [.slice none 0 0], [], 107, 0⟩ := rfl
@[simp] theorem t62 : tf 62 tys = some ⟨1, 7, 96, [.int .i64 0, .int .i64 0, .int .i64 0, .int .i64 0, .string ⟨#[]⟩, .slice none 0 0, .slice none 0 0], [(0, 1, false), (1, 1, false), (2, 1, false), (3, 1, false), (4, 1, false), (5, 1, false), (6, 1, false)], 0, 0⟩ := rfl
@[simp] theorem t63 : tf 63 tys = some ⟨1, 7, 96, [.int .i64 0, .int .i64 0, .int .i64 0, .int .i64 0, .string ⟨#[]⟩, .slice none 0 0, .slice none 0 0], [(0, 1, false), (1, 1, false), (2, 1, false), (3, 1, false), (4, 1, false), (5, 1, false), (6, 1, false)], 0, 0⟩ := rfl
@[simp] theorem t65 : tf 65 tys = some ⟨0, 1, 8, [.nilFunc], [], 0, 0⟩ := rfl
@[simp] theorem t67 : tf 67 tys = some ⟨0, 1, 8, [.nilFunc], [], 0, 0⟩ := rfl
@[simp] theorem t68 : tf 68 tys = some ⟨0, 1, 8, [.nilFunc], [], 0, 0⟩ := rfl
@[simp] theorem t69 : tf 69 tys = some ⟨0, 1, 8, [.nilFunc], [], 0, 0⟩ := rfl
@[simp] theorem t70 : tf 70 tys = some ⟨0, 1, 8, [.nilFunc], [], 0, 0⟩ := rfl
@[simp] theorem t71 : tf 71 tys = some ⟨0, 1, 8, [.nilFunc], [], 0, 0⟩ := rfl
@[simp] theorem t72 : tf 72 tys = some ⟨0, 1, 8, [.nilFunc], [], 0, 0⟩ := rfl
@[simp] theorem t73 : tf 73 tys = some ⟨0, 1, 8, [.nilFunc], [], 0, 0⟩ := rfl
@[simp] theorem t74 : tf 74 tys = some ⟨0, 1, 8, [.nilFunc], [], 0, 0⟩ := rfl
@[simp] theorem t75 : tf 75 tys = some ⟨0, 1, 8, [.nilFunc], [], 0, 0⟩ := rfl
@[simp] theorem t76 : tf 76 tys = some ⟨3, 1, 24, [.slice none 0 0], [], 82, 0⟩ := rfl
@[simp] theorem t77 : tf 77 tys = some ⟨6, 1, 8, [.pointer none], [], 80, 0⟩ := rfl
@[simp] theorem t78 : tf 78 tys = some ⟨2, 48, 384, [.int .i64 0, .int .i64 0, .int .i64 0, .int .i64 0, .int .i64 0, .int .i64 0, .int .i64 0, .int .i64 0, .int .i64 0, .int .i64 0, .int .i64 0, .int .i64 0, .int .i64 0, .int .i64 0, .int .i64 0, .int .i64 0, .int .i64 0, .int .i64 0, .int .i64 0, .int .i64 0, .int .i64 0, .int .i64 0, .int .i64 0, .int .i64 0, .int .i64 0, .int .i64 0, .int .i64 0, .int .i64 0, .int .i64 0, .int .i64 0, .int .i64 0, .int .i64 0, .int .i64 0, .int .i64 0, .int .i64 0, .int .i64 0, .int .i64 0, .int .i64 0, .int .i64 0, .int .i64 0, .int .i64 0, .int .i64 0, .int .i64 0, .int .i64 0, .int .i64 0, .int .i64 0, .int .i64 0, .int .i64 0], [], 32, 16⟩ := rfl
@[simp] theorem t79 : tf 79 tys = some ⟨1, 48, 384, [.int .i64 0, .int .i64 0, .int .i64 0, .int .i64 0, .int .i64 0, .int .i64 0, .int .i64 0, .int .i64 0, .int .i64 0, .int .i64 0, .int .i64 0, .int .i64 0, .int .i64 0, .int .i64 0, .int .i64 0, .int .i64 0, .int .i64 0, .int .i64 0, .int .i64 0, .int .i64 0, .int .i64 0, .int .i64 0, .int .i64 0, .int .i64 0, .int .i64 0, .int .i64 0, .int .i64 0, .int .i64 0, .int .i64 0, .int .i64 0, .int .i64 0, .int .i64 0, .int .i64 0, .int .i64 0, .int .i64 0, .int .i64 0, .int .i64 0, .int .i64 0, .int .i64 0, .int .i64 0, .int .i64 0, .int .i64 0, .int .i64 0, .int .i64 0, .int .i64 0, .int .i64 0, .int .i64 0, .int .i64 0], [(0, 48, true)], 0, 0⟩ := rfl
@[simp] theorem t80 : tf 80 tys = some ⟨1, 48, 384, [.int .i64 0, .int .i64 0, .int .i64 0, .int .i64 0, .int .i64 0, .int .i64 0, .int .i64 0, .int .i64 0, .int .i64 0, .int .i64 0, .int .i64 0, .int .i64 0, .int .i64 0, .int .i64 0, .int .i64 0, .int .i64 0, .int .i64 0, .int .i64 0, .int .i64 0, .int .i64 0, .int .i64 0, .int .i64 0, .int .i64 0, .int .i64 0, .int .i64 0, .int .i64 0, .int .i64 0, .int .i64 0, .int .i64 0, .int .i64 0, .int .i64 0, .int .i64 0, .int .i64 0, .int .i64 0, .int .i64 0, .int .i64 0, .int .i64 0, .int .i64 0, .int .i64 0, .int .i64 0, .int .i64 0, .int .i64 0, .int .i64 0, .int .i64 0, .int .i64 0, .int .i64 0, .int .i64 0, .int .i64 0], [(0, 48, true)], 0, 0⟩ := rfl
@[simp] theorem t81 : tf 81 tys = some ⟨1, 5, 40, [.int .i64 0, .int .i64 0, .int .i64 0, .int .i64 0, .int .i64 0], [(0, 1, false), (1, 1, false), (2, 1, false), (3, 1, false), (4, 1, false)], 0, 0⟩ := rfl
@[simp] theorem t82 : tf 82 tys = some ⟨1, 5, 40, [.int .i64 0, .int .i64 0, .int .i64 0, .int .i64 0, .int .i64 0], [(0, 1, false), (1, 1, false), (2, 1, false), (3, 1, false), (4, 1, false)], 0, 0⟩ := rfl
@[simp] theorem t84 : tf 84 tys = some ⟨0, 1, 8, [.nilFunc], [], 0, 0⟩ := rfl
@[simp] theorem t85 : tf 85 tys = some ⟨0, 1, 8, [.nilFunc], [], 0, 0⟩ := rfl
@[simp] theorem t86 : tf 86 tys = some ⟨0, 1, 8, [.nilFunc], [], 0, 0⟩ := rfl
@[simp] theorem t87 : tf 87 tys = some ⟨0, 1, 8, [.nilFunc], [], 0, 0⟩ := rfl
@[simp] theorem t88 : tf 88 tys = some ⟨0, 1, 8, [.nilFunc], [], 0, 0⟩ := rfl
@[simp] theorem t89 : tf 89 tys = some ⟨1, 9, 112, [.int .i64 0, .int .i64 0, .int .i64 0, .int .i64 0, .int .i64 0, .int .i64 0, .string ⟨#[]⟩, .slice none 0 0, .slice none 0 0], [(0, 1, false), (1, 1, false), (2, 7, true)], 0, 0⟩ := rfl
@[simp] theorem t90 : tf 90 tys = some ⟨1, 9, 112, [.int .i64 0, .int .i64 0, .int .i64 0, .int .i64 0, .int .i64 0, .int .i64 0, .string ⟨#[]⟩, .slice none 0 0, .slice none 0 0], [(0, 1, false), (1, 1, false), (2, 7, true)], 0, 0⟩ := rfl
@[simp] theorem t91 : tf 91 tys = some ⟨3, 1, 24, [.slice none 0 0], [], 90, 0⟩ := rfl
@[simp] theorem t92 : tf 92 tys = some ⟨1, 3, 24, [.int .i64 0, .int .i64 0, .int .i64 0], [(0, 1, false), (1, 1, false), (2, 1, false)], 0, 0⟩ := rfl
@[simp] theorem t93 : tf 93 tys = some ⟨1, 3, 24, [.int .i64 0, .int .i64 0, .int .i64 0], [(0, 1, false), (1, 1, false), (2, 1, false)], 0, 0⟩ := rfl
@[simp] theorem t94 : tf 94 tys = some ⟨0, 1, 8, [.nilFunc], [], 0, 0⟩ := rfl
@[simp] theorem t95 : tf 95 tys = some ⟨0, 1, 8, [.nilFunc], [], 0, 0⟩ := rfl
@[simp] theorem t96 : tf 96 tys = some ⟨0, 1, 8, [.nilFunc], [], 0, 0⟩ := rfl
@[simp] theorem t97 : tf 97 tys = some ⟨5, 1, 8, [.map none], [], 0, 0⟩ := rfl
@[simp] theorem t98 : tf 98 tys = some ⟨1, 1, 8, [.map none], [(0, 1, false)], 0, 0⟩ := rfl
@[simp] theorem t99 : tf 99 tys = some ⟨1, 1, 8, [.map none], [(0, 1, false)], 0, 0⟩ := rfl
@[simp] theorem t100 : tf 100 tys = some ⟨1, 1, 8, [.int .i64 0], [(0, 1, false)], 0, 0⟩ := rfl
@[simp] theorem t101 : tf 101 tys = some ⟨1, 1, 8, [.int .i64 0], [(0, 1, false)], 0, 0⟩ := rfl
@[simp] theorem t102 : tf 102 tys = some ⟨0, 1, 8, [.nilFunc], [], 0, 0⟩ := rfl
@[simp] theorem t103 : tf 103 tys = some ⟨0, 1, 8, [.nilFunc], [], 0, 0⟩ := rfl
@[simp] theorem t104 : tf 104 tys = some ⟨1, 4, 48, [.int .i64 0, .string ⟨#[]⟩, .string ⟨#[]⟩, .int .i64 0], [(0, 1, false), (1, 1, false), (2, 1, false), (3, 1, false)], 0, 0⟩ := rfl
@[simp] theorem t105 : tf 105 tys = some ⟨1, 4, 48, [.int .i64 0, .string ⟨#[]⟩, .string ⟨#[]⟩, .int .i64 0], [(0, 1, false), (1, 1, false), (2, 1, false), (3, 1, false)], 0, 0⟩ := rfl
@[simp] theorem t106 : tf 106 tys = some ⟨1, 3, 24, [.int .i64 0, .int .i64 0, .int .i64 0], [(0, 1, false), (1, 1, false), (2, 1, false)], 0, 0⟩ := rfl
@[simp] theorem t107 : tf 107 tys = some ⟨1, 3, 24, [.int .i64 0, .int .i64 0, .int .i64 0], [(0, 1, false), (1, 1, false), (2, 1, false)], 0, 0⟩ := rfl
@[simp] theorem t108 : tf 108 tys = some ⟨0, 1, 8, [.nilFunc], [], 0, 0⟩ := rfl
@[simp] theorem t109 : tf 109 tys = some ⟨0, 1, 8, [.nilFunc], [], 0, 0⟩ := rfl
@[simp] theorem t110 : tf 110 tys = some ⟨0, 1, 8, [.nilFunc], [], 0, 0⟩ := rfl
@[simp] theorem t111 : tf 111 tys = some ⟨0, 1, 8, [.nilFunc], [], 0, 0⟩ := rfl
@[simp] theorem t112 : tf 112 tys = some ⟨0, 1, 8, [.nilFunc], [], 0, 0⟩ := rfl
@[simp] theorem t113 : tf 113 tys = some ⟨5, 1, 8, [.map none], [], 0, 0⟩ := rfl
@[simp] theorem t114 : tf 114 tys = some ⟨0, 1, 8, [.nilFunc], [], 0, 0⟩ := rfl
@[simp] theorem t115 : tf 115 tys = some ⟨0, 1, 8, [.nilFunc], [], 0, 0⟩ := rfl
@[simp] theorem t116 : tf 116 tys = some ⟨1, 1, 8, [.int .i64 0], [(0, 1, false)], 0, 0⟩ := rfl
@[simp] theorem t117 : tf 117 tys = some ⟨1, 1, 8, [.int .i64 0], [(0, 1, false)], 0, 0⟩ := rfl
@[simp] theorem t118 : tf 118 tys = some ⟨0, 1, 8, [.nilFunc], [], 0, 0⟩ := rfl
@[simp] theorem t120 : tf 120 tys = some ⟨0, 1, 8, [.nilFunc], [], 0, 0⟩ := rfl
@[simp] theorem t121 : tf 121 tys = some ⟨0, 1, 8, [.nilFunc], [], 0, 0⟩ := rfl
@[simp] theorem t122 : tf 122 tys = some ⟨0, 1, 8, [.nilFunc], [], 0, 0⟩ := rfl
@[simp] theorem t123 : tf 123 tys = some ⟨0, 1, 8, [.nilFunc], [], 0, 0⟩ := rfl
@[simp] theorem t124 : tf 124 tys = some ⟨0, 1, 8, [.nilFunc], [], 0, 0⟩ := rfl
@[simp] theorem t125 : tf 125 tys = some ⟨0, 1, 8, [.nilFunc], [], 0, 0⟩ := rfl
@[simp] theorem t126 : tf 126 tys = some ⟨0, 1, 8, [.nilFunc], [], 0, 0⟩ := rfl
@[simp] theorem t127 : tf 127 tys = some ⟨0, 1, 8, [.nilFunc], [], 0, 0⟩ := rfl
@[simp] theorem t128 : tf 128 tys = some ⟨0, 1, 8, [.nilFunc], [], 0, 0⟩ := rfl
@[simp] theorem t129 : tf 129 tys = some ⟨0, 1, 8, [.nilFunc], [], 0, 0⟩ := rfl
@[simp] theorem t130 : tf 130 tys = some ⟨0, 1, 8, [.nilFunc], [], 0, 0⟩ := rfl
@[simp] theorem t131 : tf 131 tys = some ⟨0, 1, 8, [.nilFunc], [], 0, 0⟩ := rfl
@[simp] theorem t132 : tf 132 tys = some ⟨0, 1, 8, [.nilFunc], [], 0, 0⟩ := rfl
@[simp] theorem t133 : tf 133 tys = some ⟨0, 1, 8, [.nilFunc], [], 0, 0⟩ := rfl
@[simp] theorem t135 : tf 135 tys = some ⟨0, 1, 8, [.nilFunc], [], 0, 0⟩ := rfl
@[simp] theorem t137 : tf 137 tys = some ⟨0, 1, 8, [.nilFunc], [], 0, 0⟩ := rfl
@[simp] theorem t138 : tf 138 tys = some ⟨0, 1, 8, [.nilFunc], [], 0, 0⟩ := rfl
@[simp] theorem t139 : tf 139 tys = some ⟨0, 1, 8, [.nilFunc], [], 0, 0⟩ := rfl
@[simp] theorem t140 : tf 140 tys = some ⟨0, 1, 8, [.nilFunc], [], 0, 0⟩ := rfl
@[simp] theorem t141 : tf 141 tys = some ⟨3, 1, 24, [.slice none 0 0], [], 9, 0⟩ := rfl
@[simp] theorem t143 : tf 143 tys = some ⟨0, 1, 8, [.nilFunc], [], 0, 0⟩ := rfl
@[simp] theorem t144 : tf 144 tys = some ⟨0, 1, 8, [.nilFunc], [], 0, 0⟩ := rfl
@[simp] theorem t145 : tf 145 tys = some ⟨0, 1, 8, [.nilFunc], [], 0, 0⟩ := rfl
@[simp] theorem t146 : tf 146 tys = some ⟨0, 1, 8, [.nilFunc], [], 0, 0⟩ := rfl
@[simp] theorem t147 : tf 147 tys = some ⟨3, 1, 24, [.slice none 0 0], [], 5, 0⟩ := rfl
@[simp] theorem t148 : tf 148 tys = some ⟨0, 1, 8, [.nilFunc], [], 0, 0⟩ := rfl
@[simp] theorem t149 : tf 149 tys = some ⟨0, 1, 8, [.nilFunc], [], 0, 0⟩ := rfl
@[simp] theorem t150 : tf 150 tys = some ⟨0, 1, 8, [.nilFunc], [], 0, 0⟩ := rfl
@[simp] theorem t151 : tf 151 tys = some ⟨0, 1, 8, [.nilFunc], [], 0, 0⟩ := rfl
@[simp] theorem t152 : tf 152 tys = some ⟨0, 1, 8, [.nilFunc], [], 0, 0⟩ := rfl
@[simp] theorem t153 : tf 153 tys = some ⟨8, 1, 8, [.int .i64 0], [], 3, 0⟩ := rfl
@[simp] theorem t155 : tf 155 tys = some ⟨0, 1, 8, [.nilFunc], [], 0, 0⟩ := rfl
@[simp] theorem t156 : tf 156 tys = some ⟨0, 1, 8, [.nilFunc], [], 0, 0⟩ := rfl
@[simp] theorem t157 : tf 157 tys = some ⟨0, 1, 8, [.nilFunc], [], 0, 0⟩ := rfl
@[simp] theorem t158 : tf 158 tys = some ⟨0, 1, 8, [.nilFunc], [], 0, 0⟩ := rfl
@[simp] theorem t159 : tf 159 tys = some ⟨0, 1, 8, [.nilFunc], [], 0, 0⟩ := rfl
@[simp] theorem t160 : tf 160 tys = some ⟨8, 1, 8, [.int .u64 0], [], 7, 0⟩ := rfl
@[simp] theorem t162 : tf 162 tys = some ⟨0, 1, 8, [.nilFunc], [], 0, 0⟩ := rfl
@[simp] theorem t163 : tf 163 tys = some ⟨0, 1, 8, [.nilFunc], [], 0, 0⟩ := rfl
@[simp] theorem t165 : tf 165 tys = some ⟨0, 1, 8, [.nilFunc], [], 0, 0⟩ := rfl
@[simp] theorem t166 : tf 166 tys = some ⟨0, 1, 8, [.nilFunc], [], 0, 0⟩ := rfl
@[simp] theorem t168 : tf 168 tys = some ⟨0, 1, 8, [.nilFunc], [], 0, 0⟩ := rfl
@[simp] theorem t169 : tf 169 tys = some ⟨1, 2, 24, [.string ⟨#[]⟩, .int .i64 0], [(0, 1, false), (1, 1, false)], 0, 0⟩ := rfl
@[simp] theorem t170 : tf 170 tys = some ⟨1, 2, 24, [.string ⟨#[]⟩, .int .i64 0], [(0, 1, false), (1, 1, false)], 0, 0⟩ := rfl
@[simp] theorem t171 : tf 171 tys = some ⟨0, 1, 8, [.nilFunc], [], 0, 0⟩ := rfl
@[simp] theorem t173 : tf 173 tys = some ⟨0, 1, 8, [.nilFunc], [], 0, 0⟩ := rfl
@[simp] theorem t174 : tf 174 tys = some ⟨0, 1, 8, [.nilFunc], [], 0, 0⟩ := rfl
@[simp] theorem t175 : tf 175 tys = some ⟨0, 1, 8, [.nilFunc], [], 0, 0⟩ := rfl
@[simp] theorem t176 : tf 176 tys = some ⟨0, 1, 8, [.nilFunc], [], 0, 0⟩ := rfl
@[simp] theorem t177 : tf 177 tys = some ⟨0, 1, 8, [.nilFunc], [], 0, 0⟩ := rfl
@[simp] theorem t178 : tf 178 tys = some ⟨6, 1, 8, [.pointer none], [], 180, 0⟩ := rfl
@[simp] theorem t179 : tf 179 tys = some ⟨1, 6, 96, [.int .i64 0, .slice none 0 0, .slice none 0 0, .slice none 0 0, .int .i64 0, .int .i64 0], [(0, 3, true), (3, 1, false), (4, 1, false), (5, 1, false)], 0, 0⟩ := rfl
@[simp] theorem t180 : tf 180 tys = some ⟨1, 6, 96, [.int .i64 0, .slice none 0 0, .slice none 0 0, .slice none 0 0, .int .i64 0, .int .i64 0], [(0, 3, true), (3, 1, false), (4, 1, false), (5, 1, false)], 0, 0⟩ := rfl
@[simp] theorem t181 : tf 181 tys = some ⟨0, 1, 8, [.nilFunc], [], 0, 0⟩ := rfl
@[simp] theorem t182 : tf 182 tys = some ⟨0, 1, 8, [.nilFunc], [], 0, 0⟩ := rfl
@[simp] theorem t183 : tf 183 tys = some ⟨0, 1, 8, [.nilFunc], [], 0, 0⟩ := rfl
@[simp] theorem t184 : tf 184 tys = some ⟨0, 1, 8, [.nilFunc], [], 0, 0⟩ := rfl
@[simp] theorem t185 : tf 185 tys = some ⟨0, 1, 8, [.nilFunc], [], 0, 0⟩ := rfl
@[simp] theorem t186 : tf 186 tys = some ⟨0, 1, 8, [.nilFunc], [], 0, 0⟩ := rfl
@[simp] theorem t187 : tf 187 tys = some ⟨0, 1, 8, [.nilFunc], [], 0, 0⟩ := rfl
@[simp] theorem t188 : tf 188 tys = some ⟨0, 1, 8, [.nilFunc], [], 0, 0⟩ := rfl
@[simp] theorem t189 : tf 189 tys = some ⟨8, 1, 8, [.int .u64 0], [], 7, 0⟩ := rfl
@[simp] theorem t190 : tf 190 tys = some ⟨0, 1, 8, [.nilFunc], [], 0, 0⟩ := rfl
@[simp] theorem t191 : tf 191 tys = some ⟨0, 1, 8, [.nilFunc], [], 0, 0⟩ := rfl
@[simp] theorem t192 : tf 192 tys = some ⟨0, 1, 8, [.nilFunc], [], 0, 0⟩ := rfl
@[simp] theorem t193 : tf 193 tys = some ⟨6, 1, 8, [.pointer none], [], 3, 0⟩ := rfl
@[simp] theorem t194 : tf 194 tys = some ⟨0, 1, 8, [.nilFunc], [], 0, 0⟩ := rfl
@[simp] theorem t195 : tf 195 tys = some ⟨0, 1, 8, [.nilFunc], [], 0, 0⟩ := rfl
@[simp] theorem t196 : tf 196 tys = some ⟨0, 1, 8, [.nilFunc], [], 0, 0⟩ := rfl
@[simp] theorem t197 : tf 197 tys = some ⟨0, 1, 8, [.nilFunc], [], 0, 0⟩ := rfl
@[simp] theorem t198 : tf 198 tys = some ⟨0, 1, 8, [.nilFunc], [], 0, 0⟩ := rfl
@[simp] theorem t199 : tf 199 tys = some ⟨0, 1, 8, [.nilFunc], [], 0, 0⟩ := rfl
@[simp] theorem t200 : tf 200 tys = some ⟨0, 1, 8, [.nilFunc], [], 0, 0⟩ := rfl
@[simp] theorem t201 : tf 201 tys = some ⟨0, 1, 8, [.nilFunc], [], 0, 0⟩ := rfl
@[simp] theorem t202 : tf 202 tys = some ⟨0, 1, 8, [.nilFunc], [], 0, 0⟩ := rfl
@[simp] theorem t203 : tf 203 tys = some ⟨0, 1, 8, [.nilFunc], [], 0, 0⟩ := rfl
@[simp] theorem t204 : tf 204 tys = some ⟨0, 1, 8, [.nilFunc], [], 0, 0⟩ := rfl
@[simp] theorem t205 : tf 205 tys = some ⟨0, 1, 8, [.nilFunc], [], 0, 0⟩ := rfl
@[simp] theorem t206 : tf 206 tys = some ⟨6, 1, 8, [.pointer none], [], 189, 0⟩ := rfl
@[simp] theorem t208 : tf 208 tys = some ⟨0, 1, 8, [.nilFunc], [], 0, 0⟩ := rfl
@[simp] theorem t209 : tf 209 tys = some ⟨3, 1, 24, [.slice none 0 0], [], 147, 0⟩ := rfl
@[simp] theorem t210 : tf 210 tys = some ⟨0, 1, 8, [.nilFunc], [], 0, 0⟩ := rfl
@[simp] theorem t211 : tf 211 tys = some ⟨0, 1, 8, [.nilFunc], [], 0, 0⟩ := rfl
@[simp] theorem t212 : tf 212 tys = some ⟨0, 1, 8, [.nilFunc], [], 0, 0⟩ := rfl
@[simp] theorem t213 : tf 213 tys = some ⟨0, 1, 8, [.nilFunc], [], 0, 0⟩ := rfl
@[simp] theorem t214 : tf 214 tys = some ⟨0, 1, 8, [.nilFunc], [], 0, 0⟩ := rfl
@[simp] theorem t215 : tf 215 tys = some ⟨1, 4, 40, [.pointer none, .pointer none, .pointer none, .string ⟨#[]⟩], [(0, 1, false), (1, 1, false), (2, 1, false), (3, 1, false)], 0, 0⟩ := rfl
@[simp] theorem t216 : tf 216 tys = some ⟨1, 4, 40, [.pointer none, .pointer none, .pointer none, .string ⟨#[]⟩], [(0, 1, false), (1, 1, false), (2, 1, false), (3, 1, false)], 0, 0⟩ := rfl
@[simp] theorem t217 : tf 217 tys = some ⟨2, 0, 0, [], [], 16, 0⟩ := rfl
@[simp] theorem t218 : tf 218 tys = some ⟨1, 0, 0, [], [(0, 0, true)], 0, 0⟩ := rfl
@[simp] theorem t219 : tf 219 tys = some ⟨1, 0, 0, [], [(0, 0, true)], 0, 0⟩ := rfl
@[simp] theorem t220 : tf 220 tys = some ⟨0, 1, 8, [.nilFunc], [], 0, 0⟩ := rfl
@[simp] theorem t221 : tf 221 tys = some ⟨8, 1, 1, [.int .u8 0], [], 4, 0⟩ := rfl
@[simp] theorem t222 : tf 222 tys = some ⟨8, 1, 1, [.int .u8 0], [], 4, 0⟩ := rfl
@[simp] theorem t223 : tf 223 tys = some ⟨0, 1, 8, [.nilFunc], [], 0, 0⟩ := rfl
@[simp] theorem t224 : tf 224 tys = some ⟨6, 1, 8, [.pointer none], [], 5, 0⟩ := rfl
@[simp] theorem t225 : tf 225 tys = some ⟨8, 1, 4, [.int .i32 0], [], 2, 0⟩ := rfl
@[simp] theorem t226 : tf 226 tys = some ⟨8, 1, 4, [.int .i32 0], [], 2, 0⟩ := rfl
@[simp] theorem t227 : tf 227 tys = some ⟨1, 11, 48, [.int .u64 0, .int .u64 0, .int .u32 0, .int .u8 0, .int .u8 0, .int .u8 0, .int .u8 0, .nilFunc, .pointer none, .int .i32 0, .int .i32 0], [(0, 1, false), (1, 1, false), (2, 1, false), (3, 1, false), (4, 1, false), (5, 1, false), (6, 1, false), (7, 1, false), (8, 1, false), (9, 1, false), (10, 1, false)], 0, 0⟩ := rfl
@[simp] theorem t228 : tf 228 tys = some ⟨1, 11, 48, [.int .u64 0, .int .u64 0, .int .u32 0, .int .u8 0, .int .u8 0, .int .u8 0, .int .u8 0, .nilFunc, .pointer none, .int .i32 0, .int .i32 0], [(0, 1, false), (1, 1, false), (2, 1, false), (3, 1, false), (4, 1, false), (5, 1, false), (6, 1, false), (7, 1, false), (8, 1, false), (9, 1, false), (10, 1, false)], 0, 0⟩ := rfl
end Go.Proofs.Ytfmkpkmhhlakoaa.Sx
