/-
  The table of this seat's types, by program.
-/
import Derived.Test.YtlomkmbajkbdnaaDoorProg
import Derived.Test.YtlomkmbajkbdnaaDoorAbsN
namespace Go.Proofs.YtlomkmbajkbdnaaDoor
open Go.Abs

@[go_sem] def ti : Nat → TI
  | 2 => ⟨.int .i64, 1, 8, [.int .i64 0]⟩
  | 3 => ⟨.int .i64, 1, 8, [.int .i64 0]⟩
  | 4 => ⟨.bool, 1, 1, [.bool false]⟩
  | 5 => ⟨.int .u8, 1, 1, [.int .u8 0]⟩
  | 6 => ⟨.int .u8, 1, 1, [.int .u8 0]⟩
  | 7 => ⟨.struct [(0, 2), (1, 3), (2, 4), (3, 6)], 4, 24, [.int .i64 0, .int .i64 0, .bool false, .int .u8 0]⟩
  | 8 => ⟨.struct [(0, 2), (1, 3), (2, 4), (3, 6)], 4, 24, [.int .i64 0, .int .i64 0, .bool false, .int .u8 0]⟩
  | 9 => ⟨.string, 1, 16, [.string ⟨#[]⟩]⟩
  | 10 => ⟨.string, 1, 16, [.string ⟨#[]⟩]⟩
  | 11 => ⟨.string, 1, 16, [.string ⟨#[]⟩]⟩
  | 12 => ⟨.int .u64, 1, 8, [.int .u64 0]⟩
  | 15 => ⟨.flat, 1, 8, [.pointer none]⟩
  | 16 => ⟨.flat, 1, 8, [.pointer none]⟩
  | 17 => ⟨.flat, 1, 8, [.pointer none]⟩
  | 21 => ⟨.int .i32, 1, 4, [.int .i32 0]⟩
  | 22 => ⟨.slice 9, 1, 24, [.slice none 0 0]⟩
  | 28 => ⟨.slice 30, 1, 24, [.slice none 0 0]⟩
  | 29 => ⟨.struct [(0, 3), (1, 2), (2, 9), (3, 3), (4, 22), (5, 28)], 6, 88, [.int .i64 0, .int .i64 0, .string ⟨#[]⟩, .int .i64 0, .slice none 0 0, .slice none 0 0]⟩
  | 30 => ⟨.struct [(0, 3), (1, 2), (2, 9), (3, 3), (4, 22), (5, 28)], 6, 88, [.int .i64 0, .int .i64 0, .string ⟨#[]⟩, .int .i64 0, .slice none 0 0, .slice none 0 0]⟩
  | 41 => ⟨.slice 57, 1, 24, [.slice none 0 0]⟩
  | 43 => ⟨.struct [(0, 3), (1, 3), (2, 3)], 3, 24, [.int .i64 0, .int .i64 0, .int .i64 0]⟩
  | 44 => ⟨.struct [(0, 3), (1, 3), (2, 3)], 3, 24, [.int .i64 0, .int .i64 0, .int .i64 0]⟩
  | 51 => ⟨.map 9 3, 1, 8, [.map none]⟩
  | 56 => ⟨.struct [(0, 9), (1, 22)], 2, 40, [.string ⟨#[]⟩, .slice none 0 0]⟩
  | 57 => ⟨.struct [(0, 9), (1, 22)], 2, 40, [.string ⟨#[]⟩, .slice none 0 0]⟩
  | 58 => ⟨.struct [(0, 9), (1, 44), (4, 9), (5, 9)], 6, 72, [.string ⟨#[]⟩, .int .i64 0, .int .i64 0, .int .i64 0, .string ⟨#[]⟩, .string ⟨#[]⟩]⟩
  | 59 => ⟨.struct [(0, 9), (1, 44), (4, 9), (5, 9)], 6, 72, [.string ⟨#[]⟩, .int .i64 0, .int .i64 0, .int .i64 0, .string ⟨#[]⟩, .string ⟨#[]⟩]⟩
  | 60 => ⟨.slice 59, 1, 24, [.slice none 0 0]⟩
  | 61 => ⟨.struct [(0, 22), (1, 30)], 7, 112, [.slice none 0 0, .int .i64 0, .int .i64 0, .string ⟨#[]⟩, .int .i64 0, .slice none 0 0, .slice none 0 0]⟩
  | 62 => ⟨.struct [(0, 22), (1, 30)], 7, 112, [.slice none 0 0, .int .i64 0, .int .i64 0, .string ⟨#[]⟩, .int .i64 0, .slice none 0 0, .slice none 0 0]⟩
  | 63 => ⟨.slice 62, 1, 24, [.slice none 0 0]⟩
  | 64 => ⟨.struct [(0, 9), (1, 60), (2, 60), (3, 60), (4, 63)], 5, 112, [.string ⟨#[]⟩, .slice none 0 0, .slice none 0 0, .slice none 0 0, .slice none 0 0]⟩
  | 65 => ⟨.struct [(0, 9), (1, 60), (2, 60), (3, 60), (4, 63)], 5, 112, [.string ⟨#[]⟩, .slice none 0 0, .slice none 0 0, .slice none 0 0, .slice none 0 0]⟩
  | 66 => ⟨.int .i64, 1, 8, [.int .i64 0]⟩
  | 67 => ⟨.struct [(0, 3), (1, 3), (2, 66)], 3, 24, [.int .i64 0, .int .i64 0, .int .i64 0]⟩
  | 68 => ⟨.struct [(0, 3), (1, 3), (2, 66)], 3, 24, [.int .i64 0, .int .i64 0, .int .i64 0]⟩
  | 70 => ⟨.slice 65, 1, 24, [.slice none 0 0]⟩
  | 71 => ⟨.struct [(0, 41), (1, 70)], 2, 48, [.slice none 0 0, .slice none 0 0]⟩
  | 72 => ⟨.struct [(0, 41), (1, 70)], 2, 48, [.slice none 0 0, .slice none 0 0]⟩
  | 82 => ⟨.struct [(0, 4), (1, 4), (2, 4), (3, 3), (4, 3), (5, 3)], 6, 32, [.bool false, .bool false, .bool false, .int .i64 0, .int .i64 0, .int .i64 0]⟩
  | 83 => ⟨.struct [(0, 4), (1, 4), (2, 4), (3, 3), (4, 3), (5, 3)], 6, 32, [.bool false, .bool false, .bool false, .int .i64 0, .int .i64 0, .int .i64 0]⟩
  | 91 => ⟨.flat, 1, 8, [.pointer none]⟩
  | 97 => ⟨.array 2 3, 2, 16, [.int .i64 0, .int .i64 0]⟩
  | 108 => ⟨.struct [(0, 72), (2, 3), (3, 51)], 4, 64, [.slice none 0 0, .slice none 0 0, .int .i64 0, .map none]⟩
  | 109 => ⟨.struct [(0, 72), (2, 3), (3, 51)], 4, 64, [.slice none 0 0, .slice none 0 0, .int .i64 0, .map none]⟩
  | 124 => ⟨.slice 60, 1, 24, [.slice none 0 0]⟩
  | 128 => ⟨.int .u64, 1, 8, [.int .u64 0]⟩
  | 136 => ⟨.struct [(0, 5), (1, 5)], 2, 2, [.int .u8 0, .int .u8 0]⟩
  | 137 => ⟨.struct [(0, 5), (1, 5)], 2, 2, [.int .u8 0, .int .u8 0]⟩
  | 138 => ⟨.array 16 137, 32, 32, [.int .u8 0, .int .u8 0, .int .u8 0, .int .u8 0, .int .u8 0, .int .u8 0, .int .u8 0, .int .u8 0, .int .u8 0, .int .u8 0, .int .u8 0, .int .u8 0, .int .u8 0, .int .u8 0, .int .u8 0, .int .u8 0, .int .u8 0, .int .u8 0, .int .u8 0, .int .u8 0, .int .u8 0, .int .u8 0, .int .u8 0, .int .u8 0, .int .u8 0, .int .u8 0, .int .u8 0, .int .u8 0, .int .u8 0, .int .u8 0, .int .u8 0, .int .u8 0]⟩
  | 139 => ⟨.int .u32, 1, 4, [.int .u32 0]⟩
  | 150 => ⟨.int .u8, 1, 1, [.int .u8 0]⟩
  | 151 => ⟨.int .u8, 1, 1, [.int .u8 0]⟩
  | 153 => ⟨.flat, 1, 8, [.pointer none]⟩
  | 154 => ⟨.int .i32, 1, 4, [.int .i32 0]⟩
  | 155 => ⟨.int .i32, 1, 4, [.int .i32 0]⟩
  | _ => ⟨.other, 0, 0, []⟩

set_option maxRecDepth 100000 in
theorem ti_check : ((List.range 159).all fun t => tiCheck Tryd.prog t (ti t)) = true := by kernel_rfl

theorem tabOK : TabOK Tryd.prog ti := by
  intro t
  by_cases h : t < 159
  · exact tiOK_of_check (List.all_eq_true.1 ti_check t (List.mem_range.2 h))
  · left
    unfold ti
    split <;> first | rfl | exact absurd (by decide) h
end Go.Proofs.YtlomkmbajkbdnaaDoor
