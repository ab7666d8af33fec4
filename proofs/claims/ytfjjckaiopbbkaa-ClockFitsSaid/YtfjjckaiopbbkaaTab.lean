/-
  The table of this seat's types, by program.
-/
import Derived.Test.YtfjjckaiopbbkaaProg
import Derived.Test.YtfjjckaiopbbkaaAbsN
namespace Go.Proofs.Ytfjjckaiopbbkaa
open Go.Abs

@[go_sem] def ti : Nat → TI
  | 2 => ⟨.int .i64, 1, 8, [.int .i64 0]⟩
  | 3 => ⟨.int .i64, 1, 8, [.int .i64 0]⟩
  | 4 => ⟨.bool, 1, 1, [.bool false]⟩
  | 5 => ⟨.int .u8, 1, 1, [.int .u8 0]⟩
  | 6 => ⟨.int .u8, 1, 1, [.int .u8 0]⟩
  | 7 => ⟨.struct [(0, 2), (1, 3), (2, 4), (3, 6)], 4, 24, [.int .i64 0, .int .i64 0, .bool false, .int .u8 0]⟩
  | 8 => ⟨.struct [(0, 2), (1, 3), (2, 4), (3, 6)], 4, 24, [.int .i64 0, .int .i64 0, .bool false, .int .u8 0]⟩
  | 9 => ⟨.string, 1, 16, [.string ⟨#[]⟩]⟩
  | 10 => ⟨.string, 1, 16, [.string ⟨#[]⟩]⟩
  | 11 => ⟨.string, 1, 16, [.string ⟨#[]⟩]⟩
  | 12 => ⟨.int .u64, 1, 8, [.int .u64 0]⟩
  | 15 => ⟨.flat, 1, 8, [.pointer none]⟩
  | 16 => ⟨.flat, 1, 8, [.pointer none]⟩
  | 17 => ⟨.flat, 1, 8, [.pointer none]⟩
  | 21 => ⟨.int .i32, 1, 4, [.int .i32 0]⟩
  | 22 => ⟨.slice 9, 1, 24, [.slice none 0 0]⟩
  | 23 => ⟨.slice 25, 1, 24, [.slice none 0 0]⟩
  | 24 => ⟨.struct [(0, 3), (1, 2), (2, 9), (3, 3), (4, 22), (5, 23)], 6, 88, [.int .i64 0, .int .i64 0, .string ⟨#[]⟩, .int .i64 0, .slice none 0 0, .slice none 0 0]⟩
  | 25 => ⟨.struct [(0, 3), (1, 2), (2, 9), (3, 3), (4, 22), (5, 23)], 6, 88, [.int .i64 0, .int .i64 0, .string ⟨#[]⟩, .int .i64 0, .slice none 0 0, .slice none 0 0]⟩
  | 32 => ⟨.slice 112, 1, 24, [.slice none 0 0]⟩
  | 33 => ⟨.slice 42, 1, 24, [.slice none 0 0]⟩
  | 34 => ⟨.struct [(0, 32), (1, 33)], 2, 48, [.slice none 0 0, .slice none 0 0]⟩
  | 35 => ⟨.struct [(0, 32), (1, 33)], 2, 48, [.slice none 0 0, .slice none 0 0]⟩
  | 37 => ⟨.slice 46, 1, 24, [.slice none 0 0]⟩
  | 40 => ⟨.slice 87, 1, 24, [.slice none 0 0]⟩
  | 41 => ⟨.struct [(0, 9), (1, 37), (2, 37), (3, 37), (4, 40)], 5, 112, [.string ⟨#[]⟩, .slice none 0 0, .slice none 0 0, .slice none 0 0, .slice none 0 0]⟩
  | 42 => ⟨.struct [(0, 9), (1, 37), (2, 37), (3, 37), (4, 40)], 5, 112, [.string ⟨#[]⟩, .slice none 0 0, .slice none 0 0, .slice none 0 0, .slice none 0 0]⟩
  | 43 => ⟨.struct [(0, 3), (1, 3), (2, 3)], 3, 24, [.int .i64 0, .int .i64 0, .int .i64 0]⟩
  | 44 => ⟨.struct [(0, 3), (1, 3), (2, 3)], 3, 24, [.int .i64 0, .int .i64 0, .int .i64 0]⟩
  | 45 => ⟨.struct [(0, 9), (1, 44), (4, 9), (5, 9)], 6, 72, [.string ⟨#[]⟩, .int .i64 0, .int .i64 0, .int .i64 0, .string ⟨#[]⟩, .string ⟨#[]⟩]⟩
  | 46 => ⟨.struct [(0, 9), (1, 44), (4, 9), (5, 9)], 6, 72, [.string ⟨#[]⟩, .int .i64 0, .int .i64 0, .int .i64 0, .string ⟨#[]⟩, .string ⟨#[]⟩]⟩
  | 51 => ⟨.slice 150, 1, 24, [.slice none 0 0]⟩
  | 52 => ⟨.slice 100, 1, 24, [.slice none 0 0]⟩
  | 53 => ⟨.struct [(0, 9), (1, 51), (2, 51), (3, 51), (4, 52)], 5, 112, [.string ⟨#[]⟩, .slice none 0 0, .slice none 0 0, .slice none 0 0, .slice none 0 0]⟩
  | 54 => ⟨.struct [(0, 9), (1, 51), (2, 51), (3, 51), (4, 52)], 5, 112, [.string ⟨#[]⟩, .slice none 0 0, .slice none 0 0, .slice none 0 0, .slice none 0 0]⟩
  | 56 => ⟨.slice 3, 1, 24, [.slice none 0 0]⟩
  | 68 => ⟨.slice 130, 1, 24, [.slice none 0 0]⟩
  | 69 => ⟨.struct [(0, 9), (1, 25), (7, 68)], 8, 128, [.string ⟨#[]⟩, .int .i64 0, .int .i64 0, .string ⟨#[]⟩, .int .i64 0, .slice none 0 0, .slice none 0 0, .slice none 0 0]⟩
  | 70 => ⟨.struct [(0, 9), (1, 25), (7, 68)], 8, 128, [.string ⟨#[]⟩, .int .i64 0, .int .i64 0, .string ⟨#[]⟩, .int .i64 0, .slice none 0 0, .slice none 0 0, .slice none 0 0]⟩
  | 76 => ⟨.array 2 68, 2, 48, [.slice none 0 0, .slice none 0 0]⟩
  | 80 => ⟨.struct [(0, 4), (1, 4)], 2, 2, [.bool false, .bool false]⟩
  | 81 => ⟨.struct [(0, 4), (1, 4)], 2, 2, [.bool false, .bool false]⟩
  | 86 => ⟨.struct [(0, 22), (1, 25)], 7, 112, [.slice none 0 0, .int .i64 0, .int .i64 0, .string ⟨#[]⟩, .int .i64 0, .slice none 0 0, .slice none 0 0]⟩
  | 87 => ⟨.struct [(0, 22), (1, 25)], 7, 112, [.slice none 0 0, .int .i64 0, .int .i64 0, .string ⟨#[]⟩, .int .i64 0, .slice none 0 0, .slice none 0 0]⟩
  | 95 => ⟨.struct [(0, 9), (1, 2)], 2, 24, [.string ⟨#[]⟩, .int .i64 0]⟩
  | 96 => ⟨.struct [(0, 9), (1, 2)], 2, 24, [.string ⟨#[]⟩, .int .i64 0]⟩
  | 97 => ⟨.slice 96, 1, 24, [.slice none 0 0]⟩
  | 98 => ⟨.slice 2, 1, 24, [.slice none 0 0]⟩
  | 99 => ⟨.struct [(0, 3), (1, 22), (2, 3), (3, 97), (4, 98), (5, 3), (6, 4), (7, 96), (9, 68)], 10, 152, [.int .i64 0, .slice none 0 0, .int .i64 0, .slice none 0 0, .slice none 0 0, .int .i64 0, .bool false, .string ⟨#[]⟩, .int .i64 0, .slice none 0 0]⟩
  | 100 => ⟨.struct [(0, 3), (1, 22), (2, 3), (3, 97), (4, 98), (5, 3), (6, 4), (7, 96), (9, 68)], 10, 152, [.int .i64 0, .slice none 0 0, .int .i64 0, .slice none 0 0, .slice none 0 0, .int .i64 0, .bool false, .string ⟨#[]⟩, .int .i64 0, .slice none 0 0]⟩
  | 101 => ⟨.map 9 3, 1, 8, [.map none]⟩
  | 102 => ⟨.map 9 3, 1, 8, [.map none]⟩
  | 104 => ⟨.slice 4, 1, 24, [.slice none 0 0]⟩
  | 111 => ⟨.struct [(0, 9), (1, 22)], 2, 40, [.string ⟨#[]⟩, .slice none 0 0]⟩
  | 112 => ⟨.struct [(0, 9), (1, 22)], 2, 40, [.string ⟨#[]⟩, .slice none 0 0]⟩
  | 122 => ⟨.map 3 22, 1, 8, [.map none]⟩
  | 123 => ⟨.struct [(0, 122), (1, 101)], 2, 16, [.map none, .map none]⟩
  | 124 => ⟨.struct [(0, 122), (1, 101)], 2, 16, [.map none, .map none]⟩
  | 129 => ⟨.struct [(0, 9), (1, 2)], 2, 24, [.string ⟨#[]⟩, .int .i64 0]⟩
  | 130 => ⟨.struct [(0, 9), (1, 2)], 2, 24, [.string ⟨#[]⟩, .int .i64 0]⟩
  | 131 => ⟨.struct [(0, 35), (2, 3)], 3, 56, [.slice none 0 0, .slice none 0 0, .int .i64 0]⟩
  | 132 => ⟨.struct [(0, 35), (2, 3)], 3, 56, [.slice none 0 0, .slice none 0 0, .int .i64 0]⟩
  | 149 => ⟨.struct [(0, 9), (1, 44), (4, 68)], 5, 64, [.string ⟨#[]⟩, .int .i64 0, .int .i64 0, .int .i64 0, .slice none 0 0]⟩
  | 150 => ⟨.struct [(0, 9), (1, 44), (4, 68)], 5, 64, [.string ⟨#[]⟩, .int .i64 0, .int .i64 0, .int .i64 0, .slice none 0 0]⟩
  | 169 => ⟨.slice 37, 1, 24, [.slice none 0 0]⟩
  | 183 => ⟨.array 2 3, 2, 16, [.int .i64 0, .int .i64 0]⟩
  | 192 => ⟨.int .u32, 1, 4, [.int .u32 0]⟩
  | 193 => ⟨.int .u8, 1, 1, [.int .u8 0]⟩
  | 194 => ⟨.int .u8, 1, 1, [.int .u8 0]⟩
  | 196 => ⟨.flat, 1, 8, [.pointer none]⟩
  | 197 => ⟨.int .i32, 1, 4, [.int .i32 0]⟩
  | 198 => ⟨.int .i32, 1, 4, [.int .i32 0]⟩
  | 203 => ⟨.int .i64, 1, 8, [.int .i64 0]⟩
  | 204 => ⟨.struct [(0, 3), (1, 3), (2, 203)], 3, 24, [.int .i64 0, .int .i64 0, .int .i64 0]⟩
  | 205 => ⟨.struct [(0, 3), (1, 3), (2, 203)], 3, 24, [.int .i64 0, .int .i64 0, .int .i64 0]⟩
  | _ => ⟨.other, 0, 0, []⟩

set_option maxRecDepth 100000 in
theorem ti_check : ((List.range 206).all fun t => tiCheck Try.prog t (ti t)) = true := by kernel_rfl

theorem tabOK : TabOK Try.prog ti := by
  intro t
  by_cases h : t < 206
  · exact tiOK_of_check (List.all_eq_true.1 ti_check t (List.mem_range.2 h))
  · left
    unfold ti
    split <;> first | rfl | exact absurd (by decide) h
end Go.Proofs.Ytfjjckaiopbbkaa
