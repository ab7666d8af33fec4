/-
  The table of this seat's types, by program.
-/
import Derived.Test.YtipcmpkihhfhcaaProg
import Derived.Test.YtipcmpkihhfhcaaAbsN
namespace Go.Proofs.Ytipcmpkihhfhcaa
open Go.Abs

@[go_sem] def ti : Nat → TI
  | 2 => ⟨.int .i64, 1, 8, [.int .i64 0]⟩
  | 3 => ⟨.int .i64, 1, 8, [.int .i64 0]⟩
  | 4 => ⟨.bool, 1, 1, [.bool false]⟩
  | 5 => ⟨.int .u8, 1, 1, [.int .u8 0]⟩
  | 6 => ⟨.int .u8, 1, 1, [.int .u8 0]⟩
  | 7 => ⟨.struct [(0, 2), (1, 3), (2, 4), (3, 6)], 4, 24, [.int .i64 0, .int .i64 0, .bool false, .int .u8 0]⟩
  | 8 => ⟨.struct [(0, 2), (1, 3), (2, 4), (3, 6)], 4, 24, [.int .i64 0, .int .i64 0, .bool false, .int .u8 0]⟩
  | 9 => ⟨.string, 1, 16, [.string ⟨#[]⟩]⟩
  | 10 => ⟨.string, 1, 16, [.string ⟨#[]⟩]⟩
  | 11 => ⟨.string, 1, 16, [.string ⟨#[]⟩]⟩
  | 12 => ⟨.int .u64, 1, 8, [.int .u64 0]⟩
  | 15 => ⟨.flat, 1, 8, [.pointer none]⟩
  | 16 => ⟨.flat, 1, 8, [.pointer none]⟩
  | 17 => ⟨.flat, 1, 8, [.pointer none]⟩
  | 21 => ⟨.int .i32, 1, 4, [.int .i32 0]⟩
  | 22 => ⟨.slice 70, 1, 24, [.slice none 0 0]⟩
  | 23 => ⟨.slice 43, 1, 24, [.slice none 0 0]⟩
  | 24 => ⟨.struct [(0, 22), (1, 23)], 2, 48, [.slice none 0 0, .slice none 0 0]⟩
  | 25 => ⟨.struct [(0, 22), (1, 23)], 2, 48, [.slice none 0 0, .slice none 0 0]⟩
  | 26 => ⟨.slice 9, 1, 24, [.slice none 0 0]⟩
  | 27 => ⟨.slice 29, 1, 24, [.slice none 0 0]⟩
  | 28 => ⟨.struct [(0, 3), (1, 2), (2, 9), (3, 3), (4, 26), (5, 27)], 6, 88, [.int .i64 0, .int .i64 0, .string ⟨#[]⟩, .int .i64 0, .slice none 0 0, .slice none 0 0]⟩
  | 29 => ⟨.struct [(0, 3), (1, 2), (2, 9), (3, 3), (4, 26), (5, 27)], 6, 88, [.int .i64 0, .int .i64 0, .string ⟨#[]⟩, .int .i64 0, .slice none 0 0, .slice none 0 0]⟩
  | 30 => ⟨.slice 63, 1, 24, [.slice none 0 0]⟩
  | 31 => ⟨.array 2 30, 2, 48, [.slice none 0 0, .slice none 0 0]⟩
  | 40 => ⟨.slice 59, 1, 24, [.slice none 0 0]⟩
  | 41 => ⟨.slice 46, 1, 24, [.slice none 0 0]⟩
  | 42 => ⟨.struct [(0, 9), (1, 40), (2, 40), (3, 40), (4, 41)], 5, 112, [.string ⟨#[]⟩, .slice none 0 0, .slice none 0 0, .slice none 0 0, .slice none 0 0]⟩
  | 43 => ⟨.struct [(0, 9), (1, 40), (2, 40), (3, 40), (4, 41)], 5, 112, [.string ⟨#[]⟩, .slice none 0 0, .slice none 0 0, .slice none 0 0, .slice none 0 0]⟩
  | 45 => ⟨.struct [(0, 26), (1, 29)], 7, 112, [.slice none 0 0, .int .i64 0, .int .i64 0, .string ⟨#[]⟩, .int .i64 0, .slice none 0 0, .slice none 0 0]⟩
  | 46 => ⟨.struct [(0, 26), (1, 29)], 7, 112, [.slice none 0 0, .int .i64 0, .int .i64 0, .string ⟨#[]⟩, .int .i64 0, .slice none 0 0, .slice none 0 0]⟩
  | 56 => ⟨.struct [(0, 3), (1, 3), (2, 3)], 3, 24, [.int .i64 0, .int .i64 0, .int .i64 0]⟩
  | 57 => ⟨.struct [(0, 3), (1, 3), (2, 3)], 3, 24, [.int .i64 0, .int .i64 0, .int .i64 0]⟩
  | 58 => ⟨.struct [(0, 9), (1, 57), (4, 9), (5, 9)], 6, 72, [.string ⟨#[]⟩, .int .i64 0, .int .i64 0, .int .i64 0, .string ⟨#[]⟩, .string ⟨#[]⟩]⟩
  | 59 => ⟨.struct [(0, 9), (1, 57), (4, 9), (5, 9)], 6, 72, [.string ⟨#[]⟩, .int .i64 0, .int .i64 0, .int .i64 0, .string ⟨#[]⟩, .string ⟨#[]⟩]⟩
  | 62 => ⟨.struct [(0, 9), (1, 2)], 2, 24, [.string ⟨#[]⟩, .int .i64 0]⟩
  | 63 => ⟨.struct [(0, 9), (1, 2)], 2, 24, [.string ⟨#[]⟩, .int .i64 0]⟩
  | 64 => ⟨.struct [(0, 25), (2, 3)], 3, 56, [.slice none 0 0, .slice none 0 0, .int .i64 0]⟩
  | 65 => ⟨.struct [(0, 25), (2, 3)], 3, 56, [.slice none 0 0, .slice none 0 0, .int .i64 0]⟩
  | 69 => ⟨.struct [(0, 9), (1, 26)], 2, 40, [.string ⟨#[]⟩, .slice none 0 0]⟩
  | 70 => ⟨.struct [(0, 9), (1, 26)], 2, 40, [.string ⟨#[]⟩, .slice none 0 0]⟩
  | 103 => ⟨.array 2 3, 2, 16, [.int .i64 0, .int .i64 0]⟩
  | 104 => ⟨.slice 40, 1, 24, [.slice none 0 0]⟩
  | 114 => ⟨.int .u32, 1, 4, [.int .u32 0]⟩
  | 115 => ⟨.int .u8, 1, 1, [.int .u8 0]⟩
  | 116 => ⟨.int .u8, 1, 1, [.int .u8 0]⟩
  | 118 => ⟨.flat, 1, 8, [.pointer none]⟩
  | 119 => ⟨.int .i32, 1, 4, [.int .i32 0]⟩
  | 120 => ⟨.int .i32, 1, 4, [.int .i32 0]⟩
  | 125 => ⟨.int .i64, 1, 8, [.int .i64 0]⟩
  | 126 => ⟨.struct [(0, 3), (1, 3), (2, 125)], 3, 24, [.int .i64 0, .int .i64 0, .int .i64 0]⟩
  | 127 => ⟨.struct [(0, 3), (1, 3), (2, 125)], 3, 24, [.int .i64 0, .int .i64 0, .int .i64 0]⟩
  | _ => ⟨.other, 0, 0, []⟩

set_option maxRecDepth 100000 in
theorem ti_check : ((List.range 128).all fun t => tiCheck Try.prog t (ti t)) = true := by kernel_rfl

theorem tabOK : TabOK Try.prog ti := by
  intro t
  by_cases h : t < 128
  · exact tiOK_of_check (List.all_eq_true.1 ti_check t (List.mem_range.2 h))
  · left
    unfold ti
    split <;> first | rfl | exact absurd (by decide) h
end Go.Proofs.Ytipcmpkihhfhcaa
