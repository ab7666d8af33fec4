/-
  The table of this seat's types, by program.
-/
import Derived.Test.YtipcmpkihhfhcaaDoorProg
import Derived.Test.YtipcmpkihhfhcaaDoorAbsN
namespace Go.Proofs.YtipcmpkihhfhcaaDoor
open Go.Abs

@[go_sem] def ti : Nat → TI
  | 1 => ⟨.func, 1, 8, [.nilFunc]⟩
  | 2 => ⟨.int .i64, 1, 8, [.int .i64 0]⟩
  | 3 => ⟨.int .i64, 1, 8, [.int .i64 0]⟩
  | 4 => ⟨.bool, 1, 1, [.bool false]⟩
  | 5 => ⟨.int .u8, 1, 1, [.int .u8 0]⟩
  | 6 => ⟨.int .u8, 1, 1, [.int .u8 0]⟩
  | 7 => ⟨.struct [(0, 2), (1, 3), (2, 4), (3, 6)], 4, 24, [.int .i64 0, .int .i64 0, .bool false, .int .u8 0]⟩
  | 8 => ⟨.struct [(0, 2), (1, 3), (2, 4), (3, 6)], 4, 24, [.int .i64 0, .int .i64 0, .bool false, .int .u8 0]⟩
  | 9 => ⟨.string, 1, 16, [.string ⟨#[]⟩]⟩
  | 10 => ⟨.string, 1, 16, [.string ⟨#[]⟩]⟩
  | 11 => ⟨.string, 1, 16, [.string ⟨#[]⟩]⟩
  | 12 => ⟨.int .u64, 1, 8, [.int .u64 0]⟩
  | 15 => ⟨.flat, 1, 8, [.pointer none]⟩
  | 16 => ⟨.flat, 1, 8, [.pointer none]⟩
  | 17 => ⟨.flat, 1, 8, [.pointer none]⟩
  | 21 => ⟨.int .i32, 1, 4, [.int .i32 0]⟩
  | 22 => ⟨.slice 9, 1, 24, [.slice none 0 0]⟩
  | 23 => ⟨.slice 25, 1, 24, [.slice none 0 0]⟩
  | 24 => ⟨.struct [(0, 3), (1, 2), (2, 9), (3, 3), (4, 22), (5, 23)], 6, 88, [.int .i64 0, .int .i64 0, .string ⟨#[]⟩, .int .i64 0, .slice none 0 0, .slice none 0 0]⟩
  | 25 => ⟨.struct [(0, 3), (1, 2), (2, 9), (3, 3), (4, 22), (5, 23)], 6, 88, [.int .i64 0, .int .i64 0, .string ⟨#[]⟩, .int .i64 0, .slice none 0 0, .slice none 0 0]⟩
  | 26 => ⟨.func, 1, 8, [.nilFunc]⟩
  | 27 => ⟨.func, 1, 8, [.nilFunc]⟩
  | 28 => ⟨.func, 1, 8, [.nilFunc]⟩
  | 29 => ⟨.func, 1, 8, [.nilFunc]⟩
  | 30 => ⟨.func, 1, 8, [.nilFunc]⟩
  | 31 => ⟨.func, 1, 8, [.nilFunc]⟩
  | 32 => ⟨.func, 1, 8, [.nilFunc]⟩
  | 33 => ⟨.func, 1, 8, [.nilFunc]⟩
  | 34 => ⟨.slice 47, 1, 24, [.slice none 0 0]⟩
  | 35 => ⟨.func, 1, 8, [.nilFunc]⟩
  | 36 => ⟨.struct [(0, 3), (1, 3), (2, 3)], 3, 24, [.int .i64 0, .int .i64 0, .int .i64 0]⟩
  | 37 => ⟨.struct [(0, 3), (1, 3), (2, 3)], 3, 24, [.int .i64 0, .int .i64 0, .int .i64 0]⟩
  | 39 => ⟨.func, 1, 8, [.nilFunc]⟩
  | 40 => ⟨.func, 1, 8, [.nilFunc]⟩
  | 41 => ⟨.func, 1, 8, [.nilFunc]⟩
  | 42 => ⟨.func, 1, 8, [.nilFunc]⟩
  | 43 => ⟨.func, 1, 8, [.nilFunc]⟩
  | 44 => ⟨.func, 1, 8, [.nilFunc]⟩
  | 45 => ⟨.func, 1, 8, [.nilFunc]⟩
  | 46 => ⟨.struct [(0, 9), (1, 22)], 2, 40, [.string ⟨#[]⟩, .slice none 0 0]⟩
  | 47 => ⟨.struct [(0, 9), (1, 22)], 2, 40, [.string ⟨#[]⟩, .slice none 0 0]⟩
  | 48 => ⟨.struct [(0, 9), (1, 37), (4, 9), (5, 9)], 6, 72, [.string ⟨#[]⟩, .int .i64 0, .int .i64 0, .int .i64 0, .string ⟨#[]⟩, .string ⟨#[]⟩]⟩
  | 49 => ⟨.struct [(0, 9), (1, 37), (4, 9), (5, 9)], 6, 72, [.string ⟨#[]⟩, .int .i64 0, .int .i64 0, .int .i64 0, .string ⟨#[]⟩, .string ⟨#[]⟩]⟩
  | 50 => ⟨.slice 49, 1, 24, [.slice none 0 0]⟩
  | 51 => ⟨.struct [(0, 22), (1, 25)], 7, 112, [.slice none 0 0, .int .i64 0, .int .i64 0, .string ⟨#[]⟩, .int .i64 0, .slice none 0 0, .slice none 0 0]⟩
  | 52 => ⟨.struct [(0, 22), (1, 25)], 7, 112, [.slice none 0 0, .int .i64 0, .int .i64 0, .string ⟨#[]⟩, .int .i64 0, .slice none 0 0, .slice none 0 0]⟩
  | 53 => ⟨.slice 52, 1, 24, [.slice none 0 0]⟩
  | 54 => ⟨.struct [(0, 9), (1, 50), (2, 50), (3, 50), (4, 53)], 5, 112, [.string ⟨#[]⟩, .slice none 0 0, .slice none 0 0, .slice none 0 0, .slice none 0 0]⟩
  | 55 => ⟨.struct [(0, 9), (1, 50), (2, 50), (3, 50), (4, 53)], 5, 112, [.string ⟨#[]⟩, .slice none 0 0, .slice none 0 0, .slice none 0 0, .slice none 0 0]⟩
  | 56 => ⟨.int .i64, 1, 8, [.int .i64 0]⟩
  | 57 => ⟨.struct [(0, 3), (1, 3), (2, 56)], 3, 24, [.int .i64 0, .int .i64 0, .int .i64 0]⟩
  | 58 => ⟨.struct [(0, 3), (1, 3), (2, 56)], 3, 24, [.int .i64 0, .int .i64 0, .int .i64 0]⟩
  | 59 => ⟨.func, 1, 8, [.nilFunc]⟩
  | 60 => ⟨.slice 55, 1, 24, [.slice none 0 0]⟩
  | 61 => ⟨.struct [(0, 34), (1, 60)], 2, 48, [.slice none 0 0, .slice none 0 0]⟩
  | 62 => ⟨.struct [(0, 34), (1, 60)], 2, 48, [.slice none 0 0, .slice none 0 0]⟩
  | 63 => ⟨.func, 1, 8, [.nilFunc]⟩
  | 65 => ⟨.func, 1, 8, [.nilFunc]⟩
  | 66 => ⟨.struct [(0, 4), (1, 4), (2, 4), (3, 3), (4, 3), (5, 3)], 6, 32, [.bool false, .bool false, .bool false, .int .i64 0, .int .i64 0, .int .i64 0]⟩
  | 67 => ⟨.struct [(0, 4), (1, 4), (2, 4), (3, 3), (4, 3), (5, 3)], 6, 32, [.bool false, .bool false, .bool false, .int .i64 0, .int .i64 0, .int .i64 0]⟩
  | 69 => ⟨.func, 1, 8, [.nilFunc]⟩
  | 70 => ⟨.func, 1, 8, [.nilFunc]⟩
  | 71 => ⟨.func, 1, 8, [.nilFunc]⟩
  | 72 => ⟨.func, 1, 8, [.nilFunc]⟩
  | 73 => ⟨.func, 1, 8, [.nilFunc]⟩
  | 74 => ⟨.flat, 1, 8, [.pointer none]⟩
  | 75 => ⟨.func, 1, 8, [.nilFunc]⟩
  | 76 => ⟨.func, 1, 8, [.nilFunc]⟩
  | 77 => ⟨.func, 1, 8, [.nilFunc]⟩
  | 78 => ⟨.func, 1, 8, [.nilFunc]⟩
  | 79 => ⟨.func, 1, 8, [.nilFunc]⟩
  | 80 => ⟨.array 2 3, 2, 16, [.int .i64 0, .int .i64 0]⟩
  | 81 => ⟨.func, 1, 8, [.nilFunc]⟩
  | 82 => ⟨.func, 1, 8, [.nilFunc]⟩
  | 83 => ⟨.map 9 3, 1, 8, [.map none]⟩
  | 84 => ⟨.func, 1, 8, [.nilFunc]⟩
  | 85 => ⟨.func, 1, 8, [.nilFunc]⟩
  | 86 => ⟨.func, 1, 8, [.nilFunc]⟩
  | 87 => ⟨.func, 1, 8, [.nilFunc]⟩
  | 88 => ⟨.func, 1, 8, [.nilFunc]⟩
  | 89 => ⟨.func, 1, 8, [.nilFunc]⟩
  | 90 => ⟨.struct [(0, 62), (2, 3), (3, 83)], 4, 64, [.slice none 0 0, .slice none 0 0, .int .i64 0, .map none]⟩
  | 91 => ⟨.struct [(0, 62), (2, 3), (3, 83)], 4, 64, [.slice none 0 0, .slice none 0 0, .int .i64 0, .map none]⟩
  | 92 => ⟨.func, 1, 8, [.nilFunc]⟩
  | 93 => ⟨.func, 1, 8, [.nilFunc]⟩
  | 94 => ⟨.func, 1, 8, [.nilFunc]⟩
  | 95 => ⟨.func, 1, 8, [.nilFunc]⟩
  | 96 => ⟨.func, 1, 8, [.nilFunc]⟩
  | 97 => ⟨.func, 1, 8, [.nilFunc]⟩
  | 98 => ⟨.func, 1, 8, [.nilFunc]⟩
  | 99 => ⟨.func, 1, 8, [.nilFunc]⟩
  | 100 => ⟨.func, 1, 8, [.nilFunc]⟩
  | 101 => ⟨.func, 1, 8, [.nilFunc]⟩
  | 102 => ⟨.func, 1, 8, [.nilFunc]⟩
  | 103 => ⟨.func, 1, 8, [.nilFunc]⟩
  | 104 => ⟨.func, 1, 8, [.nilFunc]⟩
  | 105 => ⟨.slice 50, 1, 24, [.slice none 0 0]⟩
  | 106 => ⟨.func, 1, 8, [.nilFunc]⟩
  | 107 => ⟨.func, 1, 8, [.nilFunc]⟩
  | 108 => ⟨.func, 1, 8, [.nilFunc]⟩
  | 109 => ⟨.func, 1, 8, [.nilFunc]⟩
  | 110 => ⟨.func, 1, 8, [.nilFunc]⟩
  | 111 => ⟨.func, 1, 8, [.nilFunc]⟩
  | 112 => ⟨.func, 1, 8, [.nilFunc]⟩
  | 113 => ⟨.func, 1, 8, [.nilFunc]⟩
  | 114 => ⟨.func, 1, 8, [.nilFunc]⟩
  | 115 => ⟨.func, 1, 8, [.nilFunc]⟩
  | 117 => ⟨.func, 1, 8, [.nilFunc]⟩
  | 118 => ⟨.func, 1, 8, [.nilFunc]⟩
  | 119 => ⟨.func, 1, 8, [.nilFunc]⟩
  | 120 => ⟨.func, 1, 8, [.nilFunc]⟩
  | 121 => ⟨.func, 1, 8, [.nilFunc]⟩
  | 123 => ⟨.func, 1, 8, [.nilFunc]⟩
  | 124 => ⟨.func, 1, 8, [.nilFunc]⟩
  | 125 => ⟨.func, 1, 8, [.nilFunc]⟩
  | 126 => ⟨.int .u64, 1, 8, [.int .u64 0]⟩
  | 128 => ⟨.struct [(0, 5), (1, 5)], 2, 2, [.int .u8 0, .int .u8 0]⟩
  | 129 => ⟨.struct [(0, 5), (1, 5)], 2, 2, [.int .u8 0, .int .u8 0]⟩
  | 130 => ⟨.array 16 129, 32, 32, [.int .u8 0, .int .u8 0, .int .u8 0, .int .u8 0, .int .u8 0, .int .u8 0, .int .u8 0, .int .u8 0, .int .u8 0, .int .u8 0, .int .u8 0, .int .u8 0, .int .u8 0, .int .u8 0, .int .u8 0, .int .u8 0, .int .u8 0, .int .u8 0, .int .u8 0, .int .u8 0, .int .u8 0, .int .u8 0, .int .u8 0, .int .u8 0, .int .u8 0, .int .u8 0, .int .u8 0, .int .u8 0, .int .u8 0, .int .u8 0, .int .u8 0, .int .u8 0]⟩
  | 131 => ⟨.int .u32, 1, 4, [.int .u32 0]⟩
  | 133 => ⟨.func, 1, 8, [.nilFunc]⟩
  | 134 => ⟨.func, 1, 8, [.nilFunc]⟩
  | 140 => ⟨.func, 1, 8, [.nilFunc]⟩
  | 141 => ⟨.int .u8, 1, 1, [.int .u8 0]⟩
  | 142 => ⟨.int .u8, 1, 1, [.int .u8 0]⟩
  | 143 => ⟨.func, 1, 8, [.nilFunc]⟩
  | 144 => ⟨.flat, 1, 8, [.pointer none]⟩
  | 145 => ⟨.int .i32, 1, 4, [.int .i32 0]⟩
  | 146 => ⟨.int .i32, 1, 4, [.int .i32 0]⟩
  | _ => ⟨.other, 0, 0, []⟩

set_option maxRecDepth 100000 in
theorem ti_check : ((List.range 150).all fun t => tiCheck Tryd.prog t (ti t)) = true := by kernel_rfl

theorem tabOK : TabOK Tryd.prog ti := by
  intro t
  by_cases h : t < 150
  · exact tiOK_of_check (List.all_eq_true.1 ti_check t (List.mem_range.2 h))
  · left
    unfold ti
    split <;> first | rfl | exact absurd (by decide) h
end Go.Proofs.YtipcmpkihhfhcaaDoor
