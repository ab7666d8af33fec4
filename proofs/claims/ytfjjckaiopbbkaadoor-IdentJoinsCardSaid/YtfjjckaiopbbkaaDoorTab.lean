/-
  The table of this seat's types, by program.
-/
import Derived.Test.YtfjjckaiopbbkaaDoorProg
import Derived.Test.YtfjjckaiopbbkaaDoorAbsN
namespace Go.Proofs.YtfjjckaiopbbkaaDoor
open Go.Abs

@[go_sem] def ti : Nat → TI
  | 2 => ⟨.int .i64, 1, 8, [.int .i64 0]⟩
  | 3 => ⟨.int .i64, 1, 8, [.int .i64 0]⟩
  | 4 => ⟨.bool, 1, 1, [.bool false]⟩
  | 5 => ⟨.int .u8, 1, 1, [.int .u8 0]⟩
  | 6 => ⟨.int .u8, 1, 1, [.int .u8 0]⟩
  | 7 => ⟨.struct [(0, 2), (1, 3), (2, 4), (3, 6)], 4, 24, [.int .i64 0, .int .i64 0, .bool false, .int .u8 0]⟩
  | 8 => ⟨.struct [(0, 2), (1, 3), (2, 4), (3, 6)], 4, 24, [.int .i64 0, .int .i64 0, .bool false, .int .u8 0]⟩
  | 9 => ⟨.string, 1, 16, [.string ⟨#[]⟩]⟩
  | 10 => ⟨.string, 1, 16, [.string ⟨#[]⟩]⟩
  | 11 => ⟨.string, 1, 16, [.string ⟨#[]⟩]⟩
  | 12 => ⟨.int .u64, 1, 8, [.int .u64 0]⟩
  | 15 => ⟨.flat, 1, 8, [.pointer none]⟩
  | 16 => ⟨.flat, 1, 8, [.pointer none]⟩
  | 17 => ⟨.flat, 1, 8, [.pointer none]⟩
  | 21 => ⟨.int .i32, 1, 4, [.int .i32 0]⟩
  | 28 => ⟨.slice 9, 1, 24, [.slice none 0 0]⟩
  | 42 => ⟨.int .u64, 1, 8, [.int .u64 0]⟩
  | 44 => ⟨.struct [(0, 5), (1, 5)], 2, 2, [.int .u8 0, .int .u8 0]⟩
  | 45 => ⟨.struct [(0, 5), (1, 5)], 2, 2, [.int .u8 0, .int .u8 0]⟩
  | 46 => ⟨.array 16 45, 32, 32, [.int .u8 0, .int .u8 0, .int .u8 0, .int .u8 0, .int .u8 0, .int .u8 0, .int .u8 0, .int .u8 0, .int .u8 0, .int .u8 0, .int .u8 0, .int .u8 0, .int .u8 0, .int .u8 0, .int .u8 0, .int .u8 0, .int .u8 0, .int .u8 0, .int .u8 0, .int .u8 0, .int .u8 0, .int .u8 0, .int .u8 0, .int .u8 0, .int .u8 0, .int .u8 0, .int .u8 0, .int .u8 0, .int .u8 0, .int .u8 0, .int .u8 0, .int .u8 0]⟩
  | 47 => ⟨.int .u32, 1, 4, [.int .u32 0]⟩
  | 57 => ⟨.int .u8, 1, 1, [.int .u8 0]⟩
  | 58 => ⟨.int .u8, 1, 1, [.int .u8 0]⟩
  | 60 => ⟨.flat, 1, 8, [.pointer none]⟩
  | 61 => ⟨.int .i32, 1, 4, [.int .i32 0]⟩
  | 62 => ⟨.int .i32, 1, 4, [.int .i32 0]⟩
  | _ => ⟨.other, 0, 0, []⟩

set_option maxRecDepth 100000 in
theorem ti_check : ((List.range 66).all fun t => tiCheck Tryd.prog t (ti t)) = true := by kernel_rfl

theorem tabOK : TabOK Tryd.prog ti := by
  intro t
  by_cases h : t < 66
  · exact tiOK_of_check (List.all_eq_true.1 ti_check t (List.mem_range.2 h))
  · left
    unfold ti
    split <;> first | rfl | exact absurd (by decide) h
end Go.Proofs.YtfjjckaiopbbkaaDoor
