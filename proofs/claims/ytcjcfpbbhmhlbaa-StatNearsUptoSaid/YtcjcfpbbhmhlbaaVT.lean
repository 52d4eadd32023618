/- Written by a program of this session for this claim: what the program's types are. -/
import Derived.Test.YtcjcfpbbhmhlbaaV27
import Derived.Test.YtcjcfpbbhmhlbaaProg
import Derived.KernelRfl
set_option linter.unusedVariables false
set_option linter.unusedSimpArgs false
namespace Go.Vc
open Go.Proofs

def tab : Tab
  | 2 => ⟨.int .i64, 1, 8, [.int .i64 0], some (eInt .i64)⟩
  | 3 => ⟨.int .i64, 1, 8, [.int .i64 0], some (eInt .i64)⟩
  | 4 => ⟨.bool, 1, 1, [.bool false], some eBool⟩
  | 5 => ⟨.int .u8, 1, 1, [.int .u8 0], some (eInt .u8)⟩
  | 9 => ⟨.str, 1, 16, [.str ⟨#[]⟩], some eStr⟩
  | 12 => ⟨.int .u64, 1, 8, [.int .u64 0], some (eInt .u64)⟩
  | 15 => ⟨.ptr 126, 1, 8, [.raw (.pointer none)], none⟩
  | 16 => ⟨.ptr 129, 1, 8, [.raw (.pointer none)], none⟩
  | 17 => ⟨.ptr 138, 1, 8, [.raw (.pointer none)], none⟩
  | 21 => ⟨.int .i32, 1, 4, [.int .i32 0], some (eInt .i32)⟩
  | 22 => ⟨.slice 5, 1, 24, [.nil], some (eList 1 (eInt .u8))⟩
  | 23 => ⟨.slice 22, 1, 24, [.nil], some (eList 1 (eList 1 (eInt .u8)))⟩
  | 24 => ⟨.slice 27, 1, 24, [.nil], some (eList 2 (ePair eStr (eList 1 (eInt .i64))))⟩
  | 25 => ⟨.slice 3, 1, 24, [.nil], some (eList 1 (eInt .i64))⟩
  | 26 => ⟨.struct [(0, 9), (1, 25)], 2, 40, [.str ⟨#[]⟩, .nil], some (ePair eStr (eList 1 (eInt .i64)))⟩
  | 27 => ⟨.struct [(0, 9), (1, 25)], 2, 40, [.str ⟨#[]⟩, .nil], some (ePair eStr (eList 1 (eInt .i64)))⟩
  | 28 => ⟨.int .i64, 1, 8, [.int .i64 0], some (eInt .i64)⟩
  | 35 => ⟨.func, 1, 8, [.raw .nilFunc], none⟩
  | 39 => ⟨.slice 40, 1, 24, [.nil], some (eList 2 (ePair (eInt .i64) (eInt .i64)))⟩
  | 40 => ⟨.array 2 3, 2, 16, [.int .i64 0, .int .i64 0], some (ePair (eInt .i64) (eInt .i64))⟩
  | 41 => ⟨.map 3 4, 1, 8, [.raw (.map none)], none⟩
  | 46 => ⟨.slice 25, 1, 24, [.nil], some (eList 1 (eList 1 (eInt .i64)))⟩
  | 50 => ⟨.func, 1, 8, [.raw .nilFunc], none⟩
  | 62 => ⟨.slice 64, 1, 24, [.nil], some (eList 3 (ePair (eInt .i64) (ePair (eInt .i64) (eInt .i64))))⟩
  | 63 => ⟨.struct [(0, 3), (1, 3), (2, 3)], 3, 24, [.int .i64 0, .int .i64 0, .int .i64 0], some (ePair (eInt .i64) (ePair (eInt .i64) (eInt .i64)))⟩
  | 64 => ⟨.struct [(0, 3), (1, 3), (2, 3)], 3, 24, [.int .i64 0, .int .i64 0, .int .i64 0], some (ePair (eInt .i64) (ePair (eInt .i64) (eInt .i64)))⟩
  | 67 => ⟨.func, 1, 8, [.raw .nilFunc], none⟩
  | 70 => ⟨.slice 80, 1, 24, [.nil], some (eList 1 (eInt .u64))⟩
  | 73 => ⟨.slice 74, 1, 24, [.nil], some (eList 1 (eList 1 eStr))⟩
  | 74 => ⟨.slice 9, 1, 24, [.nil], some (eList 1 eStr)⟩
  | 78 => ⟨.map 9 4, 1, 8, [.raw (.map none)], none⟩
  | 80 => ⟨.int .u64, 1, 8, [.int .u64 0], some (eInt .u64)⟩
  | 94 => ⟨.int .u64, 1, 8, [.int .u64 0], some (eInt .u64)⟩
  | 103 => ⟨.int .u32, 1, 4, [.int .u32 0], some (eInt .u32)⟩
  | 107 => ⟨.int .i64, 1, 8, [.int .i64 0], some (eInt .i64)⟩
  | 116 => ⟨.int .u64, 1, 8, [.int .u64 0], some (eInt .u64)⟩
  | 120 => ⟨.ptr 3, 1, 8, [.raw (.pointer none)], none⟩
  | 122 => ⟨.ptr 116, 1, 8, [.raw (.pointer none)], none⟩
  | 134 => ⟨.ptr 5, 1, 8, [.raw (.pointer none)], none⟩
  | _ => ⟨.none, 0, 0, [], none⟩

theorem tab_2 : tab 2 = ⟨.int .i64, 1, 8, [.int .i64 0], some (eInt .i64)⟩ := rfl
theorem tab_3 : tab 3 = ⟨.int .i64, 1, 8, [.int .i64 0], some (eInt .i64)⟩ := rfl
theorem tab_4 : tab 4 = ⟨.bool, 1, 1, [.bool false], some eBool⟩ := rfl
theorem tab_5 : tab 5 = ⟨.int .u8, 1, 1, [.int .u8 0], some (eInt .u8)⟩ := rfl
theorem tab_9 : tab 9 = ⟨.str, 1, 16, [.str ⟨#[]⟩], some eStr⟩ := rfl
theorem tab_12 : tab 12 = ⟨.int .u64, 1, 8, [.int .u64 0], some (eInt .u64)⟩ := rfl
theorem tab_15 : tab 15 = ⟨.ptr 126, 1, 8, [.raw (.pointer none)], none⟩ := rfl
theorem tab_16 : tab 16 = ⟨.ptr 129, 1, 8, [.raw (.pointer none)], none⟩ := rfl
theorem tab_17 : tab 17 = ⟨.ptr 138, 1, 8, [.raw (.pointer none)], none⟩ := rfl
theorem tab_21 : tab 21 = ⟨.int .i32, 1, 4, [.int .i32 0], some (eInt .i32)⟩ := rfl
theorem tab_22 : tab 22 = ⟨.slice 5, 1, 24, [.nil], some (eList 1 (eInt .u8))⟩ := rfl
theorem tab_23 : tab 23 = ⟨.slice 22, 1, 24, [.nil], some (eList 1 (eList 1 (eInt .u8)))⟩ := rfl
theorem tab_24 : tab 24 = ⟨.slice 27, 1, 24, [.nil], some (eList 2 (ePair eStr (eList 1 (eInt .i64))))⟩ := rfl
theorem tab_25 : tab 25 = ⟨.slice 3, 1, 24, [.nil], some (eList 1 (eInt .i64))⟩ := rfl
theorem tab_26 : tab 26 = ⟨.struct [(0, 9), (1, 25)], 2, 40, [.str ⟨#[]⟩, .nil], some (ePair eStr (eList 1 (eInt .i64)))⟩ := rfl
theorem tab_27 : tab 27 = ⟨.struct [(0, 9), (1, 25)], 2, 40, [.str ⟨#[]⟩, .nil], some (ePair eStr (eList 1 (eInt .i64)))⟩ := rfl
theorem tab_28 : tab 28 = ⟨.int .i64, 1, 8, [.int .i64 0], some (eInt .i64)⟩ := rfl
theorem tab_35 : tab 35 = ⟨.func, 1, 8, [.raw .nilFunc], none⟩ := rfl
theorem tab_39 : tab 39 = ⟨.slice 40, 1, 24, [.nil], some (eList 2 (ePair (eInt .i64) (eInt .i64)))⟩ := rfl
theorem tab_40 : tab 40 = ⟨.array 2 3, 2, 16, [.int .i64 0, .int .i64 0], some (ePair (eInt .i64) (eInt .i64))⟩ := rfl
theorem tab_41 : tab 41 = ⟨.map 3 4, 1, 8, [.raw (.map none)], none⟩ := rfl
theorem tab_46 : tab 46 = ⟨.slice 25, 1, 24, [.nil], some (eList 1 (eList 1 (eInt .i64)))⟩ := rfl
theorem tab_50 : tab 50 = ⟨.func, 1, 8, [.raw .nilFunc], none⟩ := rfl
theorem tab_62 : tab 62 = ⟨.slice 64, 1, 24, [.nil], some (eList 3 (ePair (eInt .i64) (ePair (eInt .i64) (eInt .i64))))⟩ := rfl
theorem tab_63 : tab 63 = ⟨.struct [(0, 3), (1, 3), (2, 3)], 3, 24, [.int .i64 0, .int .i64 0, .int .i64 0], some (ePair (eInt .i64) (ePair (eInt .i64) (eInt .i64)))⟩ := rfl
theorem tab_64 : tab 64 = ⟨.struct [(0, 3), (1, 3), (2, 3)], 3, 24, [.int .i64 0, .int .i64 0, .int .i64 0], some (ePair (eInt .i64) (ePair (eInt .i64) (eInt .i64)))⟩ := rfl
theorem tab_67 : tab 67 = ⟨.func, 1, 8, [.raw .nilFunc], none⟩ := rfl
theorem tab_70 : tab 70 = ⟨.slice 80, 1, 24, [.nil], some (eList 1 (eInt .u64))⟩ := rfl
theorem tab_73 : tab 73 = ⟨.slice 74, 1, 24, [.nil], some (eList 1 (eList 1 eStr))⟩ := rfl
theorem tab_74 : tab 74 = ⟨.slice 9, 1, 24, [.nil], some (eList 1 eStr)⟩ := rfl
theorem tab_78 : tab 78 = ⟨.map 9 4, 1, 8, [.raw (.map none)], none⟩ := rfl
theorem tab_80 : tab 80 = ⟨.int .u64, 1, 8, [.int .u64 0], some (eInt .u64)⟩ := rfl
theorem tab_94 : tab 94 = ⟨.int .u64, 1, 8, [.int .u64 0], some (eInt .u64)⟩ := rfl
theorem tab_103 : tab 103 = ⟨.int .u32, 1, 4, [.int .u32 0], some (eInt .u32)⟩ := rfl
theorem tab_107 : tab 107 = ⟨.int .i64, 1, 8, [.int .i64 0], some (eInt .i64)⟩ := rfl
theorem tab_116 : tab 116 = ⟨.int .u64, 1, 8, [.int .u64 0], some (eInt .u64)⟩ := rfl
theorem tab_120 : tab 120 = ⟨.ptr 3, 1, 8, [.raw (.pointer none)], none⟩ := rfl
theorem tab_122 : tab 122 = ⟨.ptr 116, 1, 8, [.raw (.pointer none)], none⟩ := rfl
theorem tab_134 : tab 134 = ⟨.ptr 5, 1, 8, [.raw (.pointer none)], none⟩ := rfl
theorem tok_2 : TOK Try.prog 2 (tab 2) := ⟨Try.underlying2, fun _ => ⟨((Try.prog.info? 2).getD default), (((Try.prog.info? 2).getD default).zero).getD undef, by kernel_rfl, by kernel_rfl, by kernel_rfl, by kernel_rfl, by kernel_rfl, by kernel_rfl, by kernel_rfl⟩, ⟨((Try.prog.info? 2).getD default), by kernel_rfl, by kernel_rfl⟩, ⟨_, Try.underlying2, rfl⟩, by simp [tab, TI.isAgg], fun _ => ⟨((Try.prog.info? 2).getD default), (((Try.prog.info? 2).getD default).zero).getD undef, by kernel_rfl, by kernel_rfl, by kernel_rfl⟩, fun E h => by cases h; exact ⟨fun x => by simp [eInt, eBool, eStr, eList, ePair, tab], ⟨_, rfl, by simp [leD, leD1, eInt, eBool, eStr, eList, ePair]⟩⟩⟩
theorem tok_3 : TOK Try.prog 3 (tab 3) := ⟨Try.underlying3, fun _ => ⟨((Try.prog.info? 3).getD default), (((Try.prog.info? 3).getD default).zero).getD undef, by kernel_rfl, by kernel_rfl, by kernel_rfl, by kernel_rfl, by kernel_rfl, by kernel_rfl, by kernel_rfl⟩, ⟨((Try.prog.info? 3).getD default), by kernel_rfl, by kernel_rfl⟩, ⟨_, Try.underlying3, rfl⟩, by simp [tab, TI.isAgg], fun _ => ⟨((Try.prog.info? 3).getD default), (((Try.prog.info? 3).getD default).zero).getD undef, by kernel_rfl, by kernel_rfl, by kernel_rfl⟩, fun E h => by cases h; exact ⟨fun x => by simp [eInt, eBool, eStr, eList, ePair, tab], ⟨_, rfl, by simp [leD, leD1, eInt, eBool, eStr, eList, ePair]⟩⟩⟩
theorem tok_4 : TOK Try.prog 4 (tab 4) := ⟨Try.underlying4, fun _ => ⟨((Try.prog.info? 4).getD default), (((Try.prog.info? 4).getD default).zero).getD undef, by kernel_rfl, by kernel_rfl, by kernel_rfl, by kernel_rfl, by kernel_rfl, by kernel_rfl, by kernel_rfl⟩, ⟨((Try.prog.info? 4).getD default), by kernel_rfl, by kernel_rfl⟩, ⟨_, Try.underlying4, rfl⟩, by simp [tab, TI.isAgg], fun _ => ⟨((Try.prog.info? 4).getD default), (((Try.prog.info? 4).getD default).zero).getD undef, by kernel_rfl, by kernel_rfl, by kernel_rfl⟩, fun E h => by cases h; exact ⟨fun x => by simp [eInt, eBool, eStr, eList, ePair, tab], ⟨_, rfl, by simp [leD, leD1, eInt, eBool, eStr, eList, ePair]⟩⟩⟩
theorem tok_5 : TOK Try.prog 5 (tab 5) := ⟨Try.underlying5, fun _ => ⟨((Try.prog.info? 5).getD default), (((Try.prog.info? 5).getD default).zero).getD undef, by kernel_rfl, by kernel_rfl, by kernel_rfl, by kernel_rfl, by kernel_rfl, by kernel_rfl, by kernel_rfl⟩, ⟨((Try.prog.info? 5).getD default), by kernel_rfl, by kernel_rfl⟩, ⟨_, Try.underlying5, rfl⟩, by simp [tab, TI.isAgg], fun _ => ⟨((Try.prog.info? 5).getD default), (((Try.prog.info? 5).getD default).zero).getD undef, by kernel_rfl, by kernel_rfl, by kernel_rfl⟩, fun E h => by cases h; exact ⟨fun x => by simp [eInt, eBool, eStr, eList, ePair, tab], ⟨_, rfl, by simp [leD, leD1, eInt, eBool, eStr, eList, ePair]⟩⟩⟩
theorem tok_9 : TOK Try.prog 9 (tab 9) := ⟨Try.underlying9, fun _ => ⟨((Try.prog.info? 9).getD default), (((Try.prog.info? 9).getD default).zero).getD undef, by kernel_rfl, by kernel_rfl, by kernel_rfl, by kernel_rfl, by kernel_rfl, by kernel_rfl, by kernel_rfl⟩, ⟨((Try.prog.info? 9).getD default), by kernel_rfl, by kernel_rfl⟩, ⟨_, Try.underlying9, rfl⟩, by simp [tab, TI.isAgg], fun _ => ⟨((Try.prog.info? 9).getD default), (((Try.prog.info? 9).getD default).zero).getD undef, by kernel_rfl, by kernel_rfl, by kernel_rfl⟩, fun E h => by cases h; exact ⟨fun x => by simp [eInt, eBool, eStr, eList, ePair, tab], ⟨_, rfl, by simp [leD, leD1, eInt, eBool, eStr, eList, ePair]⟩⟩⟩
theorem tok_12 : TOK Try.prog 12 (tab 12) := ⟨Try.underlying12, fun _ => ⟨((Try.prog.info? 12).getD default), (((Try.prog.info? 12).getD default).zero).getD undef, by kernel_rfl, by kernel_rfl, by kernel_rfl, by kernel_rfl, by kernel_rfl, by kernel_rfl, by kernel_rfl⟩, ⟨((Try.prog.info? 12).getD default), by kernel_rfl, by kernel_rfl⟩, ⟨_, Try.underlying12, rfl⟩, by simp [tab, TI.isAgg], fun _ => ⟨((Try.prog.info? 12).getD default), (((Try.prog.info? 12).getD default).zero).getD undef, by kernel_rfl, by kernel_rfl, by kernel_rfl⟩, fun E h => by cases h; exact ⟨fun x => by simp [eInt, eBool, eStr, eList, ePair, tab], ⟨_, rfl, by simp [leD, leD1, eInt, eBool, eStr, eList, ePair]⟩⟩⟩
theorem tok_15 : TOK Try.prog 15 (tab 15) := ⟨Try.underlying15, fun _ => ⟨((Try.prog.info? 15).getD default), (((Try.prog.info? 15).getD default).zero).getD undef, by kernel_rfl, by kernel_rfl, by kernel_rfl, by kernel_rfl, by kernel_rfl, by kernel_rfl, by kernel_rfl⟩, ⟨((Try.prog.info? 15).getD default), by kernel_rfl, by kernel_rfl⟩, ⟨_, Try.underlying15, rfl⟩, by simp [tab, TI.isAgg], fun _ => ⟨((Try.prog.info? 15).getD default), (((Try.prog.info? 15).getD default).zero).getD undef, by kernel_rfl, by kernel_rfl, by kernel_rfl⟩, fun E h => by cases h⟩
theorem tok_16 : TOK Try.prog 16 (tab 16) := ⟨Try.underlying16, fun _ => ⟨((Try.prog.info? 16).getD default), (((Try.prog.info? 16).getD default).zero).getD undef, by kernel_rfl, by kernel_rfl, by kernel_rfl, by kernel_rfl, by kernel_rfl, by kernel_rfl, by kernel_rfl⟩, ⟨((Try.prog.info? 16).getD default), by kernel_rfl, by kernel_rfl⟩, ⟨_, Try.underlying16, rfl⟩, by simp [tab, TI.isAgg], fun _ => ⟨((Try.prog.info? 16).getD default), (((Try.prog.info? 16).getD default).zero).getD undef, by kernel_rfl, by kernel_rfl, by kernel_rfl⟩, fun E h => by cases h⟩
theorem tok_17 : TOK Try.prog 17 (tab 17) := ⟨Try.underlying17, fun _ => ⟨((Try.prog.info? 17).getD default), (((Try.prog.info? 17).getD default).zero).getD undef, by kernel_rfl, by kernel_rfl, by kernel_rfl, by kernel_rfl, by kernel_rfl, by kernel_rfl, by kernel_rfl⟩, ⟨((Try.prog.info? 17).getD default), by kernel_rfl, by kernel_rfl⟩, ⟨_, Try.underlying17, rfl⟩, by simp [tab, TI.isAgg], fun _ => ⟨((Try.prog.info? 17).getD default), (((Try.prog.info? 17).getD default).zero).getD undef, by kernel_rfl, by kernel_rfl, by kernel_rfl⟩, fun E h => by cases h⟩
theorem tok_21 : TOK Try.prog 21 (tab 21) := ⟨Try.underlying21, fun _ => ⟨((Try.prog.info? 21).getD default), (((Try.prog.info? 21).getD default).zero).getD undef, by kernel_rfl, by kernel_rfl, by kernel_rfl, by kernel_rfl, by kernel_rfl, by kernel_rfl, by kernel_rfl⟩, ⟨((Try.prog.info? 21).getD default), by kernel_rfl, by kernel_rfl⟩, ⟨_, Try.underlying21, rfl⟩, by simp [tab, TI.isAgg], fun _ => ⟨((Try.prog.info? 21).getD default), (((Try.prog.info? 21).getD default).zero).getD undef, by kernel_rfl, by kernel_rfl, by kernel_rfl⟩, fun E h => by cases h; exact ⟨fun x => by simp [eInt, eBool, eStr, eList, ePair, tab], ⟨_, rfl, by simp [leD, leD1, eInt, eBool, eStr, eList, ePair]⟩⟩⟩
theorem tok_22 : TOK Try.prog 22 (tab 22) := ⟨Try.underlying22, fun _ => ⟨((Try.prog.info? 22).getD default), (((Try.prog.info? 22).getD default).zero).getD undef, by kernel_rfl, by kernel_rfl, by kernel_rfl, by kernel_rfl, by kernel_rfl, by kernel_rfl, by kernel_rfl⟩, ⟨((Try.prog.info? 22).getD default), by kernel_rfl, by kernel_rfl⟩, ⟨_, Try.underlying22, rfl⟩, by simp [tab, TI.isAgg], fun _ => ⟨((Try.prog.info? 22).getD default), (((Try.prog.info? 22).getD default).zero).getD undef, by kernel_rfl, by kernel_rfl, by kernel_rfl⟩, fun E h => by cases h; exact ⟨fun x => by simp [eInt, eBool, eStr, eList, ePair, tab], ⟨_, rfl, by simp [leD, leD1, eInt, eBool, eStr, eList, ePair]⟩⟩⟩
theorem tok_23 : TOK Try.prog 23 (tab 23) := ⟨Try.underlying23, fun _ => ⟨((Try.prog.info? 23).getD default), (((Try.prog.info? 23).getD default).zero).getD undef, by kernel_rfl, by kernel_rfl, by kernel_rfl, by kernel_rfl, by kernel_rfl, by kernel_rfl, by kernel_rfl⟩, ⟨((Try.prog.info? 23).getD default), by kernel_rfl, by kernel_rfl⟩, ⟨_, Try.underlying23, rfl⟩, by simp [tab, TI.isAgg], fun _ => ⟨((Try.prog.info? 23).getD default), (((Try.prog.info? 23).getD default).zero).getD undef, by kernel_rfl, by kernel_rfl, by kernel_rfl⟩, fun E h => by cases h; exact ⟨fun x => by simp [eInt, eBool, eStr, eList, ePair, tab], ⟨_, rfl, by simp [leD, leD1, eInt, eBool, eStr, eList, ePair]⟩⟩⟩
theorem tok_24 : TOK Try.prog 24 (tab 24) := ⟨Try.underlying24, fun _ => ⟨((Try.prog.info? 24).getD default), (((Try.prog.info? 24).getD default).zero).getD undef, by kernel_rfl, by kernel_rfl, by kernel_rfl, by kernel_rfl, by kernel_rfl, by kernel_rfl, by kernel_rfl⟩, ⟨((Try.prog.info? 24).getD default), by kernel_rfl, by kernel_rfl⟩, ⟨_, Try.underlying24, rfl⟩, by simp [tab, TI.isAgg], fun _ => ⟨((Try.prog.info? 24).getD default), (((Try.prog.info? 24).getD default).zero).getD undef, by kernel_rfl, by kernel_rfl, by kernel_rfl⟩, fun E h => by cases h; exact ⟨fun x => by simp [eInt, eBool, eStr, eList, ePair, tab], ⟨_, rfl, by simp [leD, leD1, eInt, eBool, eStr, eList, ePair]⟩⟩⟩
theorem tok_25 : TOK Try.prog 25 (tab 25) := ⟨Try.underlying25, fun _ => ⟨((Try.prog.info? 25).getD default), (((Try.prog.info? 25).getD default).zero).getD undef, by kernel_rfl, by kernel_rfl, by kernel_rfl, by kernel_rfl, by kernel_rfl, by kernel_rfl, by kernel_rfl⟩, ⟨((Try.prog.info? 25).getD default), by kernel_rfl, by kernel_rfl⟩, ⟨_, Try.underlying25, rfl⟩, by simp [tab, TI.isAgg], fun _ => ⟨((Try.prog.info? 25).getD default), (((Try.prog.info? 25).getD default).zero).getD undef, by kernel_rfl, by kernel_rfl, by kernel_rfl⟩, fun E h => by cases h; exact ⟨fun x => by simp [eInt, eBool, eStr, eList, ePair, tab], ⟨_, rfl, by simp [leD, leD1, eInt, eBool, eStr, eList, ePair]⟩⟩⟩
theorem tok_26 : TOK Try.prog 26 (tab 26) := ⟨⟨_, Try.underlying26, rfl⟩, fun _ => ⟨((Try.prog.info? 26).getD default), (((Try.prog.info? 26).getD default).zero).getD undef, by kernel_rfl, by kernel_rfl, by kernel_rfl, by kernel_rfl, by kernel_rfl, by kernel_rfl, by kernel_rfl⟩, ⟨((Try.prog.info? 26).getD default), by kernel_rfl, by kernel_rfl⟩, ⟨_, Try.underlying26, rfl⟩, by simp [tab, TI.isAgg], fun _ => ⟨((Try.prog.info? 26).getD default), (((Try.prog.info? 26).getD default).zero).getD undef, by kernel_rfl, by kernel_rfl, by kernel_rfl⟩, fun E h => by cases h; exact ⟨fun x => by simp [eInt, eBool, eStr, eList, ePair, tab], ⟨_, rfl, by simp [leD, leD1, eInt, eBool, eStr, eList, ePair]⟩⟩⟩
theorem tok_27 : TOK Try.prog 27 (tab 27) := ⟨⟨_, Try.underlying27, rfl⟩, fun _ => ⟨((Try.prog.info? 27).getD default), (((Try.prog.info? 27).getD default).zero).getD undef, by kernel_rfl, by kernel_rfl, by kernel_rfl, by kernel_rfl, by kernel_rfl, by kernel_rfl, by kernel_rfl⟩, ⟨((Try.prog.info? 27).getD default), by kernel_rfl, by kernel_rfl⟩, ⟨_, Try.underlying27, rfl⟩, by simp [tab, TI.isAgg], fun _ => ⟨((Try.prog.info? 27).getD default), (((Try.prog.info? 27).getD default).zero).getD undef, by kernel_rfl, by kernel_rfl, by kernel_rfl⟩, fun E h => by cases h; exact ⟨fun x => by simp [eInt, eBool, eStr, eList, ePair, tab], ⟨_, rfl, by simp [leD, leD1, eInt, eBool, eStr, eList, ePair]⟩⟩⟩
theorem tok_28 : TOK Try.prog 28 (tab 28) := ⟨Try.underlying28, fun _ => ⟨((Try.prog.info? 28).getD default), (((Try.prog.info? 28).getD default).zero).getD undef, by kernel_rfl, by kernel_rfl, by kernel_rfl, by kernel_rfl, by kernel_rfl, by kernel_rfl, by kernel_rfl⟩, ⟨((Try.prog.info? 28).getD default), by kernel_rfl, by kernel_rfl⟩, ⟨_, Try.underlying28, rfl⟩, by simp [tab, TI.isAgg], fun _ => ⟨((Try.prog.info? 28).getD default), (((Try.prog.info? 28).getD default).zero).getD undef, by kernel_rfl, by kernel_rfl, by kernel_rfl⟩, fun E h => by cases h; exact ⟨fun x => by simp [eInt, eBool, eStr, eList, ePair, tab], ⟨_, rfl, by simp [leD, leD1, eInt, eBool, eStr, eList, ePair]⟩⟩⟩
theorem tok_35 : TOK Try.prog 35 (tab 35) := ⟨⟨_, _, _, Try.underlying35⟩, fun _ => ⟨((Try.prog.info? 35).getD default), (((Try.prog.info? 35).getD default).zero).getD undef, by kernel_rfl, by kernel_rfl, by kernel_rfl, by kernel_rfl, by kernel_rfl, by kernel_rfl, by kernel_rfl⟩, ⟨((Try.prog.info? 35).getD default), by kernel_rfl, by kernel_rfl⟩, ⟨_, Try.underlying35, rfl⟩, by simp [tab, TI.isAgg], fun _ => ⟨((Try.prog.info? 35).getD default), (((Try.prog.info? 35).getD default).zero).getD undef, by kernel_rfl, by kernel_rfl, by kernel_rfl⟩, fun E h => by cases h⟩
theorem tok_39 : TOK Try.prog 39 (tab 39) := ⟨Try.underlying39, fun _ => ⟨((Try.prog.info? 39).getD default), (((Try.prog.info? 39).getD default).zero).getD undef, by kernel_rfl, by kernel_rfl, by kernel_rfl, by kernel_rfl, by kernel_rfl, by kernel_rfl, by kernel_rfl⟩, ⟨((Try.prog.info? 39).getD default), by kernel_rfl, by kernel_rfl⟩, ⟨_, Try.underlying39, rfl⟩, by simp [tab, TI.isAgg], fun _ => ⟨((Try.prog.info? 39).getD default), (((Try.prog.info? 39).getD default).zero).getD undef, by kernel_rfl, by kernel_rfl, by kernel_rfl⟩, fun E h => by cases h; exact ⟨fun x => by simp [eInt, eBool, eStr, eList, ePair, tab], ⟨_, rfl, by simp [leD, leD1, eInt, eBool, eStr, eList, ePair]⟩⟩⟩
theorem tok_40 : TOK Try.prog 40 (tab 40) := ⟨Try.underlying40, fun _ => ⟨((Try.prog.info? 40).getD default), (((Try.prog.info? 40).getD default).zero).getD undef, by kernel_rfl, by kernel_rfl, by kernel_rfl, by kernel_rfl, by kernel_rfl, by kernel_rfl, by kernel_rfl⟩, ⟨((Try.prog.info? 40).getD default), by kernel_rfl, by kernel_rfl⟩, ⟨_, Try.underlying40, rfl⟩, by simp [tab, TI.isAgg], fun _ => ⟨((Try.prog.info? 40).getD default), (((Try.prog.info? 40).getD default).zero).getD undef, by kernel_rfl, by kernel_rfl, by kernel_rfl⟩, fun E h => by cases h; exact ⟨fun x => by simp [eInt, eBool, eStr, eList, ePair, tab], ⟨_, rfl, by simp [leD, leD1, eInt, eBool, eStr, eList, ePair]⟩⟩⟩
theorem tok_41 : TOK Try.prog 41 (tab 41) := ⟨Try.underlying41, fun _ => ⟨((Try.prog.info? 41).getD default), (((Try.prog.info? 41).getD default).zero).getD undef, by kernel_rfl, by kernel_rfl, by kernel_rfl, by kernel_rfl, by kernel_rfl, by kernel_rfl, by kernel_rfl⟩, ⟨((Try.prog.info? 41).getD default), by kernel_rfl, by kernel_rfl⟩, ⟨_, Try.underlying41, rfl⟩, by simp [tab, TI.isAgg], fun _ => ⟨((Try.prog.info? 41).getD default), (((Try.prog.info? 41).getD default).zero).getD undef, by kernel_rfl, by kernel_rfl, by kernel_rfl⟩, fun E h => by cases h⟩
theorem tok_46 : TOK Try.prog 46 (tab 46) := ⟨Try.underlying46, fun _ => ⟨((Try.prog.info? 46).getD default), (((Try.prog.info? 46).getD default).zero).getD undef, by kernel_rfl, by kernel_rfl, by kernel_rfl, by kernel_rfl, by kernel_rfl, by kernel_rfl, by kernel_rfl⟩, ⟨((Try.prog.info? 46).getD default), by kernel_rfl, by kernel_rfl⟩, ⟨_, Try.underlying46, rfl⟩, by simp [tab, TI.isAgg], fun _ => ⟨((Try.prog.info? 46).getD default), (((Try.prog.info? 46).getD default).zero).getD undef, by kernel_rfl, by kernel_rfl, by kernel_rfl⟩, fun E h => by cases h; exact ⟨fun x => by simp [eInt, eBool, eStr, eList, ePair, tab], ⟨_, rfl, by simp [leD, leD1, eInt, eBool, eStr, eList, ePair]⟩⟩⟩
theorem tok_50 : TOK Try.prog 50 (tab 50) := ⟨⟨_, _, _, Try.underlying50⟩, fun _ => ⟨((Try.prog.info? 50).getD default), (((Try.prog.info? 50).getD default).zero).getD undef, by kernel_rfl, by kernel_rfl, by kernel_rfl, by kernel_rfl, by kernel_rfl, by kernel_rfl, by kernel_rfl⟩, ⟨((Try.prog.info? 50).getD default), by kernel_rfl, by kernel_rfl⟩, ⟨_, Try.underlying50, rfl⟩, by simp [tab, TI.isAgg], fun _ => ⟨((Try.prog.info? 50).getD default), (((Try.prog.info? 50).getD default).zero).getD undef, by kernel_rfl, by kernel_rfl, by kernel_rfl⟩, fun E h => by cases h⟩
theorem tok_62 : TOK Try.prog 62 (tab 62) := ⟨Try.underlying62, fun _ => ⟨((Try.prog.info? 62).getD default), (((Try.prog.info? 62).getD default).zero).getD undef, by kernel_rfl, by kernel_rfl, by kernel_rfl, by kernel_rfl, by kernel_rfl, by kernel_rfl, by kernel_rfl⟩, ⟨((Try.prog.info? 62).getD default), by kernel_rfl, by kernel_rfl⟩, ⟨_, Try.underlying62, rfl⟩, by simp [tab, TI.isAgg], fun _ => ⟨((Try.prog.info? 62).getD default), (((Try.prog.info? 62).getD default).zero).getD undef, by kernel_rfl, by kernel_rfl, by kernel_rfl⟩, fun E h => by cases h; exact ⟨fun x => by simp [eInt, eBool, eStr, eList, ePair, tab], ⟨_, rfl, by simp [leD, leD1, eInt, eBool, eStr, eList, ePair]⟩⟩⟩
theorem tok_63 : TOK Try.prog 63 (tab 63) := ⟨⟨_, Try.underlying63, rfl⟩, fun _ => ⟨((Try.prog.info? 63).getD default), (((Try.prog.info? 63).getD default).zero).getD undef, by kernel_rfl, by kernel_rfl, by kernel_rfl, by kernel_rfl, by kernel_rfl, by kernel_rfl, by kernel_rfl⟩, ⟨((Try.prog.info? 63).getD default), by kernel_rfl, by kernel_rfl⟩, ⟨_, Try.underlying63, rfl⟩, by simp [tab, TI.isAgg], fun _ => ⟨((Try.prog.info? 63).getD default), (((Try.prog.info? 63).getD default).zero).getD undef, by kernel_rfl, by kernel_rfl, by kernel_rfl⟩, fun E h => by cases h; exact ⟨fun x => by simp [eInt, eBool, eStr, eList, ePair, tab], ⟨_, rfl, by simp [leD, leD1, eInt, eBool, eStr, eList, ePair]⟩⟩⟩
theorem tok_64 : TOK Try.prog 64 (tab 64) := ⟨⟨_, Try.underlying64, rfl⟩, fun _ => ⟨((Try.prog.info? 64).getD default), (((Try.prog.info? 64).getD default).zero).getD undef, by kernel_rfl, by kernel_rfl, by kernel_rfl, by kernel_rfl, by kernel_rfl, by kernel_rfl, by kernel_rfl⟩, ⟨((Try.prog.info? 64).getD default), by kernel_rfl, by kernel_rfl⟩, ⟨_, Try.underlying64, rfl⟩, by simp [tab, TI.isAgg], fun _ => ⟨((Try.prog.info? 64).getD default), (((Try.prog.info? 64).getD default).zero).getD undef, by kernel_rfl, by kernel_rfl, by kernel_rfl⟩, fun E h => by cases h; exact ⟨fun x => by simp [eInt, eBool, eStr, eList, ePair, tab], ⟨_, rfl, by simp [leD, leD1, eInt, eBool, eStr, eList, ePair]⟩⟩⟩
theorem tok_67 : TOK Try.prog 67 (tab 67) := ⟨⟨_, _, _, Try.underlying67⟩, fun _ => ⟨((Try.prog.info? 67).getD default), (((Try.prog.info? 67).getD default).zero).getD undef, by kernel_rfl, by kernel_rfl, by kernel_rfl, by kernel_rfl, by kernel_rfl, by kernel_rfl, by kernel_rfl⟩, ⟨((Try.prog.info? 67).getD default), by kernel_rfl, by kernel_rfl⟩, ⟨_, Try.underlying67, rfl⟩, by simp [tab, TI.isAgg], fun _ => ⟨((Try.prog.info? 67).getD default), (((Try.prog.info? 67).getD default).zero).getD undef, by kernel_rfl, by kernel_rfl, by kernel_rfl⟩, fun E h => by cases h⟩
theorem tok_70 : TOK Try.prog 70 (tab 70) := ⟨Try.underlying70, fun _ => ⟨((Try.prog.info? 70).getD default), (((Try.prog.info? 70).getD default).zero).getD undef, by kernel_rfl, by kernel_rfl, by kernel_rfl, by kernel_rfl, by kernel_rfl, by kernel_rfl, by kernel_rfl⟩, ⟨((Try.prog.info? 70).getD default), by kernel_rfl, by kernel_rfl⟩, ⟨_, Try.underlying70, rfl⟩, by simp [tab, TI.isAgg], fun _ => ⟨((Try.prog.info? 70).getD default), (((Try.prog.info? 70).getD default).zero).getD undef, by kernel_rfl, by kernel_rfl, by kernel_rfl⟩, fun E h => by cases h; exact ⟨fun x => by simp [eInt, eBool, eStr, eList, ePair, tab], ⟨_, rfl, by simp [leD, leD1, eInt, eBool, eStr, eList, ePair]⟩⟩⟩
theorem tok_73 : TOK Try.prog 73 (tab 73) := ⟨Try.underlying73, fun _ => ⟨((Try.prog.info? 73).getD default), (((Try.prog.info? 73).getD default).zero).getD undef, by kernel_rfl, by kernel_rfl, by kernel_rfl, by kernel_rfl, by kernel_rfl, by kernel_rfl, by kernel_rfl⟩, ⟨((Try.prog.info? 73).getD default), by kernel_rfl, by kernel_rfl⟩, ⟨_, Try.underlying73, rfl⟩, by simp [tab, TI.isAgg], fun _ => ⟨((Try.prog.info? 73).getD default), (((Try.prog.info? 73).getD default).zero).getD undef, by kernel_rfl, by kernel_rfl, by kernel_rfl⟩, fun E h => by cases h; exact ⟨fun x => by simp [eInt, eBool, eStr, eList, ePair, tab], ⟨_, rfl, by simp [leD, leD1, eInt, eBool, eStr, eList, ePair]⟩⟩⟩
theorem tok_74 : TOK Try.prog 74 (tab 74) := ⟨Try.underlying74, fun _ => ⟨((Try.prog.info? 74).getD default), (((Try.prog.info? 74).getD default).zero).getD undef, by kernel_rfl, by kernel_rfl, by kernel_rfl, by kernel_rfl, by kernel_rfl, by kernel_rfl, by kernel_rfl⟩, ⟨((Try.prog.info? 74).getD default), by kernel_rfl, by kernel_rfl⟩, ⟨_, Try.underlying74, rfl⟩, by simp [tab, TI.isAgg], fun _ => ⟨((Try.prog.info? 74).getD default), (((Try.prog.info? 74).getD default).zero).getD undef, by kernel_rfl, by kernel_rfl, by kernel_rfl⟩, fun E h => by cases h; exact ⟨fun x => by simp [eInt, eBool, eStr, eList, ePair, tab], ⟨_, rfl, by simp [leD, leD1, eInt, eBool, eStr, eList, ePair]⟩⟩⟩
theorem tok_78 : TOK Try.prog 78 (tab 78) := ⟨Try.underlying78, fun _ => ⟨((Try.prog.info? 78).getD default), (((Try.prog.info? 78).getD default).zero).getD undef, by kernel_rfl, by kernel_rfl, by kernel_rfl, by kernel_rfl, by kernel_rfl, by kernel_rfl, by kernel_rfl⟩, ⟨((Try.prog.info? 78).getD default), by kernel_rfl, by kernel_rfl⟩, ⟨_, Try.underlying78, rfl⟩, by simp [tab, TI.isAgg], fun _ => ⟨((Try.prog.info? 78).getD default), (((Try.prog.info? 78).getD default).zero).getD undef, by kernel_rfl, by kernel_rfl, by kernel_rfl⟩, fun E h => by cases h⟩
theorem tok_80 : TOK Try.prog 80 (tab 80) := ⟨Try.underlying80, fun _ => ⟨((Try.prog.info? 80).getD default), (((Try.prog.info? 80).getD default).zero).getD undef, by kernel_rfl, by kernel_rfl, by kernel_rfl, by kernel_rfl, by kernel_rfl, by kernel_rfl, by kernel_rfl⟩, ⟨((Try.prog.info? 80).getD default), by kernel_rfl, by kernel_rfl⟩, ⟨_, Try.underlying80, rfl⟩, by simp [tab, TI.isAgg], fun _ => ⟨((Try.prog.info? 80).getD default), (((Try.prog.info? 80).getD default).zero).getD undef, by kernel_rfl, by kernel_rfl, by kernel_rfl⟩, fun E h => by cases h; exact ⟨fun x => by simp [eInt, eBool, eStr, eList, ePair, tab], ⟨_, rfl, by simp [leD, leD1, eInt, eBool, eStr, eList, ePair]⟩⟩⟩
theorem tok_94 : TOK Try.prog 94 (tab 94) := ⟨Try.underlying94, fun _ => ⟨((Try.prog.info? 94).getD default), (((Try.prog.info? 94).getD default).zero).getD undef, by kernel_rfl, by kernel_rfl, by kernel_rfl, by kernel_rfl, by kernel_rfl, by kernel_rfl, by kernel_rfl⟩, ⟨((Try.prog.info? 94).getD default), by kernel_rfl, by kernel_rfl⟩, ⟨_, Try.underlying94, rfl⟩, by simp [tab, TI.isAgg], fun _ => ⟨((Try.prog.info? 94).getD default), (((Try.prog.info? 94).getD default).zero).getD undef, by kernel_rfl, by kernel_rfl, by kernel_rfl⟩, fun E h => by cases h; exact ⟨fun x => by simp [eInt, eBool, eStr, eList, ePair, tab], ⟨_, rfl, by simp [leD, leD1, eInt, eBool, eStr, eList, ePair]⟩⟩⟩
theorem tok_103 : TOK Try.prog 103 (tab 103) := ⟨Try.underlying103, fun _ => ⟨((Try.prog.info? 103).getD default), (((Try.prog.info? 103).getD default).zero).getD undef, by kernel_rfl, by kernel_rfl, by kernel_rfl, by kernel_rfl, by kernel_rfl, by kernel_rfl, by kernel_rfl⟩, ⟨((Try.prog.info? 103).getD default), by kernel_rfl, by kernel_rfl⟩, ⟨_, Try.underlying103, rfl⟩, by simp [tab, TI.isAgg], fun _ => ⟨((Try.prog.info? 103).getD default), (((Try.prog.info? 103).getD default).zero).getD undef, by kernel_rfl, by kernel_rfl, by kernel_rfl⟩, fun E h => by cases h; exact ⟨fun x => by simp [eInt, eBool, eStr, eList, ePair, tab], ⟨_, rfl, by simp [leD, leD1, eInt, eBool, eStr, eList, ePair]⟩⟩⟩
theorem tok_107 : TOK Try.prog 107 (tab 107) := ⟨Try.underlying107, fun _ => ⟨((Try.prog.info? 107).getD default), (((Try.prog.info? 107).getD default).zero).getD undef, by kernel_rfl, by kernel_rfl, by kernel_rfl, by kernel_rfl, by kernel_rfl, by kernel_rfl, by kernel_rfl⟩, ⟨((Try.prog.info? 107).getD default), by kernel_rfl, by kernel_rfl⟩, ⟨_, Try.underlying107, rfl⟩, by simp [tab, TI.isAgg], fun _ => ⟨((Try.prog.info? 107).getD default), (((Try.prog.info? 107).getD default).zero).getD undef, by kernel_rfl, by kernel_rfl, by kernel_rfl⟩, fun E h => by cases h; exact ⟨fun x => by simp [eInt, eBool, eStr, eList, ePair, tab], ⟨_, rfl, by simp [leD, leD1, eInt, eBool, eStr, eList, ePair]⟩⟩⟩
theorem tok_116 : TOK Try.prog 116 (tab 116) := ⟨Try.underlying116, fun _ => ⟨((Try.prog.info? 116).getD default), (((Try.prog.info? 116).getD default).zero).getD undef, by kernel_rfl, by kernel_rfl, by kernel_rfl, by kernel_rfl, by kernel_rfl, by kernel_rfl, by kernel_rfl⟩, ⟨((Try.prog.info? 116).getD default), by kernel_rfl, by kernel_rfl⟩, ⟨_, Try.underlying116, rfl⟩, by simp [tab, TI.isAgg], fun _ => ⟨((Try.prog.info? 116).getD default), (((Try.prog.info? 116).getD default).zero).getD undef, by kernel_rfl, by kernel_rfl, by kernel_rfl⟩, fun E h => by cases h; exact ⟨fun x => by simp [eInt, eBool, eStr, eList, ePair, tab], ⟨_, rfl, by simp [leD, leD1, eInt, eBool, eStr, eList, ePair]⟩⟩⟩
theorem tok_120 : TOK Try.prog 120 (tab 120) := ⟨Try.underlying120, fun _ => ⟨((Try.prog.info? 120).getD default), (((Try.prog.info? 120).getD default).zero).getD undef, by kernel_rfl, by kernel_rfl, by kernel_rfl, by kernel_rfl, by kernel_rfl, by kernel_rfl, by kernel_rfl⟩, ⟨((Try.prog.info? 120).getD default), by kernel_rfl, by kernel_rfl⟩, ⟨_, Try.underlying120, rfl⟩, by simp [tab, TI.isAgg], fun _ => ⟨((Try.prog.info? 120).getD default), (((Try.prog.info? 120).getD default).zero).getD undef, by kernel_rfl, by kernel_rfl, by kernel_rfl⟩, fun E h => by cases h⟩
theorem tok_122 : TOK Try.prog 122 (tab 122) := ⟨Try.underlying122, fun _ => ⟨((Try.prog.info? 122).getD default), (((Try.prog.info? 122).getD default).zero).getD undef, by kernel_rfl, by kernel_rfl, by kernel_rfl, by kernel_rfl, by kernel_rfl, by kernel_rfl, by kernel_rfl⟩, ⟨((Try.prog.info? 122).getD default), by kernel_rfl, by kernel_rfl⟩, ⟨_, Try.underlying122, rfl⟩, by simp [tab, TI.isAgg], fun _ => ⟨((Try.prog.info? 122).getD default), (((Try.prog.info? 122).getD default).zero).getD undef, by kernel_rfl, by kernel_rfl, by kernel_rfl⟩, fun E h => by cases h⟩
theorem tok_134 : TOK Try.prog 134 (tab 134) := ⟨Try.underlying134, fun _ => ⟨((Try.prog.info? 134).getD default), (((Try.prog.info? 134).getD default).zero).getD undef, by kernel_rfl, by kernel_rfl, by kernel_rfl, by kernel_rfl, by kernel_rfl, by kernel_rfl, by kernel_rfl⟩, ⟨((Try.prog.info? 134).getD default), by kernel_rfl, by kernel_rfl⟩, ⟨_, Try.underlying134, rfl⟩, by simp [tab, TI.isAgg], fun _ => ⟨((Try.prog.info? 134).getD default), (((Try.prog.info? 134).getD default).zero).getD undef, by kernel_rfl, by kernel_rfl, by kernel_rfl⟩, fun E h => by cases h⟩
theorem tabOK : TabOK Try.prog tab where
  of := by
    intro t h
    unfold tab at h
    split at h
    · exact tok_2
    · exact tok_3
    · exact tok_4
    · exact tok_5
    · exact tok_9
    · exact tok_12
    · exact tok_15
    · exact tok_16
    · exact tok_17
    · exact tok_21
    · exact tok_22
    · exact tok_23
    · exact tok_24
    · exact tok_25
    · exact tok_26
    · exact tok_27
    · exact tok_28
    · exact tok_35
    · exact tok_39
    · exact tok_40
    · exact tok_41
    · exact tok_46
    · exact tok_50
    · exact tok_62
    · exact tok_63
    · exact tok_64
    · exact tok_67
    · exact tok_70
    · exact tok_73
    · exact tok_74
    · exact tok_78
    · exact tok_80
    · exact tok_94
    · exact tok_103
    · exact tok_107
    · exact tok_116
    · exact tok_120
    · exact tok_122
    · exact tok_134
    · exact absurd rfl h
  none := by
    intro t h
    unfold tab at h ⊢
    split at h <;> first | rfl | cases h
  closed := by
    intro t e h he
    unfold tab at h he
    split at h <;> simp only [Sh.subs, List.map_cons, List.map_nil, List.mem_cons, List.not_mem_nil, or_false] at he <;> first | exact he.elim | exact absurd rfl h | (subst he; simp [tab]) | (rcases he with he | he <;> subst he <;> simp [tab]) | (rcases he with he | he | he <;> subst he <;> simp [tab]) | (rcases he with he | he | he | he <;> subst he <;> simp [tab])
theorem mixed : Try.prog.follows .mixedOrders = true := by kernel_rfl
end Go.Vc
