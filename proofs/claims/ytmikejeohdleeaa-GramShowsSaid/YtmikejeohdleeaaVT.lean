/- Written by a program of this session for this claim: what the program's types are. -/
import Derived.Test.YtmikejeohdleeaaV27
import Derived.Test.YtmikejeohdleeaaProg
import Derived.KernelRfl
set_option linter.unusedVariables false
set_option linter.unusedSimpArgs false
namespace Go.Vc
open Go.Proofs

def tab : Tab
  | 2 => ⟨.int .i64, 1, 8, [.int .i64 0], some (eInt .i64)⟩
  | 3 => ⟨.int .i64, 1, 8, [.int .i64 0], some (eInt .i64)⟩
  | 4 => ⟨.bool, 1, 1, [.bool false], some eBool⟩
  | 5 => ⟨.int .u8, 1, 1, [.int .u8 0], some (eInt .u8)⟩
  | 9 => ⟨.str, 1, 16, [.str ⟨#[]⟩], some eStr⟩
  | 12 => ⟨.int .u64, 1, 8, [.int .u64 0], some (eInt .u64)⟩
  | 15 => ⟨.ptr 166, 1, 8, [.raw (.pointer none)], none⟩
  | 16 => ⟨.ptr 169, 1, 8, [.raw (.pointer none)], none⟩
  | 17 => ⟨.ptr 178, 1, 8, [.raw (.pointer none)], none⟩
  | 21 => ⟨.int .i32, 1, 4, [.int .i32 0], some (eInt .i32)⟩
  | 25 => ⟨.slice 105, 1, 24, [.nil], some (eList 4 (ePair (eInt .i64) (ePair (eInt .i64) (ePair (eInt .u8) (eInt .u8)))))⟩
  | 26 => ⟨.slice 3, 1, 24, [.nil], some (eList 1 (eInt .i64))⟩
  | 27 => ⟨.struct [(0, 3), (1, 25), (2, 26)], 3, 56, [.int .i64 0, .nil, .nil], some (ePair (eInt .i64) (ePair (eList 4 (ePair (eInt .i64) (ePair (eInt .i64) (ePair (eInt .u8) (eInt .u8))))) (eList 1 (eInt .i64))))⟩
  | 28 => ⟨.struct [(0, 3), (1, 25), (2, 26)], 3, 56, [.int .i64 0, .nil, .nil], some (ePair (eInt .i64) (ePair (eList 4 (ePair (eInt .i64) (ePair (eInt .i64) (ePair (eInt .u8) (eInt .u8))))) (eList 1 (eInt .i64))))⟩
  | 29 => ⟨.slice 5, 1, 24, [.nil], some (eList 1 (eInt .u8))⟩
  | 30 => ⟨.slice 106, 1, 24, [.nil], some (eList 4 (ePair (eInt .i64) (ePair (eInt .i64) (ePair (eInt .i64) (eInt .i64)))))⟩
  | 31 => ⟨.struct [(0, 3), (1, 30), (2, 26)], 3, 56, [.int .i64 0, .nil, .nil], some (ePair (eInt .i64) (ePair (eList 4 (ePair (eInt .i64) (ePair (eInt .i64) (ePair (eInt .i64) (eInt .i64))))) (eList 1 (eInt .i64))))⟩
  | 32 => ⟨.struct [(0, 3), (1, 30), (2, 26)], 3, 56, [.int .i64 0, .nil, .nil], some (ePair (eInt .i64) (ePair (eList 4 (ePair (eInt .i64) (ePair (eInt .i64) (ePair (eInt .i64) (eInt .i64))))) (eList 1 (eInt .i64))))⟩
  | 34 => ⟨.int .i64, 1, 8, [.int .i64 0], some (eInt .i64)⟩
  | 51 => ⟨.slice 26, 1, 24, [.nil], some (eList 1 (eList 1 (eInt .i64)))⟩
  | 52 => ⟨.struct [(0, 26), (1, 26), (2, 51)], 3, 72, [.nil, .nil, .nil], some (ePair (eList 1 (eInt .i64)) (ePair (eList 1 (eInt .i64)) (eList 1 (eList 1 (eInt .i64)))))⟩
  | 53 => ⟨.struct [(0, 26), (1, 26), (2, 51)], 3, 72, [.nil, .nil, .nil], some (ePair (eList 1 (eInt .i64)) (ePair (eList 1 (eInt .i64)) (eList 1 (eList 1 (eInt .i64)))))⟩
  | 57 => ⟨.map 3 4, 1, 8, [.raw (.map none)], none⟩
  | 59 => ⟨.slice 29, 1, 24, [.nil], some (eList 1 (eList 1 (eInt .u8)))⟩
  | 71 => ⟨.func, 1, 8, [.raw .nilFunc], none⟩
  | 73 => ⟨.struct [(0, 26), (1, 26)], 2, 48, [.nil, .nil], some (ePair (eList 1 (eInt .i64)) (eList 1 (eInt .i64)))⟩
  | 74 => ⟨.struct [(0, 26), (1, 26)], 2, 48, [.nil, .nil], some (ePair (eList 1 (eInt .i64)) (eList 1 (eInt .i64)))⟩
  | 91 => ⟨.slice 96, 1, 24, [.nil], some (eList 1 (eInt .u64))⟩
  | 94 => ⟨.slice 9, 1, 24, [.nil], some (eList 1 eStr)⟩
  | 96 => ⟨.int .u64, 1, 8, [.int .u64 0], some (eInt .u64)⟩
  | 104 => ⟨.struct [(0, 3), (1, 3), (2, 5), (3, 5)], 4, 24, [.int .i64 0, .int .i64 0, .int .u8 0, .int .u8 0], some (ePair (eInt .i64) (ePair (eInt .i64) (ePair (eInt .u8) (eInt .u8))))⟩
  | 105 => ⟨.struct [(0, 3), (1, 3), (2, 5), (3, 5)], 4, 24, [.int .i64 0, .int .i64 0, .int .u8 0, .int .u8 0], some (ePair (eInt .i64) (ePair (eInt .i64) (ePair (eInt .u8) (eInt .u8))))⟩
  | 106 => ⟨.array 4 3, 4, 32, [.int .i64 0, .int .i64 0, .int .i64 0, .int .i64 0], some (ePair (eInt .i64) (ePair (eInt .i64) (ePair (eInt .i64) (eInt .i64))))⟩
  | 107 => ⟨.int .u32, 1, 4, [.int .u32 0], some (eInt .u32)⟩
  | 108 => ⟨.int .u32, 1, 4, [.int .u32 0], some (eInt .u32)⟩
  | 113 => ⟨.slice 116, 1, 24, [.nil], some (eList 1 (eList 1 eBool))⟩
  | 116 => ⟨.slice 4, 1, 24, [.nil], some (eList 1 eBool)⟩
  | 126 => ⟨.map 9 4, 1, 8, [.raw (.map none)], none⟩
  | 132 => ⟨.int .u64, 1, 8, [.int .u64 0], some (eInt .u64)⟩
  | 139 => ⟨.slice 57, 1, 24, [.nil], none⟩
  | 148 => ⟨.int .i64, 1, 8, [.int .i64 0], some (eInt .i64)⟩
  | 155 => ⟨.int .u64, 1, 8, [.int .u64 0], some (eInt .u64)⟩
  | 159 => ⟨.ptr 3, 1, 8, [.raw (.pointer none)], none⟩
  | 162 => ⟨.ptr 155, 1, 8, [.raw (.pointer none)], none⟩
  | 174 => ⟨.ptr 5, 1, 8, [.raw (.pointer none)], none⟩
  | _ => ⟨.none, 0, 0, [], none⟩

theorem tab_2 : tab 2 = ⟨.int .i64, 1, 8, [.int .i64 0], some (eInt .i64)⟩ := rfl
theorem tab_3 : tab 3 = ⟨.int .i64, 1, 8, [.int .i64 0], some (eInt .i64)⟩ := rfl
theorem tab_4 : tab 4 = ⟨.bool, 1, 1, [.bool false], some eBool⟩ := rfl
theorem tab_5 : tab 5 = ⟨.int .u8, 1, 1, [.int .u8 0], some (eInt .u8)⟩ := rfl
theorem tab_9 : tab 9 = ⟨.str, 1, 16, [.str ⟨#[]⟩], some eStr⟩ := rfl
theorem tab_12 : tab 12 = ⟨.int .u64, 1, 8, [.int .u64 0], some (eInt .u64)⟩ := rfl
theorem tab_15 : tab 15 = ⟨.ptr 166, 1, 8, [.raw (.pointer none)], none⟩ := rfl
theorem tab_16 : tab 16 = ⟨.ptr 169, 1, 8, [.raw (.pointer none)], none⟩ := rfl
theorem tab_17 : tab 17 = ⟨.ptr 178, 1, 8, [.raw (.pointer none)], none⟩ := rfl
theorem tab_21 : tab 21 = ⟨.int .i32, 1, 4, [.int .i32 0], some (eInt .i32)⟩ := rfl
theorem tab_25 : tab 25 = ⟨.slice 105, 1, 24, [.nil], some (eList 4 (ePair (eInt .i64) (ePair (eInt .i64) (ePair (eInt .u8) (eInt .u8)))))⟩ := rfl
theorem tab_26 : tab 26 = ⟨.slice 3, 1, 24, [.nil], some (eList 1 (eInt .i64))⟩ := rfl
theorem tab_27 : tab 27 = ⟨.struct [(0, 3), (1, 25), (2, 26)], 3, 56, [.int .i64 0, .nil, .nil], some (ePair (eInt .i64) (ePair (eList 4 (ePair (eInt .i64) (ePair (eInt .i64) (ePair (eInt .u8) (eInt .u8))))) (eList 1 (eInt .i64))))⟩ := rfl
theorem tab_28 : tab 28 = ⟨.struct [(0, 3), (1, 25), (2, 26)], 3, 56, [.int .i64 0, .nil, .nil], some (ePair (eInt .i64) (ePair (eList 4 (ePair (eInt .i64) (ePair (eInt .i64) (ePair (eInt .u8) (eInt .u8))))) (eList 1 (eInt .i64))))⟩ := rfl
theorem tab_29 : tab 29 = ⟨.slice 5, 1, 24, [.nil], some (eList 1 (eInt .u8))⟩ := rfl
theorem tab_30 : tab 30 = ⟨.slice 106, 1, 24, [.nil], some (eList 4 (ePair (eInt .i64) (ePair (eInt .i64) (ePair (eInt .i64) (eInt .i64)))))⟩ := rfl
theorem tab_31 : tab 31 = ⟨.struct [(0, 3), (1, 30), (2, 26)], 3, 56, [.int .i64 0, .nil, .nil], some (ePair (eInt .i64) (ePair (eList 4 (ePair (eInt .i64) (ePair (eInt .i64) (ePair (eInt .i64) (eInt .i64))))) (eList 1 (eInt .i64))))⟩ := rfl
theorem tab_32 : tab 32 = ⟨.struct [(0, 3), (1, 30), (2, 26)], 3, 56, [.int .i64 0, .nil, .nil], some (ePair (eInt .i64) (ePair (eList 4 (ePair (eInt .i64) (ePair (eInt .i64) (ePair (eInt .i64) (eInt .i64))))) (eList 1 (eInt .i64))))⟩ := rfl
theorem tab_34 : tab 34 = ⟨.int .i64, 1, 8, [.int .i64 0], some (eInt .i64)⟩ := rfl
theorem tab_51 : tab 51 = ⟨.slice 26, 1, 24, [.nil], some (eList 1 (eList 1 (eInt .i64)))⟩ := rfl
theorem tab_52 : tab 52 = ⟨.struct [(0, 26), (1, 26), (2, 51)], 3, 72, [.nil, .nil, .nil], some (ePair (eList 1 (eInt .i64)) (ePair (eList 1 (eInt .i64)) (eList 1 (eList 1 (eInt .i64)))))⟩ := rfl
theorem tab_53 : tab 53 = ⟨.struct [(0, 26), (1, 26), (2, 51)], 3, 72, [.nil, .nil, .nil], some (ePair (eList 1 (eInt .i64)) (ePair (eList 1 (eInt .i64)) (eList 1 (eList 1 (eInt .i64)))))⟩ := rfl
theorem tab_57 : tab 57 = ⟨.map 3 4, 1, 8, [.raw (.map none)], none⟩ := rfl
theorem tab_59 : tab 59 = ⟨.slice 29, 1, 24, [.nil], some (eList 1 (eList 1 (eInt .u8)))⟩ := rfl
theorem tab_71 : tab 71 = ⟨.func, 1, 8, [.raw .nilFunc], none⟩ := rfl
theorem tab_73 : tab 73 = ⟨.struct [(0, 26), (1, 26)], 2, 48, [.nil, .nil], some (ePair (eList 1 (eInt .i64)) (eList 1 (eInt .i64)))⟩ := rfl
theorem tab_74 : tab 74 = ⟨.struct [(0, 26), (1, 26)], 2, 48, [.nil, .nil], some (ePair (eList 1 (eInt .i64)) (eList 1 (eInt .i64)))⟩ := rfl
theorem tab_91 : tab 91 = ⟨.slice 96, 1, 24, [.nil], some (eList 1 (eInt .u64))⟩ := rfl
theorem tab_94 : tab 94 = ⟨.slice 9, 1, 24, [.nil], some (eList 1 eStr)⟩ := rfl
theorem tab_96 : tab 96 = ⟨.int .u64, 1, 8, [.int .u64 0], some (eInt .u64)⟩ := rfl
theorem tab_104 : tab 104 = ⟨.struct [(0, 3), (1, 3), (2, 5), (3, 5)], 4, 24, [.int .i64 0, .int .i64 0, .int .u8 0, .int .u8 0], some (ePair (eInt .i64) (ePair (eInt .i64) (ePair (eInt .u8) (eInt .u8))))⟩ := rfl
theorem tab_105 : tab 105 = ⟨.struct [(0, 3), (1, 3), (2, 5), (3, 5)], 4, 24, [.int .i64 0, .int .i64 0, .int .u8 0, .int .u8 0], some (ePair (eInt .i64) (ePair (eInt .i64) (ePair (eInt .u8) (eInt .u8))))⟩ := rfl
theorem tab_106 : tab 106 = ⟨.array 4 3, 4, 32, [.int .i64 0, .int .i64 0, .int .i64 0, .int .i64 0], some (ePair (eInt .i64) (ePair (eInt .i64) (ePair (eInt .i64) (eInt .i64))))⟩ := rfl
theorem tab_107 : tab 107 = ⟨.int .u32, 1, 4, [.int .u32 0], some (eInt .u32)⟩ := rfl
theorem tab_108 : tab 108 = ⟨.int .u32, 1, 4, [.int .u32 0], some (eInt .u32)⟩ := rfl
theorem tab_113 : tab 113 = ⟨.slice 116, 1, 24, [.nil], some (eList 1 (eList 1 eBool))⟩ := rfl
theorem tab_116 : tab 116 = ⟨.slice 4, 1, 24, [.nil], some (eList 1 eBool)⟩ := rfl
theorem tab_126 : tab 126 = ⟨.map 9 4, 1, 8, [.raw (.map none)], none⟩ := rfl
theorem tab_132 : tab 132 = ⟨.int .u64, 1, 8, [.int .u64 0], some (eInt .u64)⟩ := rfl
theorem tab_139 : tab 139 = ⟨.slice 57, 1, 24, [.nil], none⟩ := rfl
theorem tab_148 : tab 148 = ⟨.int .i64, 1, 8, [.int .i64 0], some (eInt .i64)⟩ := rfl
theorem tab_155 : tab 155 = ⟨.int .u64, 1, 8, [.int .u64 0], some (eInt .u64)⟩ := rfl
theorem tab_159 : tab 159 = ⟨.ptr 3, 1, 8, [.raw (.pointer none)], none⟩ := rfl
theorem tab_162 : tab 162 = ⟨.ptr 155, 1, 8, [.raw (.pointer none)], none⟩ := rfl
theorem tab_174 : tab 174 = ⟨.ptr 5, 1, 8, [.raw (.pointer none)], none⟩ := rfl
theorem tok_2 : TOK Try.prog 2 (tab 2) := ⟨Try.underlying2, fun _ => ⟨((Try.prog.info? 2).getD default), (((Try.prog.info? 2).getD default).zero).getD undef, by kernel_rfl, by kernel_rfl, by kernel_rfl, by kernel_rfl, by kernel_rfl, by kernel_rfl, by kernel_rfl⟩, ⟨((Try.prog.info? 2).getD default), by kernel_rfl, by kernel_rfl⟩, ⟨_, Try.underlying2, rfl⟩, by simp [tab, TI.isAgg], fun _ => ⟨((Try.prog.info? 2).getD default), (((Try.prog.info? 2).getD default).zero).getD undef, by kernel_rfl, by kernel_rfl, by kernel_rfl⟩, fun E h => by cases h; exact ⟨fun x => by simp [eInt, eBool, eStr, eList, ePair, tab], ⟨_, rfl, by simp [leD, leD1, eInt, eBool, eStr, eList, ePair]⟩⟩⟩
theorem tok_3 : TOK Try.prog 3 (tab 3) := ⟨Try.underlying3, fun _ => ⟨((Try.prog.info? 3).getD default), (((Try.prog.info? 3).getD default).zero).getD undef, by kernel_rfl, by kernel_rfl, by kernel_rfl, by kernel_rfl, by kernel_rfl, by kernel_rfl, by kernel_rfl⟩, ⟨((Try.prog.info? 3).getD default), by kernel_rfl, by kernel_rfl⟩, ⟨_, Try.underlying3, rfl⟩, by simp [tab, TI.isAgg], fun _ => ⟨((Try.prog.info? 3).getD default), (((Try.prog.info? 3).getD default).zero).getD undef, by kernel_rfl, by kernel_rfl, by kernel_rfl⟩, fun E h => by cases h; exact ⟨fun x => by simp [eInt, eBool, eStr, eList, ePair, tab], ⟨_, rfl, by simp [leD, leD1, eInt, eBool, eStr, eList, ePair]⟩⟩⟩
theorem tok_4 : TOK Try.prog 4 (tab 4) := ⟨Try.underlying4, fun _ => ⟨((Try.prog.info? 4).getD default), (((Try.prog.info? 4).getD default).zero).getD undef, by kernel_rfl, by kernel_rfl, by kernel_rfl, by kernel_rfl, by kernel_rfl, by kernel_rfl, by kernel_rfl⟩, ⟨((Try.prog.info? 4).getD default), by kernel_rfl, by kernel_rfl⟩, ⟨_, Try.underlying4, rfl⟩, by simp [tab, TI.isAgg], fun _ => ⟨((Try.prog.info? 4).getD default), (((Try.prog.info? 4).getD default).zero).getD undef, by kernel_rfl, by kernel_rfl, by kernel_rfl⟩, fun E h => by cases h; exact ⟨fun x => by simp [eInt, eBool, eStr, eList, ePair, tab], ⟨_, rfl, by simp [leD, leD1, eInt, eBool, eStr, eList, ePair]⟩⟩⟩
theorem tok_5 : TOK Try.prog 5 (tab 5) := ⟨Try.underlying5, fun _ => ⟨((Try.prog.info? 5).getD default), (((Try.prog.info? 5).getD default).zero).getD undef, by kernel_rfl, by kernel_rfl, by kernel_rfl, by kernel_rfl, by kernel_rfl, by kernel_rfl, by kernel_rfl⟩, ⟨((Try.prog.info? 5).getD default), by kernel_rfl, by kernel_rfl⟩, ⟨_, Try.underlying5, rfl⟩, by simp [tab, TI.isAgg], fun _ => ⟨((Try.prog.info? 5).getD default), (((Try.prog.info? 5).getD default).zero).getD undef, by kernel_rfl, by kernel_rfl, by kernel_rfl⟩, fun E h => by cases h; exact ⟨fun x => by simp [eInt, eBool, eStr, eList, ePair, tab], ⟨_, rfl, by simp [leD, leD1, eInt, eBool, eStr, eList, ePair]⟩⟩⟩
theorem tok_9 : TOK Try.prog 9 (tab 9) := ⟨Try.underlying9, fun _ => ⟨((Try.prog.info? 9).getD default), (((Try.prog.info? 9).getD default).zero).getD undef, by kernel_rfl, by kernel_rfl, by kernel_rfl, by kernel_rfl, by kernel_rfl, by kernel_rfl, by kernel_rfl⟩, ⟨((Try.prog.info? 9).getD default), by kernel_rfl, by kernel_rfl⟩, ⟨_, Try.underlying9, rfl⟩, by simp [tab, TI.isAgg], fun _ => ⟨((Try.prog.info? 9).getD default), (((Try.prog.info? 9).getD default).zero).getD undef, by kernel_rfl, by kernel_rfl, by kernel_rfl⟩, fun E h => by cases h; exact ⟨fun x => by simp [eInt, eBool, eStr, eList, ePair, tab], ⟨_, rfl, by simp [leD, leD1, eInt, eBool, eStr, eList, ePair]⟩⟩⟩
theorem tok_12 : TOK Try.prog 12 (tab 12) := ⟨Try.underlying12, fun _ => ⟨((Try.prog.info? 12).getD default), (((Try.prog.info? 12).getD default).zero).getD undef, by kernel_rfl, by kernel_rfl, by kernel_rfl, by kernel_rfl, by kernel_rfl, by kernel_rfl, by kernel_rfl⟩, ⟨((Try.prog.info? 12).getD default), by kernel_rfl, by kernel_rfl⟩, ⟨_, Try.underlying12, rfl⟩, by simp [tab, TI.isAgg], fun _ => ⟨((Try.prog.info? 12).getD default), (((Try.prog.info? 12).getD default).zero).getD undef, by kernel_rfl, by kernel_rfl, by kernel_rfl⟩, fun E h => by cases h; exact ⟨fun x => by simp [eInt, eBool, eStr, eList, ePair, tab], ⟨_, rfl, by simp [leD, leD1, eInt, eBool, eStr, eList, ePair]⟩⟩⟩
theorem tok_15 : TOK Try.prog 15 (tab 15) := ⟨Try.underlying15, fun _ => ⟨((Try.prog.info? 15).getD default), (((Try.prog.info? 15).getD default).zero).getD undef, by kernel_rfl, by kernel_rfl, by kernel_rfl, by kernel_rfl, by kernel_rfl, by kernel_rfl, by kernel_rfl⟩, ⟨((Try.prog.info? 15).getD default), by kernel_rfl, by kernel_rfl⟩, ⟨_, Try.underlying15, rfl⟩, by simp [tab, TI.isAgg], fun _ => ⟨((Try.prog.info? 15).getD default), (((Try.prog.info? 15).getD default).zero).getD undef, by kernel_rfl, by kernel_rfl, by kernel_rfl⟩, fun E h => by cases h⟩
theorem tok_16 : TOK Try.prog 16 (tab 16) := ⟨Try.underlying16, fun _ => ⟨((Try.prog.info? 16).getD default), (((Try.prog.info? 16).getD default).zero).getD undef, by kernel_rfl, by kernel_rfl, by kernel_rfl, by kernel_rfl, by kernel_rfl, by kernel_rfl, by kernel_rfl⟩, ⟨((Try.prog.info? 16).getD default), by kernel_rfl, by kernel_rfl⟩, ⟨_, Try.underlying16, rfl⟩, by simp [tab, TI.isAgg], fun _ => ⟨((Try.prog.info? 16).getD default), (((Try.prog.info? 16).getD default).zero).getD undef, by kernel_rfl, by kernel_rfl, by kernel_rfl⟩, fun E h => by cases h⟩
theorem tok_17 : TOK Try.prog 17 (tab 17) := ⟨Try.underlying17, fun _ => ⟨((Try.prog.info? 17).getD default), (((Try.prog.info? 17).getD default).zero).getD undef, by kernel_rfl, by kernel_rfl, by kernel_rfl, by kernel_rfl, by kernel_rfl, by kernel_rfl, by kernel_rfl⟩, ⟨((Try.prog.info? 17).getD default), by kernel_rfl, by kernel_rfl⟩, ⟨_, Try.underlying17, rfl⟩, by simp [tab, TI.isAgg], fun _ => ⟨((Try.prog.info? 17).getD default), (((Try.prog.info? 17).getD default).zero).getD undef, by kernel_rfl, by kernel_rfl, by kernel_rfl⟩, fun E h => by cases h⟩
theorem tok_21 : TOK Try.prog 21 (tab 21) := ⟨Try.underlying21, fun _ => ⟨((Try.prog.info? 21).getD default), (((Try.prog.info? 21).getD default).zero).getD undef, by kernel_rfl, by kernel_rfl, by kernel_rfl, by kernel_rfl, by kernel_rfl, by kernel_rfl, by kernel_rfl⟩, ⟨((Try.prog.info? 21).getD default), by kernel_rfl, by kernel_rfl⟩, ⟨_, Try.underlying21, rfl⟩, by simp [tab, TI.isAgg], fun _ => ⟨((Try.prog.info? 21).getD default), (((Try.prog.info? 21).getD default).zero).getD undef, by kernel_rfl, by kernel_rfl, by kernel_rfl⟩, fun E h => by cases h; exact ⟨fun x => by simp [eInt, eBool, eStr, eList, ePair, tab], ⟨_, rfl, by simp [leD, leD1, eInt, eBool, eStr, eList, ePair]⟩⟩⟩
theorem tok_25 : TOK Try.prog 25 (tab 25) := ⟨Try.underlying25, fun _ => ⟨((Try.prog.info? 25).getD default), (((Try.prog.info? 25).getD default).zero).getD undef, by kernel_rfl, by kernel_rfl, by kernel_rfl, by kernel_rfl, by kernel_rfl, by kernel_rfl, by kernel_rfl⟩, ⟨((Try.prog.info? 25).getD default), by kernel_rfl, by kernel_rfl⟩, ⟨_, Try.underlying25, rfl⟩, by simp [tab, TI.isAgg], fun _ => ⟨((Try.prog.info? 25).getD default), (((Try.prog.info? 25).getD default).zero).getD undef, by kernel_rfl, by kernel_rfl, by kernel_rfl⟩, fun E h => by cases h; exact ⟨fun x => by simp [eInt, eBool, eStr, eList, ePair, tab], ⟨_, rfl, by simp [leD, leD1, eInt, eBool, eStr, eList, ePair]⟩⟩⟩
theorem tok_26 : TOK Try.prog 26 (tab 26) := ⟨Try.underlying26, fun _ => ⟨((Try.prog.info? 26).getD default), (((Try.prog.info? 26).getD default).zero).getD undef, by kernel_rfl, by kernel_rfl, by kernel_rfl, by kernel_rfl, by kernel_rfl, by kernel_rfl, by kernel_rfl⟩, ⟨((Try.prog.info? 26).getD default), by kernel_rfl, by kernel_rfl⟩, ⟨_, Try.underlying26, rfl⟩, by simp [tab, TI.isAgg], fun _ => ⟨((Try.prog.info? 26).getD default), (((Try.prog.info? 26).getD default).zero).getD undef, by kernel_rfl, by kernel_rfl, by kernel_rfl⟩, fun E h => by cases h; exact ⟨fun x => by simp [eInt, eBool, eStr, eList, ePair, tab], ⟨_, rfl, by simp [leD, leD1, eInt, eBool, eStr, eList, ePair]⟩⟩⟩
theorem tok_27 : TOK Try.prog 27 (tab 27) := ⟨⟨_, Try.underlying27, rfl⟩, fun _ => ⟨((Try.prog.info? 27).getD default), (((Try.prog.info? 27).getD default).zero).getD undef, by kernel_rfl, by kernel_rfl, by kernel_rfl, by kernel_rfl, by kernel_rfl, by kernel_rfl, by kernel_rfl⟩, ⟨((Try.prog.info? 27).getD default), by kernel_rfl, by kernel_rfl⟩, ⟨_, Try.underlying27, rfl⟩, by simp [tab, TI.isAgg], fun _ => ⟨((Try.prog.info? 27).getD default), (((Try.prog.info? 27).getD default).zero).getD undef, by kernel_rfl, by kernel_rfl, by kernel_rfl⟩, fun E h => by cases h; exact ⟨fun x => by simp [eInt, eBool, eStr, eList, ePair, tab], ⟨_, rfl, by simp [leD, leD1, eInt, eBool, eStr, eList, ePair]⟩⟩⟩
theorem tok_28 : TOK Try.prog 28 (tab 28) := ⟨⟨_, Try.underlying28, rfl⟩, fun _ => ⟨((Try.prog.info? 28).getD default), (((Try.prog.info? 28).getD default).zero).getD undef, by kernel_rfl, by kernel_rfl, by kernel_rfl, by kernel_rfl, by kernel_rfl, by kernel_rfl, by kernel_rfl⟩, ⟨((Try.prog.info? 28).getD default), by kernel_rfl, by kernel_rfl⟩, ⟨_, Try.underlying28, rfl⟩, by simp [tab, TI.isAgg], fun _ => ⟨((Try.prog.info? 28).getD default), (((Try.prog.info? 28).getD default).zero).getD undef, by kernel_rfl, by kernel_rfl, by kernel_rfl⟩, fun E h => by cases h; exact ⟨fun x => by simp [eInt, eBool, eStr, eList, ePair, tab], ⟨_, rfl, by simp [leD, leD1, eInt, eBool, eStr, eList, ePair]⟩⟩⟩
theorem tok_29 : TOK Try.prog 29 (tab 29) := ⟨Try.underlying29, fun _ => ⟨((Try.prog.info? 29).getD default), (((Try.prog.info? 29).getD default).zero).getD undef, by kernel_rfl, by kernel_rfl, by kernel_rfl, by kernel_rfl, by kernel_rfl, by kernel_rfl, by kernel_rfl⟩, ⟨((Try.prog.info? 29).getD default), by kernel_rfl, by kernel_rfl⟩, ⟨_, Try.underlying29, rfl⟩, by simp [tab, TI.isAgg], fun _ => ⟨((Try.prog.info? 29).getD default), (((Try.prog.info? 29).getD default).zero).getD undef, by kernel_rfl, by kernel_rfl, by kernel_rfl⟩, fun E h => by cases h; exact ⟨fun x => by simp [eInt, eBool, eStr, eList, ePair, tab], ⟨_, rfl, by simp [leD, leD1, eInt, eBool, eStr, eList, ePair]⟩⟩⟩
theorem tok_30 : TOK Try.prog 30 (tab 30) := ⟨Try.underlying30, fun _ => ⟨((Try.prog.info? 30).getD default), (((Try.prog.info? 30).getD default).zero).getD undef, by kernel_rfl, by kernel_rfl, by kernel_rfl, by kernel_rfl, by kernel_rfl, by kernel_rfl, by kernel_rfl⟩, ⟨((Try.prog.info? 30).getD default), by kernel_rfl, by kernel_rfl⟩, ⟨_, Try.underlying30, rfl⟩, by simp [tab, TI.isAgg], fun _ => ⟨((Try.prog.info? 30).getD default), (((Try.prog.info? 30).getD default).zero).getD undef, by kernel_rfl, by kernel_rfl, by kernel_rfl⟩, fun E h => by cases h; exact ⟨fun x => by simp [eInt, eBool, eStr, eList, ePair, tab], ⟨_, rfl, by simp [leD, leD1, eInt, eBool, eStr, eList, ePair]⟩⟩⟩
theorem tok_31 : TOK Try.prog 31 (tab 31) := ⟨⟨_, Try.underlying31, rfl⟩, fun _ => ⟨((Try.prog.info? 31).getD default), (((Try.prog.info? 31).getD default).zero).getD undef, by kernel_rfl, by kernel_rfl, by kernel_rfl, by kernel_rfl, by kernel_rfl, by kernel_rfl, by kernel_rfl⟩, ⟨((Try.prog.info? 31).getD default), by kernel_rfl, by kernel_rfl⟩, ⟨_, Try.underlying31, rfl⟩, by simp [tab, TI.isAgg], fun _ => ⟨((Try.prog.info? 31).getD default), (((Try.prog.info? 31).getD default).zero).getD undef, by kernel_rfl, by kernel_rfl, by kernel_rfl⟩, fun E h => by cases h; exact ⟨fun x => by simp [eInt, eBool, eStr, eList, ePair, tab], ⟨_, rfl, by simp [leD, leD1, eInt, eBool, eStr, eList, ePair]⟩⟩⟩
theorem tok_32 : TOK Try.prog 32 (tab 32) := ⟨⟨_, Try.underlying32, rfl⟩, fun _ => ⟨((Try.prog.info? 32).getD default), (((Try.prog.info? 32).getD default).zero).getD undef, by kernel_rfl, by kernel_rfl, by kernel_rfl, by kernel_rfl, by kernel_rfl, by kernel_rfl, by kernel_rfl⟩, ⟨((Try.prog.info? 32).getD default), by kernel_rfl, by kernel_rfl⟩, ⟨_, Try.underlying32, rfl⟩, by simp [tab, TI.isAgg], fun _ => ⟨((Try.prog.info? 32).getD default), (((Try.prog.info? 32).getD default).zero).getD undef, by kernel_rfl, by kernel_rfl, by kernel_rfl⟩, fun E h => by cases h; exact ⟨fun x => by simp [eInt, eBool, eStr, eList, ePair, tab], ⟨_, rfl, by simp [leD, leD1, eInt, eBool, eStr, eList, ePair]⟩⟩⟩
theorem tok_34 : TOK Try.prog 34 (tab 34) := ⟨Try.underlying34, fun _ => ⟨((Try.prog.info? 34).getD default), (((Try.prog.info? 34).getD default).zero).getD undef, by kernel_rfl, by kernel_rfl, by kernel_rfl, by kernel_rfl, by kernel_rfl, by kernel_rfl, by kernel_rfl⟩, ⟨((Try.prog.info? 34).getD default), by kernel_rfl, by kernel_rfl⟩, ⟨_, Try.underlying34, rfl⟩, by simp [tab, TI.isAgg], fun _ => ⟨((Try.prog.info? 34).getD default), (((Try.prog.info? 34).getD default).zero).getD undef, by kernel_rfl, by kernel_rfl, by kernel_rfl⟩, fun E h => by cases h; exact ⟨fun x => by simp [eInt, eBool, eStr, eList, ePair, tab], ⟨_, rfl, by simp [leD, leD1, eInt, eBool, eStr, eList, ePair]⟩⟩⟩
theorem tok_51 : TOK Try.prog 51 (tab 51) := ⟨Try.underlying51, fun _ => ⟨((Try.prog.info? 51).getD default), (((Try.prog.info? 51).getD default).zero).getD undef, by kernel_rfl, by kernel_rfl, by kernel_rfl, by kernel_rfl, by kernel_rfl, by kernel_rfl, by kernel_rfl⟩, ⟨((Try.prog.info? 51).getD default), by kernel_rfl, by kernel_rfl⟩, ⟨_, Try.underlying51, rfl⟩, by simp [tab, TI.isAgg], fun _ => ⟨((Try.prog.info? 51).getD default), (((Try.prog.info? 51).getD default).zero).getD undef, by kernel_rfl, by kernel_rfl, by kernel_rfl⟩, fun E h => by cases h; exact ⟨fun x => by simp [eInt, eBool, eStr, eList, ePair, tab], ⟨_, rfl, by simp [leD, leD1, eInt, eBool, eStr, eList, ePair]⟩⟩⟩
theorem tok_52 : TOK Try.prog 52 (tab 52) := ⟨⟨_, Try.underlying52, rfl⟩, fun _ => ⟨((Try.prog.info? 52).getD default), (((Try.prog.info? 52).getD default).zero).getD undef, by kernel_rfl, by kernel_rfl, by kernel_rfl, by kernel_rfl, by kernel_rfl, by kernel_rfl, by kernel_rfl⟩, ⟨((Try.prog.info? 52).getD default), by kernel_rfl, by kernel_rfl⟩, ⟨_, Try.underlying52, rfl⟩, by simp [tab, TI.isAgg], fun _ => ⟨((Try.prog.info? 52).getD default), (((Try.prog.info? 52).getD default).zero).getD undef, by kernel_rfl, by kernel_rfl, by kernel_rfl⟩, fun E h => by cases h; exact ⟨fun x => by simp [eInt, eBool, eStr, eList, ePair, tab], ⟨_, rfl, by simp [leD, leD1, eInt, eBool, eStr, eList, ePair]⟩⟩⟩
theorem tok_53 : TOK Try.prog 53 (tab 53) := ⟨⟨_, Try.underlying53, rfl⟩, fun _ => ⟨((Try.prog.info? 53).getD default), (((Try.prog.info? 53).getD default).zero).getD undef, by kernel_rfl, by kernel_rfl, by kernel_rfl, by kernel_rfl, by kernel_rfl, by kernel_rfl, by kernel_rfl⟩, ⟨((Try.prog.info? 53).getD default), by kernel_rfl, by kernel_rfl⟩, ⟨_, Try.underlying53, rfl⟩, by simp [tab, TI.isAgg], fun _ => ⟨((Try.prog.info? 53).getD default), (((Try.prog.info? 53).getD default).zero).getD undef, by kernel_rfl, by kernel_rfl, by kernel_rfl⟩, fun E h => by cases h; exact ⟨fun x => by simp [eInt, eBool, eStr, eList, ePair, tab], ⟨_, rfl, by simp [leD, leD1, eInt, eBool, eStr, eList, ePair]⟩⟩⟩
theorem tok_57 : TOK Try.prog 57 (tab 57) := ⟨Try.underlying57, fun _ => ⟨((Try.prog.info? 57).getD default), (((Try.prog.info? 57).getD default).zero).getD undef, by kernel_rfl, by kernel_rfl, by kernel_rfl, by kernel_rfl, by kernel_rfl, by kernel_rfl, by kernel_rfl⟩, ⟨((Try.prog.info? 57).getD default), by kernel_rfl, by kernel_rfl⟩, ⟨_, Try.underlying57, rfl⟩, by simp [tab, TI.isAgg], fun _ => ⟨((Try.prog.info? 57).getD default), (((Try.prog.info? 57).getD default).zero).getD undef, by kernel_rfl, by kernel_rfl, by kernel_rfl⟩, fun E h => by cases h⟩
theorem tok_59 : TOK Try.prog 59 (tab 59) := ⟨Try.underlying59, fun _ => ⟨((Try.prog.info? 59).getD default), (((Try.prog.info? 59).getD default).zero).getD undef, by kernel_rfl, by kernel_rfl, by kernel_rfl, by kernel_rfl, by kernel_rfl, by kernel_rfl, by kernel_rfl⟩, ⟨((Try.prog.info? 59).getD default), by kernel_rfl, by kernel_rfl⟩, ⟨_, Try.underlying59, rfl⟩, by simp [tab, TI.isAgg], fun _ => ⟨((Try.prog.info? 59).getD default), (((Try.prog.info? 59).getD default).zero).getD undef, by kernel_rfl, by kernel_rfl, by kernel_rfl⟩, fun E h => by cases h; exact ⟨fun x => by simp [eInt, eBool, eStr, eList, ePair, tab], ⟨_, rfl, by simp [leD, leD1, eInt, eBool, eStr, eList, ePair]⟩⟩⟩
theorem tok_71 : TOK Try.prog 71 (tab 71) := ⟨⟨_, _, _, Try.underlying71⟩, fun _ => ⟨((Try.prog.info? 71).getD default), (((Try.prog.info? 71).getD default).zero).getD undef, by kernel_rfl, by kernel_rfl, by kernel_rfl, by kernel_rfl, by kernel_rfl, by kernel_rfl, by kernel_rfl⟩, ⟨((Try.prog.info? 71).getD default), by kernel_rfl, by kernel_rfl⟩, ⟨_, Try.underlying71, rfl⟩, by simp [tab, TI.isAgg], fun _ => ⟨((Try.prog.info? 71).getD default), (((Try.prog.info? 71).getD default).zero).getD undef, by kernel_rfl, by kernel_rfl, by kernel_rfl⟩, fun E h => by cases h⟩
theorem tok_73 : TOK Try.prog 73 (tab 73) := ⟨⟨_, Try.underlying73, rfl⟩, fun _ => ⟨((Try.prog.info? 73).getD default), (((Try.prog.info? 73).getD default).zero).getD undef, by kernel_rfl, by kernel_rfl, by kernel_rfl, by kernel_rfl, by kernel_rfl, by kernel_rfl, by kernel_rfl⟩, ⟨((Try.prog.info? 73).getD default), by kernel_rfl, by kernel_rfl⟩, ⟨_, Try.underlying73, rfl⟩, by simp [tab, TI.isAgg], fun _ => ⟨((Try.prog.info? 73).getD default), (((Try.prog.info? 73).getD default).zero).getD undef, by kernel_rfl, by kernel_rfl, by kernel_rfl⟩, fun E h => by cases h; exact ⟨fun x => by simp [eInt, eBool, eStr, eList, ePair, tab], ⟨_, rfl, by simp [leD, leD1, eInt, eBool, eStr, eList, ePair]⟩⟩⟩
theorem tok_74 : TOK Try.prog 74 (tab 74) := ⟨⟨_, Try.underlying74, rfl⟩, fun _ => ⟨((Try.prog.info? 74).getD default), (((Try.prog.info? 74).getD default).zero).getD undef, by kernel_rfl, by kernel_rfl, by kernel_rfl, by kernel_rfl, by kernel_rfl, by kernel_rfl, by kernel_rfl⟩, ⟨((Try.prog.info? 74).getD default), by kernel_rfl, by kernel_rfl⟩, ⟨_, Try.underlying74, rfl⟩, by simp [tab, TI.isAgg], fun _ => ⟨((Try.prog.info? 74).getD default), (((Try.prog.info? 74).getD default).zero).getD undef, by kernel_rfl, by kernel_rfl, by kernel_rfl⟩, fun E h => by cases h; exact ⟨fun x => by simp [eInt, eBool, eStr, eList, ePair, tab], ⟨_, rfl, by simp [leD, leD1, eInt, eBool, eStr, eList, ePair]⟩⟩⟩
theorem tok_91 : TOK Try.prog 91 (tab 91) := ⟨Try.underlying91, fun _ => ⟨((Try.prog.info? 91).getD default), (((Try.prog.info? 91).getD default).zero).getD undef, by kernel_rfl, by kernel_rfl, by kernel_rfl, by kernel_rfl, by kernel_rfl, by kernel_rfl, by kernel_rfl⟩, ⟨((Try.prog.info? 91).getD default), by kernel_rfl, by kernel_rfl⟩, ⟨_, Try.underlying91, rfl⟩, by simp [tab, TI.isAgg], fun _ => ⟨((Try.prog.info? 91).getD default), (((Try.prog.info? 91).getD default).zero).getD undef, by kernel_rfl, by kernel_rfl, by kernel_rfl⟩, fun E h => by cases h; exact ⟨fun x => by simp [eInt, eBool, eStr, eList, ePair, tab], ⟨_, rfl, by simp [leD, leD1, eInt, eBool, eStr, eList, ePair]⟩⟩⟩
theorem tok_94 : TOK Try.prog 94 (tab 94) := ⟨Try.underlying94, fun _ => ⟨((Try.prog.info? 94).getD default), (((Try.prog.info? 94).getD default).zero).getD undef, by kernel_rfl, by kernel_rfl, by kernel_rfl, by kernel_rfl, by kernel_rfl, by kernel_rfl, by kernel_rfl⟩, ⟨((Try.prog.info? 94).getD default), by kernel_rfl, by kernel_rfl⟩, ⟨_, Try.underlying94, rfl⟩, by simp [tab, TI.isAgg], fun _ => ⟨((Try.prog.info? 94).getD default), (((Try.prog.info? 94).getD default).zero).getD undef, by kernel_rfl, by kernel_rfl, by kernel_rfl⟩, fun E h => by cases h; exact ⟨fun x => by simp [eInt, eBool, eStr, eList, ePair, tab], ⟨_, rfl, by simp [leD, leD1, eInt, eBool, eStr, eList, ePair]⟩⟩⟩
theorem tok_96 : TOK Try.prog 96 (tab 96) := ⟨Try.underlying96, fun _ => ⟨((Try.prog.info? 96).getD default), (((Try.prog.info? 96).getD default).zero).getD undef, by kernel_rfl, by kernel_rfl, by kernel_rfl, by kernel_rfl, by kernel_rfl, by kernel_rfl, by kernel_rfl⟩, ⟨((Try.prog.info? 96).getD default), by kernel_rfl, by kernel_rfl⟩, ⟨_, Try.underlying96, rfl⟩, by simp [tab, TI.isAgg], fun _ => ⟨((Try.prog.info? 96).getD default), (((Try.prog.info? 96).getD default).zero).getD undef, by kernel_rfl, by kernel_rfl, by kernel_rfl⟩, fun E h => by cases h; exact ⟨fun x => by simp [eInt, eBool, eStr, eList, ePair, tab], ⟨_, rfl, by simp [leD, leD1, eInt, eBool, eStr, eList, ePair]⟩⟩⟩
theorem tok_104 : TOK Try.prog 104 (tab 104) := ⟨⟨_, Try.underlying104, rfl⟩, fun _ => ⟨((Try.prog.info? 104).getD default), (((Try.prog.info? 104).getD default).zero).getD undef, by kernel_rfl, by kernel_rfl, by kernel_rfl, by kernel_rfl, by kernel_rfl, by kernel_rfl, by kernel_rfl⟩, ⟨((Try.prog.info? 104).getD default), by kernel_rfl, by kernel_rfl⟩, ⟨_, Try.underlying104, rfl⟩, by simp [tab, TI.isAgg], fun _ => ⟨((Try.prog.info? 104).getD default), (((Try.prog.info? 104).getD default).zero).getD undef, by kernel_rfl, by kernel_rfl, by kernel_rfl⟩, fun E h => by cases h; exact ⟨fun x => by simp [eInt, eBool, eStr, eList, ePair, tab], ⟨_, rfl, by simp [leD, leD1, eInt, eBool, eStr, eList, ePair]⟩⟩⟩
theorem tok_105 : TOK Try.prog 105 (tab 105) := ⟨⟨_, Try.underlying105, rfl⟩, fun _ => ⟨((Try.prog.info? 105).getD default), (((Try.prog.info? 105).getD default).zero).getD undef, by kernel_rfl, by kernel_rfl, by kernel_rfl, by kernel_rfl, by kernel_rfl, by kernel_rfl, by kernel_rfl⟩, ⟨((Try.prog.info? 105).getD default), by kernel_rfl, by kernel_rfl⟩, ⟨_, Try.underlying105, rfl⟩, by simp [tab, TI.isAgg], fun _ => ⟨((Try.prog.info? 105).getD default), (((Try.prog.info? 105).getD default).zero).getD undef, by kernel_rfl, by kernel_rfl, by kernel_rfl⟩, fun E h => by cases h; exact ⟨fun x => by simp [eInt, eBool, eStr, eList, ePair, tab], ⟨_, rfl, by simp [leD, leD1, eInt, eBool, eStr, eList, ePair]⟩⟩⟩
theorem tok_106 : TOK Try.prog 106 (tab 106) := ⟨Try.underlying106, fun _ => ⟨((Try.prog.info? 106).getD default), (((Try.prog.info? 106).getD default).zero).getD undef, by kernel_rfl, by kernel_rfl, by kernel_rfl, by kernel_rfl, by kernel_rfl, by kernel_rfl, by kernel_rfl⟩, ⟨((Try.prog.info? 106).getD default), by kernel_rfl, by kernel_rfl⟩, ⟨_, Try.underlying106, rfl⟩, by simp [tab, TI.isAgg], fun _ => ⟨((Try.prog.info? 106).getD default), (((Try.prog.info? 106).getD default).zero).getD undef, by kernel_rfl, by kernel_rfl, by kernel_rfl⟩, fun E h => by cases h; exact ⟨fun x => by simp [eInt, eBool, eStr, eList, ePair, tab], ⟨_, rfl, by simp [leD, leD1, eInt, eBool, eStr, eList, ePair]⟩⟩⟩
theorem tok_107 : TOK Try.prog 107 (tab 107) := ⟨Try.underlying107, fun _ => ⟨((Try.prog.info? 107).getD default), (((Try.prog.info? 107).getD default).zero).getD undef, by kernel_rfl, by kernel_rfl, by kernel_rfl, by kernel_rfl, by kernel_rfl, by kernel_rfl, by kernel_rfl⟩, ⟨((Try.prog.info? 107).getD default), by kernel_rfl, by kernel_rfl⟩, ⟨_, Try.underlying107, rfl⟩, by simp [tab, TI.isAgg], fun _ => ⟨((Try.prog.info? 107).getD default), (((Try.prog.info? 107).getD default).zero).getD undef, by kernel_rfl, by kernel_rfl, by kernel_rfl⟩, fun E h => by cases h; exact ⟨fun x => by simp [eInt, eBool, eStr, eList, ePair, tab], ⟨_, rfl, by simp [leD, leD1, eInt, eBool, eStr, eList, ePair]⟩⟩⟩
theorem tok_108 : TOK Try.prog 108 (tab 108) := ⟨Try.underlying108, fun _ => ⟨((Try.prog.info? 108).getD default), (((Try.prog.info? 108).getD default).zero).getD undef, by kernel_rfl, by kernel_rfl, by kernel_rfl, by kernel_rfl, by kernel_rfl, by kernel_rfl, by kernel_rfl⟩, ⟨((Try.prog.info? 108).getD default), by kernel_rfl, by kernel_rfl⟩, ⟨_, Try.underlying108, rfl⟩, by simp [tab, TI.isAgg], fun _ => ⟨((Try.prog.info? 108).getD default), (((Try.prog.info? 108).getD default).zero).getD undef, by kernel_rfl, by kernel_rfl, by kernel_rfl⟩, fun E h => by cases h; exact ⟨fun x => by simp [eInt, eBool, eStr, eList, ePair, tab], ⟨_, rfl, by simp [leD, leD1, eInt, eBool, eStr, eList, ePair]⟩⟩⟩
theorem tok_113 : TOK Try.prog 113 (tab 113) := ⟨Try.underlying113, fun _ => ⟨((Try.prog.info? 113).getD default), (((Try.prog.info? 113).getD default).zero).getD undef, by kernel_rfl, by kernel_rfl, by kernel_rfl, by kernel_rfl, by kernel_rfl, by kernel_rfl, by kernel_rfl⟩, ⟨((Try.prog.info? 113).getD default), by kernel_rfl, by kernel_rfl⟩, ⟨_, Try.underlying113, rfl⟩, by simp [tab, TI.isAgg], fun _ => ⟨((Try.prog.info? 113).getD default), (((Try.prog.info? 113).getD default).zero).getD undef, by kernel_rfl, by kernel_rfl, by kernel_rfl⟩, fun E h => by cases h; exact ⟨fun x => by simp [eInt, eBool, eStr, eList, ePair, tab], ⟨_, rfl, by simp [leD, leD1, eInt, eBool, eStr, eList, ePair]⟩⟩⟩
theorem tok_116 : TOK Try.prog 116 (tab 116) := ⟨Try.underlying116, fun _ => ⟨((Try.prog.info? 116).getD default), (((Try.prog.info? 116).getD default).zero).getD undef, by kernel_rfl, by kernel_rfl, by kernel_rfl, by kernel_rfl, by kernel_rfl, by kernel_rfl, by kernel_rfl⟩, ⟨((Try.prog.info? 116).getD default), by kernel_rfl, by kernel_rfl⟩, ⟨_, Try.underlying116, rfl⟩, by simp [tab, TI.isAgg], fun _ => ⟨((Try.prog.info? 116).getD default), (((Try.prog.info? 116).getD default).zero).getD undef, by kernel_rfl, by kernel_rfl, by kernel_rfl⟩, fun E h => by cases h; exact ⟨fun x => by simp [eInt, eBool, eStr, eList, ePair, tab], ⟨_, rfl, by simp [leD, leD1, eInt, eBool, eStr, eList, ePair]⟩⟩⟩
theorem tok_126 : TOK Try.prog 126 (tab 126) := ⟨Try.underlying126, fun _ => ⟨((Try.prog.info? 126).getD default), (((Try.prog.info? 126).getD default).zero).getD undef, by kernel_rfl, by kernel_rfl, by kernel_rfl, by kernel_rfl, by kernel_rfl, by kernel_rfl, by kernel_rfl⟩, ⟨((Try.prog.info? 126).getD default), by kernel_rfl, by kernel_rfl⟩, ⟨_, Try.underlying126, rfl⟩, by simp [tab, TI.isAgg], fun _ => ⟨((Try.prog.info? 126).getD default), (((Try.prog.info? 126).getD default).zero).getD undef, by kernel_rfl, by kernel_rfl, by kernel_rfl⟩, fun E h => by cases h⟩
theorem tok_132 : TOK Try.prog 132 (tab 132) := ⟨Try.underlying132, fun _ => ⟨((Try.prog.info? 132).getD default), (((Try.prog.info? 132).getD default).zero).getD undef, by kernel_rfl, by kernel_rfl, by kernel_rfl, by kernel_rfl, by kernel_rfl, by kernel_rfl, by kernel_rfl⟩, ⟨((Try.prog.info? 132).getD default), by kernel_rfl, by kernel_rfl⟩, ⟨_, Try.underlying132, rfl⟩, by simp [tab, TI.isAgg], fun _ => ⟨((Try.prog.info? 132).getD default), (((Try.prog.info? 132).getD default).zero).getD undef, by kernel_rfl, by kernel_rfl, by kernel_rfl⟩, fun E h => by cases h; exact ⟨fun x => by simp [eInt, eBool, eStr, eList, ePair, tab], ⟨_, rfl, by simp [leD, leD1, eInt, eBool, eStr, eList, ePair]⟩⟩⟩
theorem tok_139 : TOK Try.prog 139 (tab 139) := ⟨Try.underlying139, fun _ => ⟨((Try.prog.info? 139).getD default), (((Try.prog.info? 139).getD default).zero).getD undef, by kernel_rfl, by kernel_rfl, by kernel_rfl, by kernel_rfl, by kernel_rfl, by kernel_rfl, by kernel_rfl⟩, ⟨((Try.prog.info? 139).getD default), by kernel_rfl, by kernel_rfl⟩, ⟨_, Try.underlying139, rfl⟩, by simp [tab, TI.isAgg], fun _ => ⟨((Try.prog.info? 139).getD default), (((Try.prog.info? 139).getD default).zero).getD undef, by kernel_rfl, by kernel_rfl, by kernel_rfl⟩, fun E h => by cases h⟩
theorem tok_148 : TOK Try.prog 148 (tab 148) := ⟨Try.underlying148, fun _ => ⟨((Try.prog.info? 148).getD default), (((Try.prog.info? 148).getD default).zero).getD undef, by kernel_rfl, by kernel_rfl, by kernel_rfl, by kernel_rfl, by kernel_rfl, by kernel_rfl, by kernel_rfl⟩, ⟨((Try.prog.info? 148).getD default), by kernel_rfl, by kernel_rfl⟩, ⟨_, Try.underlying148, rfl⟩, by simp [tab, TI.isAgg], fun _ => ⟨((Try.prog.info? 148).getD default), (((Try.prog.info? 148).getD default).zero).getD undef, by kernel_rfl, by kernel_rfl, by kernel_rfl⟩, fun E h => by cases h; exact ⟨fun x => by simp [eInt, eBool, eStr, eList, ePair, tab], ⟨_, rfl, by simp [leD, leD1, eInt, eBool, eStr, eList, ePair]⟩⟩⟩
theorem tok_155 : TOK Try.prog 155 (tab 155) := ⟨Try.underlying155, fun _ => ⟨((Try.prog.info? 155).getD default), (((Try.prog.info? 155).getD default).zero).getD undef, by kernel_rfl, by kernel_rfl, by kernel_rfl, by kernel_rfl, by kernel_rfl, by kernel_rfl, by kernel_rfl⟩, ⟨((Try.prog.info? 155).getD default), by kernel_rfl, by kernel_rfl⟩, ⟨_, Try.underlying155, rfl⟩, by simp [tab, TI.isAgg], fun _ => ⟨((Try.prog.info? 155).getD default), (((Try.prog.info? 155).getD default).zero).getD undef, by kernel_rfl, by kernel_rfl, by kernel_rfl⟩, fun E h => by cases h; exact ⟨fun x => by simp [eInt, eBool, eStr, eList, ePair, tab], ⟨_, rfl, by simp [leD, leD1, eInt, eBool, eStr, eList, ePair]⟩⟩⟩
theorem tok_159 : TOK Try.prog 159 (tab 159) := ⟨Try.underlying159, fun _ => ⟨((Try.prog.info? 159).getD default), (((Try.prog.info? 159).getD default).zero).getD undef, by kernel_rfl, by kernel_rfl, by kernel_rfl, by kernel_rfl, by kernel_rfl, by kernel_rfl, by kernel_rfl⟩, ⟨((Try.prog.info? 159).getD default), by kernel_rfl, by kernel_rfl⟩, ⟨_, Try.underlying159, rfl⟩, by simp [tab, TI.isAgg], fun _ => ⟨((Try.prog.info? 159).getD default), (((Try.prog.info? 159).getD default).zero).getD undef, by kernel_rfl, by kernel_rfl, by kernel_rfl⟩, fun E h => by cases h⟩
theorem tok_162 : TOK Try.prog 162 (tab 162) := ⟨Try.underlying162, fun _ => ⟨((Try.prog.info? 162).getD default), (((Try.prog.info? 162).getD default).zero).getD undef, by kernel_rfl, by kernel_rfl, by kernel_rfl, by kernel_rfl, by kernel_rfl, by kernel_rfl, by kernel_rfl⟩, ⟨((Try.prog.info? 162).getD default), by kernel_rfl, by kernel_rfl⟩, ⟨_, Try.underlying162, rfl⟩, by simp [tab, TI.isAgg], fun _ => ⟨((Try.prog.info? 162).getD default), (((Try.prog.info? 162).getD default).zero).getD undef, by kernel_rfl, by kernel_rfl, by kernel_rfl⟩, fun E h => by cases h⟩
theorem tok_174 : TOK Try.prog 174 (tab 174) := ⟨Try.underlying174, fun _ => ⟨((Try.prog.info? 174).getD default), (((Try.prog.info? 174).getD default).zero).getD undef, by kernel_rfl, by kernel_rfl, by kernel_rfl, by kernel_rfl, by kernel_rfl, by kernel_rfl, by kernel_rfl⟩, ⟨((Try.prog.info? 174).getD default), by kernel_rfl, by kernel_rfl⟩, ⟨_, Try.underlying174, rfl⟩, by simp [tab, TI.isAgg], fun _ => ⟨((Try.prog.info? 174).getD default), (((Try.prog.info? 174).getD default).zero).getD undef, by kernel_rfl, by kernel_rfl, by kernel_rfl⟩, fun E h => by cases h⟩
theorem tabOK : TabOK Try.prog tab where
  of := by
    intro t h
    unfold tab at h
    split at h
    · exact tok_2
    · exact tok_3
    · exact tok_4
    · exact tok_5
    · exact tok_9
    · exact tok_12
    · exact tok_15
    · exact tok_16
    · exact tok_17
    · exact tok_21
    · exact tok_25
    · exact tok_26
    · exact tok_27
    · exact tok_28
    · exact tok_29
    · exact tok_30
    · exact tok_31
    · exact tok_32
    · exact tok_34
    · exact tok_51
    · exact tok_52
    · exact tok_53
    · exact tok_57
    · exact tok_59
    · exact tok_71
    · exact tok_73
    · exact tok_74
    · exact tok_91
    · exact tok_94
    · exact tok_96
    · exact tok_104
    · exact tok_105
    · exact tok_106
    · exact tok_107
    · exact tok_108
    · exact tok_113
    · exact tok_116
    · exact tok_126
    · exact tok_132
    · exact tok_139
    · exact tok_148
    · exact tok_155
    · exact tok_159
    · exact tok_162
    · exact tok_174
    · exact absurd rfl h
  none := by
    intro t h
    unfold tab at h ⊢
    split at h <;> first | rfl | cases h
  closed := by
    intro t e h he
    unfold tab at h he
    split at h <;> simp only [Sh.subs, List.map_cons, List.map_nil, List.mem_cons, List.not_mem_nil, or_false] at he <;> first | exact he.elim | exact absurd rfl h | (subst he; simp [tab]) | (rcases he with he | he <;> subst he <;> simp [tab]) | (rcases he with he | he | he <;> subst he <;> simp [tab]) | (rcases he with he | he | he | he <;> subst he <;> simp [tab])
theorem mixed : Try.prog.follows .mixedOrders = true := by kernel_rfl
end Go.Vc
