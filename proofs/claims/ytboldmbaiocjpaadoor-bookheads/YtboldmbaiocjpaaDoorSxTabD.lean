/-
  Walks: TabD: what single functions of the program compute.
-/
import Derived.Test.YtboldmbaiocjpaaDoorSxV7
import Derived.Test.YtboldmbaiocjpaaDoorSxW
import Derived.Test.YtboldmbaiocjpaaDoorRows
set_option linter.unusedVariables false
set_option linter.unusedSimpArgs false
namespace Go.SX

def tab : Tab Cd
  | 1 => some { kind := .other, size := 1, bytes := 8, zero := [.p (.lit .nilFunc)], code := none }
  | 2 => some { kind := .int .i64, size := 1, bytes := 8, zero := [.p (.int .i64 0)], code := none }
  | 3 => some { kind := .int .i64, size := 1, bytes := 8, zero := [.p (.int .i64 0)], code := some U.int }
  | 4 => some { kind := .bool, size := 1, bytes := 1, zero := [.p (.bool false)], code := some U.bool }
  | 5 => some { kind := .int .u8, size := 1, bytes := 1, zero := [.p (.int .u8 0)], code := some U.u8 }
  | 9 => some { kind := .str, size := 1, bytes := 16, zero := [.p (.str [])], code := some U.str }
  | 12 => some { kind := .int .u64, size := 1, bytes := 8, zero := [.p (.int .u64 0)], code := none }
  | 13 => some { kind := .struct [(0, 9), (1, 12)], size := 2, bytes := 24, zero := [.p (.str []), .p (.int .u64 0)], code := none }
  | 20 => some { kind := .other, size := 1, bytes := 16, zero := [.p (.lit .nilIface)], code := none }
  | 21 => some { kind := .int .i32, size := 1, bytes := 4, zero := [.p (.int .i32 0)], code := none }
  | 22 => some { kind := .slice 9, size := 1, bytes := 24, zero := [.p (.lit (.slice none 0 0))], code := none }
  | 23 => some { kind := .other, size := 1, bytes := 8, zero := [.p (.lit .nilFunc)], code := none }
  | 24 => some { kind := .other, size := 1, bytes := 8, zero := [.p (.lit .nilFunc)], code := none }
  | 25 => some { kind := .int .i64, size := 1, bytes := 8, zero := [.p (.int .i64 0)], code := some U.int }
  | 27 => some { kind := .other, size := 1, bytes := 8, zero := [.p (.lit .nilFunc)], code := none }
  | 28 => some { kind := .other, size := 1, bytes := 8, zero := [.p (.lit .nilFunc)], code := none }
  | 29 => some { kind := .other, size := 1, bytes := 8, zero := [.p (.lit .nilFunc)], code := none }
  | 30 => some { kind := .other, size := 1, bytes := 8, zero := [.p (.lit .nilFunc)], code := none }
  | 31 => some { kind := .other, size := 1, bytes := 8, zero := [.p (.lit .nilFunc)], code := none }
  | 32 => some { kind := .other, size := 1, bytes := 8, zero := [.p (.lit .nilFunc)], code := none }
  | 33 => some { kind := .other, size := 1, bytes := 8, zero := [.p (.lit .nilFunc)], code := none }
  | 34 => some { kind := .other, size := 1, bytes := 8, zero := [.p (.lit .nilFunc)], code := none }
  | 35 => some { kind := .other, size := 1, bytes := 8, zero := [.p (.lit .nilFunc)], code := none }
  | 37 => some { kind := .other, size := 1, bytes := 8, zero := [.p (.lit .nilFunc)], code := none }
  | 38 => some { kind := .other, size := 1, bytes := 8, zero := [.p (.lit .nilFunc)], code := none }
  | 39 => some { kind := .other, size := 1, bytes := 8, zero := [.p (.lit .nilFunc)], code := none }
  | 40 => some { kind := .other, size := 1, bytes := 8, zero := [.p (.lit .nilFunc)], code := none }
  | 41 => some { kind := .other, size := 1, bytes := 8, zero := [.p (.lit .nilFunc)], code := none }
  | 42 => some { kind := .other, size := 1, bytes := 8, zero := [.p (.lit .nilFunc)], code := none }
  | 43 => some { kind := .other, size := 1, bytes := 8, zero := [.p (.lit .nilFunc)], code := none }
  | 44 => some { kind := .other, size := 1, bytes := 8, zero := [.p (.lit .nilFunc)], code := none }
  | 45 => some { kind := .other, size := 1, bytes := 8, zero := [.p (.lit .nilFunc)], code := none }
  | 46 => some { kind := .slice 5, size := 1, bytes := 24, zero := [.p (.lit (.slice none 0 0))], code := none }
  | 47 => some { kind := .slice 52, size := 1, bytes := 24, zero := [.p (.lit (.slice none 0 0))], code := none }
  | 48 => some { kind := .struct [(0, 3), (1, 47), (2, 3)], size := 3, bytes := 40, zero := [.p (.int .i64 0), .p (.lit (.slice none 0 0)), .p (.int .i64 0)], code := none }
  | 49 => some { kind := .struct [(0, 3), (1, 47), (2, 3)], size := 3, bytes := 40, zero := [.p (.int .i64 0), .p (.lit (.slice none 0 0)), .p (.int .i64 0)], code := some U.book }
  | 50 => some { kind := .slice 116, size := 1, bytes := 24, zero := [.p (.lit (.slice none 0 0))], code := none }
  | 51 => some { kind := .struct [(0, 3), (1, 3), (2, 3), (3, 3), (4, 3), (5, 3), (6, 3)], size := 7, bytes := 56, zero := [.p (.int .i64 0), .p (.int .i64 0), .p (.int .i64 0), .p (.int .i64 0), .p (.int .i64 0), .p (.int .i64 0), .p (.int .i64 0)], code := none }
  | 52 => some { kind := .struct [(0, 3), (1, 3), (2, 3), (3, 3), (4, 3), (5, 3), (6, 3)], size := 7, bytes := 56, zero := [.p (.int .i64 0), .p (.int .i64 0), .p (.int .i64 0), .p (.int .i64 0), .p (.int .i64 0), .p (.int .i64 0), .p (.int .i64 0)], code := some U.posting, cks := [.int .i64, .int .i64, .int .i64, .int .i64, .int .i64, .int .i64, .int .i64] }
  | 54 => some { kind := .other, size := 1, bytes := 8, zero := [.p (.lit .nilFunc)], code := none }
  | 55 => some { kind := .other, size := 1, bytes := 8, zero := [.p (.lit .nilFunc)], code := none }
  | 56 => some { kind := .slice 49, size := 1, bytes := 24, zero := [.p (.lit (.slice none 0 0))], code := none }
  | 57 => some { kind := .other, size := 1, bytes := 8, zero := [.p (.lit .nilFunc)], code := none }
  | 58 => some { kind := .other, size := 1, bytes := 8, zero := [.p (.lit .nilFunc)], code := none }
  | 59 => some { kind := .other, size := 1, bytes := 8, zero := [.p (.lit .nilFunc)], code := none }
  | 60 => some { kind := .other, size := 1, bytes := 8, zero := [.p (.lit .nilFunc)], code := none }
  | 61 => some { kind := .other, size := 1, bytes := 8, zero := [.p (.lit .nilFunc)], code := none }
  | 62 => some { kind := .other, size := 1, bytes := 8, zero := [.p (.lit .nilFunc)], code := none }
  | 63 => some { kind := .other, size := 1, bytes := 8, zero := [.p (.lit .nilFunc)], code := none }
  | 64 => some { kind := .slice 3, size := 1, bytes := 24, zero := [.p (.lit (.slice none 0 0))], code := none }
  | 65 => some { kind := .other, size := 1, bytes := 8, zero := [.p (.lit .nilFunc)], code := none }
  | 66 => some { kind := .other, size := 1, bytes := 8, zero := [.p (.lit .nilFunc)], code := none }
  | 67 => some { kind := .other, size := 1, bytes := 8, zero := [.p (.lit .nilFunc)], code := none }
  | 68 => some { kind := .other, size := 1, bytes := 8, zero := [.p (.lit .nilFunc)], code := none }
  | 69 => some { kind := .slice 73, size := 1, bytes := 24, zero := [.p (.lit (.slice none 0 0))], code := none }
  | 71 => some { kind := .other, size := 1, bytes := 8, zero := [.p (.lit .nilFunc)], code := none }
  | 72 => some { kind := .struct [(0, 9), (1, 4)], size := 2, bytes := 24, zero := [.p (.str []), .p (.bool false)], code := none }
  | 73 => some { kind := .struct [(0, 9), (1, 4)], size := 2, bytes := 24, zero := [.p (.str []), .p (.bool false)], code := some U.side, cks := [.str, .bool] }
  | 74 => some { kind := .other, size := 1, bytes := 8, zero := [.p (.lit .nilFunc)], code := none }
  | 75 => some { kind := .other, size := 1, bytes := 8, zero := [.p (.lit .nilFunc)], code := none }
  | 76 => some { kind := .other, size := 1, bytes := 8, zero := [.p (.lit .nilFunc)], code := none }
  | 78 => some { kind := .other, size := 1, bytes := 8, zero := [.p (.lit .nilFunc)], code := none }
  | 79 => some { kind := .other, size := 1, bytes := 8, zero := [.p (.lit .nilFunc)], code := none }
  | 81 => some { kind := .other, size := 1, bytes := 8, zero := [.p (.lit .nilFunc)], code := none }
  | 82 => some { kind := .other, size := 1, bytes := 8, zero := [.p (.lit .nilFunc)], code := none }
  | 83 => some { kind := .other, size := 1, bytes := 8, zero := [.p (.lit .nilFunc)], code := none }
  | 84 => some { kind := .int .u32, size := 1, bytes := 4, zero := [.p (.int .u32 0)], code := some U.u32 }
  | 85 => some { kind := .arr 8 84, size := 8, bytes := 32, zero := [.arr U.u32 8 (List.replicate 8 (Cd.dflt U.u32))], code := none, cks := [.int .u32, .int .u32, .int .u32, .int .u32, .int .u32, .int .u32, .int .u32, .int .u32] }
  | 86 => some { kind := .arr 8 84, size := 8, bytes := 32, zero := [.arr U.u32 8 (List.replicate 8 (Cd.dflt U.u32))], code := none, cks := [.int .u32, .int .u32, .int .u32, .int .u32, .int .u32, .int .u32, .int .u32, .int .u32] }
  | 87 => some { kind := .other, size := 1, bytes := 8, zero := [.p (.lit .nilFunc)], code := none }
  | 88 => some { kind := .other, size := 1, bytes := 8, zero := [.p (.lit .nilFunc)], code := none }
  | 89 => some { kind := .other, size := 1, bytes := 8, zero := [.p (.lit .nilFunc)], code := none }
  | 90 => some { kind := .other, size := 1, bytes := 8, zero := [.p (.lit .nilFunc)], code := none }
  | 91 => some { kind := .other, size := 1, bytes := 8, zero := [.p (.lit .nilFunc)], code := none }
  | 92 => some { kind := .slice 84, size := 1, bytes := 24, zero := [.p (.lit (.slice none 0 0))], code := none }
  | 93 => some { kind := .other, size := 1, bytes := 8, zero := [.p (.lit .nilFunc)], code := none }
  | 94 => some { kind := .other, size := 1, bytes := 8, zero := [.p (.lit .nilFunc)], code := none }
  | 95 => some { kind := .int .u64, size := 1, bytes := 8, zero := [.p (.int .u64 0)], code := none }
  | 97 => some { kind := .other, size := 1, bytes := 8, zero := [.p (.lit .nilFunc)], code := none }
  | 99 => some { kind := .other, size := 1, bytes := 8, zero := [.p (.lit .nilFunc)], code := none }
  | 101 => some { kind := .other, size := 1, bytes := 8, zero := [.p (.lit .nilFunc)], code := none }
  | 102 => some { kind := .other, size := 1, bytes := 8, zero := [.p (.lit .nilFunc)], code := none }
  | 104 => some { kind := .other, size := 1, bytes := 8, zero := [.p (.lit .nilFunc)], code := none }
  | 105 => some { kind := .other, size := 1, bytes := 8, zero := [.p (.lit .nilFunc)], code := none }
  | 106 => some { kind := .other, size := 1, bytes := 8, zero := [.p (.lit .nilFunc)], code := none }
  | 107 => some { kind := .ptr 109, size := 1, bytes := 8, zero := [.p (.lit (.pointer none))], code := none }
  | 108 => some { kind := .struct [(0, 107), (1, 46)], size := 2, bytes := 32, zero := [.p (.lit (.pointer none)), .p (.lit (.slice none 0 0))], code := none }
  | 109 => some { kind := .struct [(0, 107), (1, 46)], size := 2, bytes := 32, zero := [.p (.lit (.pointer none)), .p (.lit (.slice none 0 0))], code := none, typed := true }
  | 110 => some { kind := .other, size := 1, bytes := 8, zero := [.p (.lit .nilFunc)], code := none }
  | 111 => some { kind := .other, size := 1, bytes := 16, zero := [.p (.lit .nilIface)], code := none }
  | 112 => some { kind := .other, size := 1, bytes := 16, zero := [.p (.lit .nilIface)], code := none }
  | 114 => some { kind := .other, size := 1, bytes := 8, zero := [.p (.lit .nilFunc)], code := none }
  | 115 => some { kind := .other, size := 1, bytes := 8, zero := [.p (.lit .nilFunc)], code := none }
  | 116 => some { kind := .arr 5 3, size := 5, bytes := 40, zero := [.arr U.int 5 (List.replicate 5 (Cd.dflt U.int))], code := some U.arr5, cks := [.int .i64, .int .i64, .int .i64, .int .i64, .int .i64] }
  | 117 => some { kind := .ptr 123, size := 1, bytes := 8, zero := [.p (.lit (.pointer none))], code := none }
  | 119 => some { kind := .other, size := 1, bytes := 8, zero := [.p (.lit .nilFunc)], code := none }
  | 120 => some { kind := .other, size := 1, bytes := 8, zero := [.p (.lit .nilFunc)], code := none }
  | 121 => some { kind := .arr 200 4, size := 200, bytes := 200, zero := [.arr U.bool 200 (List.replicate 200 (Cd.dflt U.bool))], code := none, seq := true }
  | 122 => some { kind := .struct [(0, 49), (3, 121)], size := 203, bytes := 240, zero := [.p (.int .i64 0), .p (.lit (.slice none 0 0)), .p (.int .i64 0), .arr U.bool 200 (List.replicate 200 (Cd.dflt U.bool))], code := none }
  | 123 => some { kind := .struct [(0, 49), (3, 121)], size := 203, bytes := 240, zero := [.p (.int .i64 0), .p (.lit (.slice none 0 0)), .p (.int .i64 0), .arr U.bool 200 (List.replicate 200 (Cd.dflt U.bool))], code := none }
  | 125 => some { kind := .other, size := 1, bytes := 8, zero := [.p (.lit .nilFunc)], code := none }
  | 126 => some { kind := .other, size := 1, bytes := 8, zero := [.p (.lit .nilFunc)], code := none }
  | 127 => some { kind := .other, size := 1, bytes := 8, zero := [.p (.lit .nilFunc)], code := none }
  | 128 => some { kind := .other, size := 1, bytes := 8, zero := [.p (.lit .nilFunc)], code := none }
  | 129 => some { kind := .other, size := 1, bytes := 8, zero := [.p (.lit .nilFunc)], code := none }
  | 130 => some { kind := .other, size := 1, bytes := 8, zero := [.p (.lit .nilFunc)], code := none }
  | 131 => some { kind := .other, size := 1, bytes := 8, zero := [.p (.lit .nilFunc)], code := none }
  | 132 => some { kind := .ptr 86, size := 1, bytes := 8, zero := [.p (.lit (.pointer none))], code := none }
  | 133 => some { kind := .arr 64 84, size := 64, bytes := 256, zero := [.arr U.u32 64 (List.replicate 64 (Cd.dflt U.u32))], code := none, seq := true }
  | 134 => some { kind := .other, size := 1, bytes := 8, zero := [.p (.lit .nilFunc)], code := none }
  | 135 => some { kind := .other, size := 1, bytes := 8, zero := [.p (.lit .nilFunc)], code := none }
  | 136 => some { kind := .arr 32 5, size := 32, bytes := 32, zero := [.arr U.u8 32 (List.replicate 32 (Cd.dflt U.u8))], code := none, cks := [.int .u8, .int .u8, .int .u8, .int .u8, .int .u8, .int .u8, .int .u8, .int .u8, .int .u8, .int .u8, .int .u8, .int .u8, .int .u8, .int .u8, .int .u8, .int .u8, .int .u8, .int .u8, .int .u8, .int .u8, .int .u8, .int .u8, .int .u8, .int .u8, .int .u8, .int .u8, .int .u8, .int .u8, .int .u8, .int .u8, .int .u8, .int .u8], seq := true }
  | 137 => some { kind := .other, size := 1, bytes := 8, zero := [.p (.lit .nilFunc)], code := none }
  | 138 => some { kind := .other, size := 1, bytes := 8, zero := [.p (.lit .nilFunc)], code := none }
  | 139 => some { kind := .other, size := 1, bytes := 8, zero := [.p (.lit .nilFunc)], code := none }
  | 140 => some { kind := .other, size := 1, bytes := 8, zero := [.p (.lit .nilFunc)], code := none }
  | 141 => some { kind := .arr 16 3, size := 16, bytes := 128, zero := [.arr U.int 16 (List.replicate 16 (Cd.dflt U.int))], code := none, cks := [.int .i64, .int .i64, .int .i64, .int .i64, .int .i64, .int .i64, .int .i64, .int .i64, .int .i64, .int .i64, .int .i64, .int .i64, .int .i64, .int .i64, .int .i64, .int .i64], seq := true }
  | 142 => some { kind := .arr 16 3, size := 16, bytes := 128, zero := [.arr U.int 16 (List.replicate 16 (Cd.dflt U.int))], code := none, cks := [.int .i64, .int .i64, .int .i64, .int .i64, .int .i64, .int .i64, .int .i64, .int .i64, .int .i64, .int .i64, .int .i64, .int .i64, .int .i64, .int .i64, .int .i64, .int .i64], seq := true }
  | 143 => some { kind := .other, size := 1, bytes := 8, zero := [.p (.lit .nilFunc)], code := none }
  | 144 => some { kind := .other, size := 1, bytes := 8, zero := [.p (.lit .nilFunc)], code := none }
  | 145 => some { kind := .other, size := 1, bytes := 8, zero := [.p (.lit .nilFunc)], code := none }
  | 146 => some { kind := .other, size := 1, bytes := 8, zero := [.p (.lit .nilFunc)], code := none }
  | 147 => some { kind := .other, size := 1, bytes := 8, zero := [.p (.lit .nilFunc)], code := none }
  | 148 => some { kind := .other, size := 1, bytes := 8, zero := [.p (.lit .nilFunc)], code := none }
  | 149 => some { kind := .other, size := 1, bytes := 8, zero := [.p (.lit .nilFunc)], code := none }
  | 150 => some { kind := .other, size := 1, bytes := 8, zero := [.p (.lit .nilFunc)], code := none }
  | 151 => some { kind := .int .u64, size := 1, bytes := 8, zero := [.p (.int .u64 0)], code := some U.u64 }
  | 152 => some { kind := .ptr 5, size := 1, bytes := 8, zero := [.p (.lit (.pointer none))], code := none }
  | 153 => some { kind := .other, size := 1, bytes := 8, zero := [.p (.lit .nilFunc)], code := none }
  | 155 => some { kind := .other, size := 1, bytes := 8, zero := [.p (.lit .nilFunc)], code := none }
  | 156 => some { kind := .other, size := 1, bytes := 8, zero := [.p (.lit .nilFunc)], code := none }
  | 157 => some { kind := .other, size := 1, bytes := 8, zero := [.p (.lit .nilFunc)], code := none }
  | 158 => some { kind := .slice 4, size := 1, bytes := 24, zero := [.p (.lit (.slice none 0 0))], code := none }
  | 159 => some { kind := .other, size := 1, bytes := 8, zero := [.p (.lit .nilFunc)], code := none }
  | 160 => some { kind := .other, size := 1, bytes := 8, zero := [.p (.lit .nilFunc)], code := none }
  | 161 => some { kind := .other, size := 1, bytes := 8, zero := [.p (.lit .nilFunc)], code := none }
  | 162 => some { kind := .other, size := 1, bytes := 8, zero := [.p (.lit .nilFunc)], code := none }
  | 163 => some { kind := .ptr 142, size := 1, bytes := 8, zero := [.p (.lit (.pointer none))], code := none }
  | 164 => some { kind := .other, size := 1, bytes := 8, zero := [.p (.lit .nilFunc)], code := none }
  | 165 => some { kind := .uptr, size := 1, bytes := 8, zero := [.p (.lit (.pointer none))], code := none }
  | 166 => some { kind := .other, size := 1, bytes := 8, zero := [.p (.lit .nilFunc)], code := none }
  | 167 => some { kind := .other, size := 1, bytes := 8, zero := [.p (.lit .nilFunc)], code := none }
  | 169 => some { kind := .other, size := 1, bytes := 8, zero := [.p (.lit .nilFunc)], code := none }
  | 171 => some { kind := .other, size := 1, bytes := 8, zero := [.p (.lit .nilFunc)], code := none }
  | 172 => some { kind := .other, size := 1, bytes := 8, zero := [.p (.lit .nilFunc)], code := none }
  | 180 => some { kind := .other, size := 1, bytes := 8, zero := [.p (.lit .nilFunc)], code := none }
  | _ => none

theorem tab_ok : TabOK Go.Proofs.Tryd.prog Dc tab := by
  intro t i h
  unfold tab at h
  split at h <;> first | (injection h with h; subst h; exact tyB_ok (by kernel_rfl)) | (injection h)
theorem mixed : Go.Proofs.Tryd.prog.follows .mixedOrders = true := by kernel_rfl
end Go.SX
