/-
  Walks: TabA: what single functions of the program compute.
-/
import Derived.Test.YtbonljpjndcnaaaSxV6
import Derived.Test.YtbonljpjndcnaaaSxW
import Derived.Test.YtbonljpjndcnaaaRows
set_option linter.unusedVariables false
set_option linter.unusedSimpArgs false
namespace Go.SX

def tab : Tab Cd
  | 1 => some { kind := .other, size := 1, bytes := 8, zero := [.p (.lit .nilFunc)], code := none }
  | 2 => some { kind := .int .i64, size := 1, bytes := 8, zero := [.p (.int .i64 0)], code := none }
  | 3 => some { kind := .int .i64, size := 1, bytes := 8, zero := [.p (.int .i64 0)], code := some U.int }
  | 4 => some { kind := .bool, size := 1, bytes := 1, zero := [.p (.bool false)], code := some U.bool }
  | 5 => some { kind := .int .u8, size := 1, bytes := 1, zero := [.p (.int .u8 0)], code := some U.u8 }
  | 9 => some { kind := .str, size := 1, bytes := 16, zero := [.p (.str [])], code := some U.str }
  | 12 => some { kind := .int .u64, size := 1, bytes := 8, zero := [.p (.int .u64 0)], code := none }
  | 13 => some { kind := .struct [(0, 9), (1, 12)], size := 2, bytes := 24, zero := [.p (.str []), .p (.int .u64 0)], code := none }
  | 20 => some { kind := .other, size := 1, bytes := 16, zero := [.p (.lit .nilIface)], code := none }
  | 21 => some { kind := .int .i32, size := 1, bytes := 4, zero := [.p (.int .i32 0)], code := none }
  | 22 => some { kind := .slice 27, size := 1, bytes := 24, zero := [.p (.lit (.slice none 0 0))], code := none }
  | 23 => some { kind := .struct [(0, 3), (1, 22), (2, 3)], size := 3, bytes := 40, zero := [.p (.int .i64 0), .p (.lit (.slice none 0 0)), .p (.int .i64 0)], code := none }
  | 24 => some { kind := .struct [(0, 3), (1, 22), (2, 3)], size := 3, bytes := 40, zero := [.p (.int .i64 0), .p (.lit (.slice none 0 0)), .p (.int .i64 0)], code := some U.book }
  | 25 => some { kind := .slice 48, size := 1, bytes := 24, zero := [.p (.lit (.slice none 0 0))], code := none }
  | 26 => some { kind := .struct [(0, 3), (1, 3), (2, 3), (3, 3), (4, 3), (5, 3), (6, 3)], size := 7, bytes := 56, zero := [.p (.int .i64 0), .p (.int .i64 0), .p (.int .i64 0), .p (.int .i64 0), .p (.int .i64 0), .p (.int .i64 0), .p (.int .i64 0)], code := none }
  | 27 => some { kind := .struct [(0, 3), (1, 3), (2, 3), (3, 3), (4, 3), (5, 3), (6, 3)], size := 7, bytes := 56, zero := [.p (.int .i64 0), .p (.int .i64 0), .p (.int .i64 0), .p (.int .i64 0), .p (.int .i64 0), .p (.int .i64 0), .p (.int .i64 0)], code := some U.posting, cks := [.int .i64, .int .i64, .int .i64, .int .i64, .int .i64, .int .i64, .int .i64] }
  | 28 => some { kind := .other, size := 1, bytes := 8, zero := [.p (.lit .nilFunc)], code := none }
  | 29 => some { kind := .other, size := 1, bytes := 8, zero := [.p (.lit .nilFunc)], code := none }
  | 30 => some { kind := .slice 24, size := 1, bytes := 24, zero := [.p (.lit (.slice none 0 0))], code := none }
  | 31 => some { kind := .int .i64, size := 1, bytes := 8, zero := [.p (.int .i64 0)], code := some U.int }
  | 33 => some { kind := .other, size := 1, bytes := 8, zero := [.p (.lit .nilFunc)], code := none }
  | 34 => some { kind := .other, size := 1, bytes := 8, zero := [.p (.lit .nilFunc)], code := none }
  | 35 => some { kind := .other, size := 1, bytes := 8, zero := [.p (.lit .nilFunc)], code := none }
  | 36 => some { kind := .other, size := 1, bytes := 8, zero := [.p (.lit .nilFunc)], code := none }
  | 37 => some { kind := .slice 3, size := 1, bytes := 24, zero := [.p (.lit (.slice none 0 0))], code := none }
  | 39 => some { kind := .other, size := 1, bytes := 8, zero := [.p (.lit .nilFunc)], code := none }
  | 40 => some { kind := .other, size := 1, bytes := 8, zero := [.p (.lit .nilFunc)], code := none }
  | 42 => some { kind := .other, size := 1, bytes := 8, zero := [.p (.lit .nilFunc)], code := none }
  | 44 => some { kind := .other, size := 1, bytes := 8, zero := [.p (.lit .nilFunc)], code := none }
  | 45 => some { kind := .other, size := 1, bytes := 8, zero := [.p (.lit .nilFunc)], code := none }
  | 46 => some { kind := .other, size := 1, bytes := 8, zero := [.p (.lit .nilFunc)], code := none }
  | 47 => some { kind := .other, size := 1, bytes := 8, zero := [.p (.lit .nilFunc)], code := none }
  | 48 => some { kind := .arr 5 3, size := 5, bytes := 40, zero := [.arr U.int 5 (List.replicate 5 (Cd.dflt U.int))], code := some U.arr5, cks := [.int .i64, .int .i64, .int .i64, .int .i64, .int .i64] }
  | 49 => some { kind := .other, size := 1, bytes := 8, zero := [.p (.lit .nilFunc)], code := none }
  | 50 => some { kind := .other, size := 1, bytes := 8, zero := [.p (.lit .nilFunc)], code := none }
  | 51 => some { kind := .other, size := 1, bytes := 8, zero := [.p (.lit .nilFunc)], code := none }
  | 52 => some { kind := .other, size := 1, bytes := 8, zero := [.p (.lit (.pointer none))], code := none }
  | 54 => some { kind := .other, size := 1, bytes := 8, zero := [.p (.lit .nilFunc)], code := none }
  | 55 => some { kind := .other, size := 1, bytes := 8, zero := [.p (.lit .nilFunc)], code := none }
  | 56 => some { kind := .arr 200 4, size := 200, bytes := 200, zero := [.arr U.bool 200 (List.replicate 200 (Cd.dflt U.bool))], code := none }
  | 57 => some { kind := .struct [(0, 24), (3, 56)], size := 203, bytes := 240, zero := [.p (.int .i64 0), .p (.lit (.slice none 0 0)), .p (.int .i64 0), .arr U.bool 200 (List.replicate 200 (Cd.dflt U.bool))], code := none }
  | 58 => some { kind := .struct [(0, 24), (3, 56)], size := 203, bytes := 240, zero := [.p (.int .i64 0), .p (.lit (.slice none 0 0)), .p (.int .i64 0), .arr U.bool 200 (List.replicate 200 (Cd.dflt U.bool))], code := none }
  | 59 => some { kind := .other, size := 1, bytes := 8, zero := [.p (.lit .nilFunc)], code := none }
  | 60 => some { kind := .slice 4, size := 1, bytes := 24, zero := [.p (.lit (.slice none 0 0))], code := none }
  | 61 => some { kind := .other, size := 1, bytes := 8, zero := [.p (.lit .nilFunc)], code := none }
  | 62 => some { kind := .arr 16 3, size := 16, bytes := 128, zero := [.arr U.int 16 (List.replicate 16 (Cd.dflt U.int))], code := none, cks := [.int .i64, .int .i64, .int .i64, .int .i64, .int .i64, .int .i64, .int .i64, .int .i64, .int .i64, .int .i64, .int .i64, .int .i64, .int .i64, .int .i64, .int .i64, .int .i64] }
  | 63 => some { kind := .arr 16 3, size := 16, bytes := 128, zero := [.arr U.int 16 (List.replicate 16 (Cd.dflt U.int))], code := none, cks := [.int .i64, .int .i64, .int .i64, .int .i64, .int .i64, .int .i64, .int .i64, .int .i64, .int .i64, .int .i64, .int .i64, .int .i64, .int .i64, .int .i64, .int .i64, .int .i64] }
  | 64 => some { kind := .other, size := 1, bytes := 8, zero := [.p (.lit .nilFunc)], code := none }
  | 65 => some { kind := .other, size := 1, bytes := 8, zero := [.p (.lit .nilFunc)], code := none }
  | 66 => some { kind := .other, size := 1, bytes := 8, zero := [.p (.lit .nilFunc)], code := none }
  | 67 => some { kind := .other, size := 1, bytes := 8, zero := [.p (.lit .nilFunc)], code := none }
  | 68 => some { kind := .other, size := 1, bytes := 8, zero := [.p (.lit .nilFunc)], code := none }
  | 69 => some { kind := .other, size := 1, bytes := 8, zero := [.p (.lit (.pointer none))], code := none }
  | 70 => some { kind := .other, size := 1, bytes := 8, zero := [.p (.lit .nilFunc)], code := none }
  | 71 => some { kind := .other, size := 1, bytes := 8, zero := [.p (.lit .nilFunc)], code := none }
  | 77 => some { kind := .other, size := 1, bytes := 8, zero := [.p (.lit .nilFunc)], code := none }
  | 78 => some { kind := .int .u32, size := 1, bytes := 4, zero := [.p (.int .u32 0)], code := some U.u32 }
  | 81 => some { kind := .other, size := 1, bytes := 8, zero := [.p (.lit .nilFunc)], code := none }
  | 82 => some { kind := .other, size := 1, bytes := 8, zero := [.p (.lit (.pointer none))], code := none }
  | _ => none

theorem tab_ok : TabOK Go.Proofs.Try.prog Dc tab := by
  intro t i h
  unfold tab at h
  split at h <;> first | (injection h with h; subst h; exact tyB_ok (by kernel_rfl)) | (injection h)
end Go.SX
