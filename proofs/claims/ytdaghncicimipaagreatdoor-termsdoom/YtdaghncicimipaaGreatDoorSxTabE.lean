/-
  Walks: TabE: what single functions of the program compute.
-/
import Derived.Test.YtdaghncicimipaaGreatDoorSxV8
import Derived.Test.YtdaghncicimipaaGreatDoorSxU
import Derived.Test.YtdaghncicimipaaGreatDoorProg
set_option linter.unusedVariables false
set_option linter.unusedSimpArgs false
namespace Go.SX

def tabC : Nat → List (Nat × TI Cd)
  | 0 => [(1, { kind := .other, size := 1, bytes := 8, zero := [.p (.lit .nilFunc)], code := none }),
    (2, { kind := .int .i64, size := 1, bytes := 8, zero := [.p (.int .i64 0)], code := none }),
    (3, { kind := .int .i64, size := 1, bytes := 8, zero := [.p (.int .i64 0)], code := some U.int }),
    (4, { kind := .bool, size := 1, bytes := 1, zero := [.p (.bool false)], code := some U.bool }),
    (5, { kind := .int .u8, size := 1, bytes := 1, zero := [.p (.int .u8 0)], code := some U.u8 }),
    (9, { kind := .str, size := 1, bytes := 16, zero := [.p (.str [])], code := some U.str }),
    (12, { kind := .int .u64, size := 1, bytes := 8, zero := [.p (.int .u64 0)], code := none }),
    (13, { kind := .struct [(0, 9), (1, 12)], size := 2, bytes := 24, zero := [.p (.str []), .p (.int .u64 0)], code := none })]
  | 1 => [(20, { kind := .other, size := 1, bytes := 16, zero := [.p (.lit .nilIface)], code := none }),
    (21, { kind := .int .i32, size := 1, bytes := 4, zero := [.p (.int .i32 0)], code := none }),
    (22, { kind := .slice 114, size := 1, bytes := 24, zero := [.p (.lit (.slice none 0 0))], code := none }),
    (23, { kind := .slice 91, size := 1, bytes := 24, zero := [.p (.lit (.slice none 0 0))], code := none }),
    (24, { kind := .struct [(0, 22), (1, 23)], size := 2, bytes := 48, zero := [.p (.lit (.slice none 0 0)), .p (.lit (.slice none 0 0))], code := none }),
    (25, { kind := .struct [(0, 22), (1, 23)], size := 2, bytes := 48, zero := [.p (.lit (.slice none 0 0)), .p (.lit (.slice none 0 0))], code := none }),
    (26, { kind := .slice 3, size := 1, bytes := 24, zero := [.p (.lit (.slice none 0 0))], code := none }),
    (27, { kind := .struct [(0, 26)], size := 1, bytes := 24, zero := [.p (.lit (.slice none 0 0))], code := none }),
    (28, { kind := .struct [(0, 26)], size := 1, bytes := 24, zero := [.p (.lit (.slice none 0 0))], code := none }),
    (29, { kind := .struct [(0, 3), (1, 3)], size := 2, bytes := 16, zero := [.p (.int .i64 0), .p (.int .i64 0)], code := none }),
    (30, { kind := .struct [(0, 3), (1, 3)], size := 2, bytes := 16, zero := [.p (.int .i64 0), .p (.int .i64 0)], code := some U.spell, cks := [.int .i64, .int .i64] }),
    (31, { kind := .slice 33, size := 1, bytes := 24, zero := [.p (.lit (.slice none 0 0))], code := none })]
  | 2 => [(32, { kind := .struct [(0, 3), (1, 28), (2, 30), (4, 3), (5, 3), (6, 4), (7, 3), (8, 3), (9, 3), (10, 26), (11, 31)], size := 12, bytes := 144, zero := [.p (.int .i64 0), .p (.lit (.slice none 0 0)), .p (.int .i64 0), .p (.int .i64 0), .p (.int .i64 0), .p (.int .i64 0), .p (.bool false), .p (.int .i64 0), .p (.int .i64 0), .p (.int .i64 0), .p (.lit (.slice none 0 0)), .p (.lit (.slice none 0 0))], code := none }),
    (33, { kind := .struct [(0, 3), (1, 28), (2, 30), (4, 3), (5, 3), (6, 4), (7, 3), (8, 3), (9, 3), (10, 26), (11, 31)], size := 12, bytes := 144, zero := [.p (.int .i64 0), .p (.lit (.slice none 0 0)), .p (.int .i64 0), .p (.int .i64 0), .p (.int .i64 0), .p (.int .i64 0), .p (.bool false), .p (.int .i64 0), .p (.int .i64 0), .p (.int .i64 0), .p (.lit (.slice none 0 0)), .p (.lit (.slice none 0 0))], code := some U.goal }),
    (34, { kind := .slice 40, size := 1, bytes := 24, zero := [.p (.lit (.slice none 0 0))], code := some U.evs }),
    (35, { kind := .other, size := 1, bytes := 8, zero := [.p (.lit .nilFunc)], code := none }),
    (37, { kind := .other, size := 1, bytes := 8, zero := [.p (.lit .nilFunc)], code := none }),
    (38, { kind := .other, size := 1, bytes := 8, zero := [.p (.lit .nilFunc)], code := none }),
    (39, { kind := .struct [(0, 3), (1, 3), (2, 3), (3, 28), (4, 3), (5, 3), (6, 4)], size := 7, bytes := 72, zero := [.p (.int .i64 0), .p (.int .i64 0), .p (.int .i64 0), .p (.lit (.slice none 0 0)), .p (.int .i64 0), .p (.int .i64 0), .p (.bool false)], code := none }),
    (40, { kind := .struct [(0, 3), (1, 3), (2, 3), (3, 28), (4, 3), (5, 3), (6, 4)], size := 7, bytes := 72, zero := [.p (.int .i64 0), .p (.int .i64 0), .p (.int .i64 0), .p (.lit (.slice none 0 0)), .p (.int .i64 0), .p (.int .i64 0), .p (.bool false)], code := some U.event }),
    (41, { kind := .other, size := 1, bytes := 8, zero := [.p (.lit .nilFunc)], code := none }),
    (42, { kind := .other, size := 1, bytes := 8, zero := [.p (.lit .nilFunc)], code := none }),
    (43, { kind := .slice 34, size := 1, bytes := 24, zero := [.p (.lit (.slice none 0 0))], code := none }),
    (44, { kind := .int .i64, size := 1, bytes := 8, zero := [.p (.int .i64 0)], code := some U.int }),
    (46, { kind := .other, size := 1, bytes := 8, zero := [.p (.lit .nilFunc)], code := none })]
  | 3 => [(48, { kind := .other, size := 1, bytes := 8, zero := [.p (.lit .nilFunc)], code := none }),
    (50, { kind := .other, size := 1, bytes := 8, zero := [.p (.lit .nilFunc)], code := none }),
    (51, { kind := .other, size := 1, bytes := 8, zero := [.p (.lit .nilFunc)], code := none }),
    (52, { kind := .other, size := 1, bytes := 8, zero := [.p (.lit .nilFunc)], code := none }),
    (53, { kind := .other, size := 1, bytes := 8, zero := [.p (.lit .nilFunc)], code := none }),
    (54, { kind := .other, size := 1, bytes := 8, zero := [.p (.lit .nilFunc)], code := none }),
    (55, { kind := .other, size := 1, bytes := 8, zero := [.p (.lit .nilFunc)], code := none }),
    (57, { kind := .other, size := 1, bytes := 8, zero := [.p (.lit .nilFunc)], code := none }),
    (58, { kind := .other, size := 1, bytes := 8, zero := [.p (.lit .nilFunc)], code := none }),
    (59, { kind := .other, size := 1, bytes := 8, zero := [.p (.lit .nilFunc)], code := none }),
    (60, { kind := .other, size := 1, bytes := 8, zero := [.p (.lit .nilFunc)], code := none }),
    (61, { kind := .other, size := 1, bytes := 8, zero := [.p (.lit .nilFunc)], code := none }),
    (62, { kind := .other, size := 1, bytes := 8, zero := [.p (.lit .nilFunc)], code := none }),
    (63, { kind := .other, size := 1, bytes := 8, zero := [.p (.lit .nilFunc)], code := none })]
  | 4 => [(64, { kind := .other, size := 1, bytes := 8, zero := [.p (.lit .nilFunc)], code := none }),
    (65, { kind := .other, size := 1, bytes := 8, zero := [.p (.lit .nilFunc)], code := none }),
    (66, { kind := .other, size := 1, bytes := 8, zero := [.p (.lit .nilFunc)], code := none }),
    (68, { kind := .other, size := 1, bytes := 8, zero := [.p (.lit .nilFunc)], code := none }),
    (69, { kind := .other, size := 1, bytes := 8, zero := [.p (.lit .nilFunc)], code := none }),
    (70, { kind := .other, size := 1, bytes := 8, zero := [.p (.lit .nilFunc)], code := none }),
    (71, { kind := .other, size := 1, bytes := 8, zero := [.p (.lit .nilFunc)], code := none }),
    (72, { kind := .struct [(0, 3), (1, 26)], size := 2, bytes := 32, zero := [.p (.int .i64 0), .p (.lit (.slice none 0 0))], code := none }),
    (73, { kind := .struct [(0, 3), (1, 26)], size := 2, bytes := 32, zero := [.p (.int .i64 0), .p (.lit (.slice none 0 0))], code := none }),
    (75, { kind := .other, size := 1, bytes := 8, zero := [.p (.lit .nilFunc)], code := none }),
    (76, { kind := .other, size := 1, bytes := 8, zero := [.p (.lit .nilFunc)], code := none }),
    (78, { kind := .other, size := 1, bytes := 8, zero := [.p (.lit .nilFunc)], code := none }),
    (79, { kind := .map (.int .i64) 4, size := 1, bytes := 8, zero := [.p (.lit (.map none))], code := none })]
  | 5 => [(80, { kind := .other, size := 1, bytes := 8, zero := [.p (.lit .nilFunc)], code := none }),
    (81, { kind := .other, size := 1, bytes := 8, zero := [.p (.lit .nilFunc)], code := none }),
    (82, { kind := .other, size := 1, bytes := 8, zero := [.p (.lit .nilFunc)], code := none }),
    (83, { kind := .other, size := 1, bytes := 8, zero := [.p (.lit .nilFunc)], code := none }),
    (85, { kind := .struct [(0, 34), (1, 3)], size := 2, bytes := 32, zero := [.p (.lit (.slice none 0 0)), .p (.int .i64 0)], code := none }),
    (86, { kind := .struct [(0, 34), (1, 3)], size := 2, bytes := 32, zero := [.p (.lit (.slice none 0 0)), .p (.int .i64 0)], code := none }),
    (87, { kind := .other, size := 1, bytes := 8, zero := [.p (.lit .nilFunc)], code := none }),
    (88, { kind := .other, size := 1, bytes := 8, zero := [.p (.lit .nilFunc)], code := none }),
    (89, { kind := .other, size := 1, bytes := 8, zero := [.p (.lit .nilFunc)], code := none }),
    (90, { kind := .other, size := 1, bytes := 8, zero := [.p (.lit .nilFunc)], code := none }),
    (91, { kind := .arr 4 3, size := 4, bytes := 32, zero := [.arr U.int 4 (List.replicate 4 (Cd.dflt U.int))], code := some U.arr4, cks := [.int .i64, .int .i64, .int .i64, .int .i64] }),
    (92, { kind := .other, size := 1, bytes := 8, zero := [.p (.lit .nilFunc)], code := none }),
    (94, { kind := .other, size := 1, bytes := 8, zero := [.p (.lit .nilFunc)], code := none })]
  | 6 => [(96, { kind := .other, size := 1, bytes := 8, zero := [.p (.lit .nilFunc)], code := none }),
    (97, { kind := .other, size := 1, bytes := 8, zero := [.p (.lit .nilFunc)], code := none }),
    (98, { kind := .other, size := 1, bytes := 8, zero := [.p (.lit .nilFunc)], code := none }),
    (99, { kind := .other, size := 1, bytes := 8, zero := [.p (.lit .nilFunc)], code := none }),
    (101, { kind := .other, size := 1, bytes := 8, zero := [.p (.lit .nilFunc)], code := none }),
    (102, { kind := .other, size := 1, bytes := 8, zero := [.p (.lit .nilFunc)], code := none }),
    (103, { kind := .other, size := 1, bytes := 8, zero := [.p (.lit .nilFunc)], code := none }),
    (105, { kind := .other, size := 1, bytes := 8, zero := [.p (.lit .nilFunc)], code := none }),
    (106, { kind := .other, size := 1, bytes := 8, zero := [.p (.lit .nilFunc)], code := none }),
    (107, { kind := .other, size := 1, bytes := 8, zero := [.p (.lit .nilFunc)], code := none }),
    (108, { kind := .ptr 110, size := 1, bytes := 8, zero := [.p (.lit (.pointer none))], code := none }),
    (109, { kind := .struct [(0, 33), (12, 3)], size := 13, bytes := 152, zero := [.p (.int .i64 0), .p (.lit (.slice none 0 0)), .p (.int .i64 0), .p (.int .i64 0), .p (.int .i64 0), .p (.int .i64 0), .p (.bool false), .p (.int .i64 0), .p (.int .i64 0), .p (.int .i64 0), .p (.lit (.slice none 0 0)), .p (.lit (.slice none 0 0)), .p (.int .i64 0)], code := none }),
    (110, { kind := .struct [(0, 33), (12, 3)], size := 13, bytes := 152, zero := [.p (.int .i64 0), .p (.lit (.slice none 0 0)), .p (.int .i64 0), .p (.int .i64 0), .p (.int .i64 0), .p (.int .i64 0), .p (.bool false), .p (.int .i64 0), .p (.int .i64 0), .p (.int .i64 0), .p (.lit (.slice none 0 0)), .p (.lit (.slice none 0 0)), .p (.int .i64 0)], code := none }),
    (111, { kind := .other, size := 1, bytes := 8, zero := [.p (.lit .nilFunc)], code := none })]
  | 7 => [(112, { kind := .other, size := 1, bytes := 8, zero := [.p (.lit .nilFunc)], code := none }),
    (113, { kind := .other, size := 1, bytes := 8, zero := [.p (.lit .nilFunc)], code := none }),
    (114, { kind := .arr 5 3, size := 5, bytes := 40, zero := [.arr U.int 5 (List.replicate 5 (Cd.dflt U.int))], code := some U.arr5, cks := [.int .i64, .int .i64, .int .i64, .int .i64, .int .i64] }),
    (115, { kind := .other, size := 1, bytes := 8, zero := [.p (.lit .nilFunc)], code := none }),
    (116, { kind := .other, size := 1, bytes := 8, zero := [.p (.lit .nilFunc)], code := none }),
    (117, { kind := .other, size := 1, bytes := 8, zero := [.p (.lit .nilFunc)], code := none }),
    (118, { kind := .map (.int .i64) 117, size := 1, bytes := 8, zero := [.p (.lit (.map none))], code := none }),
    (119, { kind := .other, size := 1, bytes := 8, zero := [.p (.lit .nilFunc)], code := none }),
    (120, { kind := .other, size := 1, bytes := 8, zero := [.p (.lit .nilFunc)], code := none }),
    (121, { kind := .other, size := 1, bytes := 8, zero := [.p (.lit .nilFunc)], code := none }),
    (122, { kind := .other, size := 1, bytes := 8, zero := [.p (.lit .nilFunc)], code := none }),
    (123, { kind := .other, size := 1, bytes := 8, zero := [.p (.lit .nilFunc)], code := none }),
    (124, { kind := .other, size := 1, bytes := 8, zero := [.p (.lit .nilFunc)], code := none }),
    (126, { kind := .other, size := 1, bytes := 8, zero := [.p (.lit .nilFunc)], code := none }),
    (127, { kind := .arr 24 3, size := 24, bytes := 192, zero := [.arr U.int 24 (List.replicate 24 (Cd.dflt U.int))], code := none, cks := [.int .i64, .int .i64, .int .i64, .int .i64, .int .i64, .int .i64, .int .i64, .int .i64, .int .i64, .int .i64, .int .i64, .int .i64, .int .i64, .int .i64, .int .i64, .int .i64, .int .i64, .int .i64, .int .i64, .int .i64, .int .i64, .int .i64, .int .i64, .int .i64], seq := true })]
  | 8 => [(128, { kind := .other, size := 1, bytes := 8, zero := [.p (.lit .nilFunc)], code := none }),
    (129, { kind := .other, size := 1, bytes := 8, zero := [.p (.lit .nilFunc)], code := none }),
    (130, { kind := .other, size := 1, bytes := 8, zero := [.p (.lit .nilFunc)], code := none }),
    (131, { kind := .other, size := 1, bytes := 8, zero := [.p (.lit .nilFunc)], code := none }),
    (132, { kind := .other, size := 1, bytes := 8, zero := [.p (.lit .nilFunc)], code := none }),
    (133, { kind := .other, size := 1, bytes := 8, zero := [.p (.lit .nilFunc)], code := none }),
    (134, { kind := .other, size := 1, bytes := 8, zero := [.p (.lit .nilFunc)], code := none }),
    (135, { kind := .other, size := 1, bytes := 8, zero := [.p (.lit .nilFunc)], code := none }),
    (136, { kind := .other, size := 1, bytes := 8, zero := [.p (.lit .nilFunc)], code := none }),
    (137, { kind := .other, size := 1, bytes := 8, zero := [.p (.lit .nilFunc)], code := none }),
    (138, { kind := .other, size := 1, bytes := 8, zero := [.p (.lit .nilFunc)], code := none }),
    (139, { kind := .struct [(0, 3), (1, 3)], size := 2, bytes := 16, zero := [.p (.int .i64 0), .p (.int .i64 0)], code := none }),
    (140, { kind := .struct [(0, 3), (1, 3)], size := 2, bytes := 16, zero := [.p (.int .i64 0), .p (.int .i64 0)], code := some U.cell, cks := [.int .i64, .int .i64] }),
    (141, { kind := .other, size := 1, bytes := 8, zero := [.p (.lit .nilFunc)], code := none }),
    (142, { kind := .other, size := 1, bytes := 8, zero := [.p (.lit .nilFunc)], code := none }),
    (143, { kind := .other, size := 1, bytes := 8, zero := [.p (.lit .nilFunc)], code := none })]
  | 9 => [(144, { kind := .other, size := 1, bytes := 8, zero := [.p (.lit .nilFunc)], code := none }),
    (145, { kind := .other, size := 1, bytes := 8, zero := [.p (.lit .nilFunc)], code := none }),
    (146, { kind := .other, size := 1, bytes := 8, zero := [.p (.lit .nilFunc)], code := none }),
    (147, { kind := .other, size := 1, bytes := 8, zero := [.p (.lit .nilFunc)], code := none }),
    (148, { kind := .other, size := 1, bytes := 8, zero := [.p (.lit .nilFunc)], code := none }),
    (149, { kind := .arr 4 4, size := 4, bytes := 4, zero := [.arr U.bool 4 (List.replicate 4 (Cd.dflt U.bool))], code := none, cks := [.bool, .bool, .bool, .bool] }),
    (150, { kind := .slice 140, size := 1, bytes := 24, zero := [.p (.lit (.slice none 0 0))], code := none }),
    (151, { kind := .other, size := 1, bytes := 8, zero := [.p (.lit .nilFunc)], code := none }),
    (152, { kind := .other, size := 1, bytes := 8, zero := [.p (.lit .nilFunc)], code := none }),
    (153, { kind := .other, size := 1, bytes := 8, zero := [.p (.lit .nilFunc)], code := none }),
    (154, { kind := .other, size := 1, bytes := 8, zero := [.p (.lit .nilFunc)], code := none }),
    (155, { kind := .other, size := 1, bytes := 8, zero := [.p (.lit .nilFunc)], code := none }),
    (156, { kind := .other, size := 1, bytes := 8, zero := [.p (.lit .nilFunc)], code := none }),
    (157, { kind := .other, size := 1, bytes := 8, zero := [.p (.lit .nilFunc)], code := none }),
    (158, { kind := .other, size := 1, bytes := 8, zero := [.p (.lit .nilFunc)], code := none }),
    (159, { kind := .other, size := 1, bytes := 8, zero := [.p (.lit .nilFunc)], code := none })]
  | 10 => [(160, { kind := .other, size := 1, bytes := 8, zero := [.p (.lit .nilFunc)], code := none }),
    (161, { kind := .other, size := 1, bytes := 8, zero := [.p (.lit .nilFunc)], code := none }),
    (162, { kind := .other, size := 1, bytes := 8, zero := [.p (.lit .nilFunc)], code := none }),
    (163, { kind := .other, size := 1, bytes := 8, zero := [.p (.lit .nilFunc)], code := none }),
    (164, { kind := .other, size := 1, bytes := 8, zero := [.p (.lit .nilFunc)], code := none }),
    (165, { kind := .other, size := 1, bytes := 8, zero := [.p (.lit .nilFunc)], code := none }),
    (166, { kind := .other, size := 1, bytes := 8, zero := [.p (.lit .nilFunc)], code := none }),
    (167, { kind := .other, size := 1, bytes := 8, zero := [.p (.lit .nilFunc)], code := none }),
    (168, { kind := .int .u64, size := 1, bytes := 8, zero := [.p (.int .u64 0)], code := none }),
    (169, { kind := .other, size := 1, bytes := 8, zero := [.p (.lit .nilFunc)], code := none }),
    (170, { kind := .other, size := 1, bytes := 8, zero := [.p (.lit .nilFunc)], code := none }),
    (171, { kind := .int .u32, size := 1, bytes := 4, zero := [.p (.int .u32 0)], code := some U.u32 }),
    (172, { kind := .other, size := 1, bytes := 8, zero := [.p (.lit .nilFunc)], code := none }),
    (173, { kind := .int .u64, size := 1, bytes := 8, zero := [.p (.int .u64 0)], code := some U.u64 }),
    (174, { kind := .other, size := 1, bytes := 8, zero := [.p (.lit .nilFunc)], code := none }),
    (175, { kind := .int .i64, size := 1, bytes := 8, zero := [.p (.int .i64 0)], code := none })]
  | 11 => [(177, { kind := .other, size := 1, bytes := 8, zero := [.p (.lit .nilFunc)], code := none }),
    (178, { kind := .other, size := 1, bytes := 8, zero := [.p (.lit .nilFunc)], code := none }),
    (179, { kind := .other, size := 1, bytes := 8, zero := [.p (.lit .nilFunc)], code := none }),
    (180, { kind := .other, size := 1, bytes := 8, zero := [.p (.lit .nilFunc)], code := none }),
    (181, { kind := .other, size := 1, bytes := 8, zero := [.p (.lit .nilFunc)], code := none }),
    (182, { kind := .arr 32 5, size := 32, bytes := 32, zero := [.arr U.u8 32 (List.replicate 32 (Cd.dflt U.u8))], code := none, cks := [.int .u8, .int .u8, .int .u8, .int .u8, .int .u8, .int .u8, .int .u8, .int .u8, .int .u8, .int .u8, .int .u8, .int .u8, .int .u8, .int .u8, .int .u8, .int .u8, .int .u8, .int .u8, .int .u8, .int .u8, .int .u8, .int .u8, .int .u8, .int .u8, .int .u8, .int .u8, .int .u8, .int .u8, .int .u8, .int .u8, .int .u8, .int .u8], seq := true }),
    (183, { kind := .arr 64 5, size := 64, bytes := 64, zero := [.arr U.u8 64 (List.replicate 64 (Cd.dflt U.u8))], code := none, seq := true }),
    (184, { kind := .int .u64, size := 1, bytes := 8, zero := [.p (.int .u64 0)], code := none }),
    (185, { kind := .other, size := 1, bytes := 8, zero := [.p (.lit .nilFunc)], code := none }),
    (186, { kind := .other, size := 1, bytes := 8, zero := [.p (.lit .nilFunc)], code := none }),
    (187, { kind := .other, size := 1, bytes := 8, zero := [.p (.lit .nilFunc)], code := none }),
    (188, { kind := .ptr 3, size := 1, bytes := 8, zero := [.p (.lit (.pointer none))], code := none }),
    (189, { kind := .other, size := 1, bytes := 8, zero := [.p (.lit .nilFunc)], code := none }),
    (190, { kind := .ptr 184, size := 1, bytes := 8, zero := [.p (.lit (.pointer none))], code := none })]
  | 12 => [(192, { kind := .other, size := 1, bytes := 8, zero := [.p (.lit .nilFunc)], code := none }),
    (193, { kind := .other, size := 1, bytes := 8, zero := [.p (.lit .nilFunc)], code := none }),
    (199, { kind := .other, size := 1, bytes := 8, zero := [.p (.lit .nilFunc)], code := none }),
    (202, { kind := .other, size := 1, bytes := 8, zero := [.p (.lit .nilFunc)], code := none }),
    (203, { kind := .ptr 5, size := 1, bytes := 8, zero := [.p (.lit (.pointer none))], code := none })]
  | 13 => [(208, { kind := .uptr, size := 1, bytes := 8, zero := [.p (.lit (.pointer none))], code := none })]
  | _ => []
def lkT : List (Nat × TI Cd) → Nat → Option (TI Cd)
  | [], _ => none
  | (n, i) :: l, t => match Nat.beq n t with
    | true => some i
    | false => lkT l t
theorem lkT_mem : ∀ (l : List (Nat × TI Cd)) (t : Nat) (i : TI Cd), lkT l t = some i → (t, i) ∈ l
  | [], t, i, h => by simp [lkT] at h
  | (n, j) :: l, t, i, h => by
    simp only [lkT] at h
    split at h
    · rename_i hb
      injection h with h
      subst h
      rw [Nat.eq_of_beq_eq_true hb]
      exact List.mem_cons_self ..
    · exact List.mem_cons_of_mem _ (lkT_mem l t i h)
def tab : Tab Cd := fun t => lkT (tabC (t / 16)) t
set_option maxRecDepth 100000 in
set_option maxHeartbeats 4000000 in
theorem tabC_ok (c : Nat) : (tabC c).all (fun p => tyB Go.Proofs.Tryz.prog Dc p.1 p.2) = true := by
  unfold tabC
  split <;> kernel_rfl
theorem tab_ok : TabOK Go.Proofs.Tryz.prog Dc tab := by
  intro t i h
  have h1 := List.all_eq_true.1 (tabC_ok (t / 16)) (t, i) (lkT_mem (tabC (t / 16)) t i h)
  exact tyB_ok h1
theorem mixed : Go.Proofs.Tryz.prog.follows .mixedOrders = true := by kernel_rfl
end Go.SX
