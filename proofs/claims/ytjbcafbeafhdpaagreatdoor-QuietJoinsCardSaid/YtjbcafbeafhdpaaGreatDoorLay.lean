import Derived.Test.YtjbcafbeafhdpaaGreatDoorSL8
import Derived.Test.YtjbcafbeafhdpaaGreatDoorProg
/- The table of the types that this session's proofs use. -/
set_option maxRecDepth 10000
namespace Go.SL
open Go.SL
def Lam : Lay := [
(3, ⟨.int .i64, 1, 8, [.int .i64 0]⟩),
  (190, ⟨.struct [(3, 0), (3, 1), (3, 2), (3, 3), (188, 4)], 5, 56, [.int .i64 0, .int .i64 0, .int .i64 0, .int .i64 0, .slice none 0 0]⟩),
  (9, ⟨.string, 1, 16, [.string ⟨#[]⟩]⟩),
  (63, ⟨.struct [(3, 0), (3, 1), (3, 2), (3, 3), (3, 4), (3, 5), (4, 6), (58, 7), (44, 8), (9, 9), (61, 10)], 13, 160, [.int .i64 0, .int .i64 0, .int .i64 0, .int .i64 0, .int .i64 0, .int .i64 0, .bool false, .slice none 0 0, .slice none 0 0, .string ⟨#[]⟩, .int .i64 0, .int .i64 0, .slice none 0 0]⟩),
  (59, ⟨.slice 190, 1, 24, [.slice none 0 0]⟩),
  (61, ⟨.struct [(3, 0), (3, 1), (59, 2)], 3, 40, [.int .i64 0, .int .i64 0, .slice none 0 0]⟩),
  (4, ⟨.bool, 1, 1, [.bool false]⟩),
  (106, ⟨.struct [(3, 0), (3, 1), (9, 2)], 3, 32, [.int .i64 0, .int .i64 0, .string ⟨#[]⟩]⟩),
  (188, ⟨.slice 3, 1, 24, [.slice none 0 0]⟩),
  (5, ⟨.int .u8, 1, 1, [.int .u8 0]⟩),
  (93, ⟨.struct [(3, 0), (4, 1), (91, 2)], 14, 184, [.int .i64 0, .bool false, .string ⟨#[]⟩, .int .i64 0, .int .i64 0, .int .i64 0, .slice none 0 0, .bool false, .slice none 0 0, .int .i64 0, .bool false, .slice none 0 0, .int .i64 0, .slice none 0 0]⟩),
  (134, ⟨.struct [(3, 0), (3, 1), (3, 2)], 3, 24, [.int .i64 0, .int .i64 0, .int .i64 0]⟩),
  (328, ⟨.int .u64, 1, 8, [.int .u64 0]⟩),
  (91, ⟨.struct [(9, 0), (3, 1), (61, 2), (88, 5), (3, 7), (88, 8), (3, 10), (89, 11)], 12, 168, [.string ⟨#[]⟩, .int .i64 0, .int .i64 0, .int .i64 0, .slice none 0 0, .bool false, .slice none 0 0, .int .i64 0, .bool false, .slice none 0 0, .int .i64 0, .slice none 0 0]⟩),
  (179, ⟨.int .u32, 1, 4, [.int .u32 0]⟩),
  (251, ⟨.struct [(3, 0), (3, 1), (3, 2), (3, 3), (3, 4), (188, 5)], 6, 64, [.int .i64 0, .int .i64 0, .int .i64 0, .int .i64 0, .int .i64 0, .slice none 0 0]⟩),
  (58, ⟨.slice 106, 1, 24, [.slice none 0 0]⟩),
  (37, ⟨.struct [(3, 0), (3, 1), (4, 2), (3, 3), (3, 4), (9, 5)], 6, 56, [.int .i64 0, .int .i64 0, .bool false, .int .i64 0, .int .i64 0, .string ⟨#[]⟩]⟩),
  (21, ⟨.int .i32, 1, 4, [.int .i32 0]⟩),
  (170, ⟨.struct [(3, 0), (3, 1), (58, 2), (168, 3)], 4, 64, [.int .i64 0, .int .i64 0, .slice none 0 0, .slice none 0 0]⟩),
  (88, ⟨.struct [(4, 0), (58, 1)], 2, 32, [.bool false, .slice none 0 0]⟩),
  (44, ⟨.slice 170, 1, 24, [.slice none 0 0]⟩),
  (120, ⟨.slice 5, 1, 24, [.slice none 0 0]⟩),
  (158, ⟨.struct [(9, 0), (4, 1)], 2, 24, [.string ⟨#[]⟩, .bool false]⟩),
  (168, ⟨.slice 251, 1, 24, [.slice none 0 0]⟩),
  (30, ⟨.int .u64, 1, 8, [.int .u64 0]⟩),
  (22, ⟨.int .i64, 1, 8, [.int .i64 0]⟩),
  (288, ⟨.struct [(285, 0), (285, 1), (188, 2)], 3, 40, [.pointer none, .pointer none, .slice none 0 0]⟩),
  (84, ⟨.struct [(9, 0), (61, 1), (80, 4), (82, 5)], 6, 88, [.string ⟨#[]⟩, .int .i64 0, .int .i64 0, .slice none 0 0, .pointer none, .slice none 0 0]⟩),
  (129, ⟨.struct [(124, 0), (59, 1), (3, 2)], 3, 56, [.slice none 0 0, .slice none 0 0, .int .i64 0]⟩),
  (244, ⟨.struct [(9, 0), (241, 1), (242, 4)], 5, 56, [.string ⟨#[]⟩, .int .u32 0, .int .i32 0, .int .u32 0, .slice none 0 0]⟩),
  (360, ⟨.int .u64, 1, 8, [.int .u64 0]⟩),
  (76, ⟨.struct [(4, 0), (9, 1), (3, 2), (3, 3), (58, 4), (58, 5), (61, 6)], 9, 128, [.bool false, .string ⟨#[]⟩, .int .i64 0, .int .i64 0, .slice none 0 0, .slice none 0 0, .int .i64 0, .int .i64 0, .slice none 0 0]⟩),
  (94, ⟨.slice 110, 1, 24, [.slice none 0 0]⟩),
  (2, ⟨.int .i64, 1, 8, [.int .i64 0]⟩),
  (46, ⟨.struct [(40, 0), (43, 1), (44, 2)], 3, 56, [.pointer none, .slice none 0 0, .slice none 0 0]⟩),
  (196, ⟨.struct [(58, 0), (3, 1)], 2, 32, [.slice none 0 0, .int .i64 0]⟩),
  (285, ⟨.ptr 317, 1, 8, [.pointer none]⟩),
  (237, ⟨.struct [(21, 0), (179, 1)], 2, 8, [.int .i32 0, .int .u32 0]⟩),
  (123, ⟨.struct [(44, 0), (3, 1)], 2, 32, [.slice none 0 0, .int .i64 0]⟩),
  (82, ⟨.slice 183, 1, 24, [.slice none 0 0]⟩),
  (124, ⟨.slice 134, 1, 24, [.slice none 0 0]⟩),
  (201, ⟨.struct [(143, 0)], 2, 32, [.pointer none, .slice none 0 0]⟩),
  (47, ⟨.ptr 93, 1, 8, [.pointer none]⟩),
  (145, ⟨.other, 1, 16, [.nilIface]⟩),
  (110, ⟨.struct [(9, 0), (4, 1)], 2, 24, [.string ⟨#[]⟩, .bool false]⟩),
  (43, ⟨.slice 53, 1, 24, [.slice none 0 0]⟩),
  (53, ⟨.struct [(47, 0), (50, 1), (50, 2)], 3, 24, [.pointer none, .pointer none, .pointer none]⟩),
  (143, ⟨.struct [(141, 0), (120, 1)], 2, 32, [.pointer none, .slice none 0 0]⟩),
  (96, ⟨.struct [(94, 0)], 1, 24, [.slice none 0 0]⟩),
  (294, ⟨.int .u8, 1, 1, [.int .u8 0]⟩),
  (40, ⟨.ptr 84, 1, 8, [.pointer none]⟩),
  (317, ⟨.struct [(187, 0), (9, 1), (265, 2)], 3, 32, [.pointer none, .string ⟨#[]⟩, .map none]⟩),
  (89, ⟨.slice 165, 1, 24, [.slice none 0 0]⟩),
  (80, ⟨.ptr 123, 1, 8, [.pointer none]⟩),
  (50, ⟨.ptr 96, 1, 8, [.pointer none]⟩),
  (336, ⟨.struct [(9, 0), (9, 1), (145, 2)], 3, 48, [.string ⟨#[]⟩, .string ⟨#[]⟩, .nilIface]⟩),
  (354, ⟨.other, 65, 65, [.int .u8 0, .int .u8 0, .int .u8 0, .int .u8 0, .int .u8 0, .int .u8 0, .int .u8 0, .int .u8 0, .int .u8 0, .int .u8 0, .int .u8 0, .int .u8 0, .int .u8 0, .int .u8 0, .int .u8 0, .int .u8 0, .int .u8 0, .int .u8 0, .int .u8 0, .int .u8 0, .int .u8 0, .int .u8 0, .int .u8 0, .int .u8 0, .int .u8 0, .int .u8 0, .int .u8 0, .int .u8 0, .int .u8 0, .int .u8 0, .int .u8 0, .int .u8 0, .int .u8 0, .int .u8 0, .int .u8 0, .int .u8 0, .int .u8 0, .int .u8 0, .int .u8 0, .int .u8 0, .int .u8 0, .int .u8 0, .int .u8 0, .int .u8 0, .int .u8 0, .int .u8 0, .int .u8 0, .int .u8 0, .int .u8 0, .int .u8 0, .int .u8 0, .int .u8 0, .int .u8 0, .int .u8 0, .int .u8 0, .int .u8 0, .int .u8 0, .int .u8 0, .int .u8 0, .int .u8 0, .int .u8 0, .int .u8 0, .int .u8 0, .int .u8 0, .int .u8 0]⟩),
  (141, ⟨.ptr 143, 1, 8, [.pointer none]⟩),
  (265, ⟨.map 3 3, 1, 8, [.map none]⟩),
  (127, ⟨.ptr 129, 1, 8, [.pointer none]⟩),
  (183, ⟨.struct [(178, 0), (181, 1)], 2, 16, [.int .i64 0, .int .u32 0]⟩),
  (242, ⟨.slice 294, 1, 24, [.slice none 0 0]⟩),
  (32, ⟨.ptr 46, 1, 8, [.pointer none]⟩),
  (241, ⟨.struct [(235, 0), (181, 0), (239, 1)], 3, 12, [.int .u32 0, .int .i32 0, .int .u32 0]⟩),
  (268, ⟨.slice 4, 1, 24, [.slice none 0 0]⟩),
  (270, ⟨.map 3 247, 1, 8, [.map none]⟩),
  (234, ⟨.ptr 244, 1, 8, [.pointer none]⟩),
  (327, ⟨.other, 24, 24, [.int .u8 0, .int .u8 0, .int .u8 0, .int .u8 0, .int .u8 0, .int .u8 0, .int .u8 0, .int .u8 0, .int .u8 0, .int .u8 0, .int .u8 0, .int .u8 0, .int .u8 0, .int .u8 0, .int .u8 0, .int .u8 0, .int .u8 0, .int .u8 0, .int .u8 0, .int .u8 0, .int .u8 0, .int .u8 0, .int .u8 0, .int .u8 0]⟩),
  (248, ⟨.other, 1, 8, [.pointer none]⟩),
  (187, ⟨.ptr 61, 1, 8, [.pointer none]⟩),
  (309, ⟨.slice 308, 1, 24, [.slice none 0 0]⟩),
  (246, ⟨.int .i64, 1, 8, [.int .i64 0]⟩),
  (321, ⟨.slice 168, 1, 24, [.slice none 0 0]⟩),
  (353, ⟨.other, 20, 160, [.int .u64 0, .int .u64 0, .int .u64 0, .int .u64 0, .int .u64 0, .int .u64 0, .int .u64 0, .int .u64 0, .int .u64 0, .int .u64 0, .int .u64 0, .int .u64 0, .int .u64 0, .int .u64 0, .int .u64 0, .int .u64 0, .int .u64 0, .int .u64 0, .int .u64 0, .int .u64 0]⟩),
  (368, ⟨.other, 32, 32, [.int .u8 0, .int .u8 0, .int .u8 0, .int .u8 0, .int .u8 0, .int .u8 0, .int .u8 0, .int .u8 0, .int .u8 0, .int .u8 0, .int .u8 0, .int .u8 0, .int .u8 0, .int .u8 0, .int .u8 0, .int .u8 0, .int .u8 0, .int .u8 0, .int .u8 0, .int .u8 0, .int .u8 0, .int .u8 0, .int .u8 0, .int .u8 0, .int .u8 0, .int .u8 0, .int .u8 0, .int .u8 0, .int .u8 0, .int .u8 0, .int .u8 0, .int .u8 0]⟩),
  (369, ⟨.other, 64, 64, [.int .u8 0, .int .u8 0, .int .u8 0, .int .u8 0, .int .u8 0, .int .u8 0, .int .u8 0, .int .u8 0, .int .u8 0, .int .u8 0, .int .u8 0, .int .u8 0, .int .u8 0, .int .u8 0, .int .u8 0, .int .u8 0, .int .u8 0, .int .u8 0, .int .u8 0, .int .u8 0, .int .u8 0, .int .u8 0, .int .u8 0, .int .u8 0, .int .u8 0, .int .u8 0, .int .u8 0, .int .u8 0, .int .u8 0, .int .u8 0, .int .u8 0, .int .u8 0, .int .u8 0, .int .u8 0, .int .u8 0, .int .u8 0, .int .u8 0, .int .u8 0, .int .u8 0, .int .u8 0, .int .u8 0, .int .u8 0, .int .u8 0, .int .u8 0, .int .u8 0, .int .u8 0, .int .u8 0, .int .u8 0, .int .u8 0, .int .u8 0, .int .u8 0, .int .u8 0, .int .u8 0, .int .u8 0, .int .u8 0, .int .u8 0, .int .u8 0, .int .u8 0, .int .u8 0, .int .u8 0, .int .u8 0, .int .u8 0, .int .u8 0, .int .u8 0]⟩),
  (370, ⟨.ptr 237, 1, 8, [.pointer none]⟩),
  (178, ⟨.struct [(175, 0), (176, 0), (2, 0)], 1, 8, [.int .i64 0]⟩),
  (181, ⟨.struct [(175, 0), (179, 0)], 1, 4, [.int .u32 0]⟩),
  (239, ⟨.struct [(235, 0), (237, 0)], 2, 8, [.int .i32 0, .int .u32 0]⟩),
  (308, ⟨.ptr 3, 1, 8, [.pointer none]⟩),
  (340, ⟨.int .i64, 1, 8, [.int .i64 0]⟩),
  (324, ⟨.map 294 9, 1, 8, [.map none]⟩),
  (359, ⟨.struct [(9, 0)], 1, 16, [.string ⟨#[]⟩]⟩),
  (165, ⟨.struct [(3, 0), (3, 1), (4, 2)], 3, 24, [.int .i64 0, .int .i64 0, .bool false]⟩),
  (175, ⟨.struct [], 0, 0, []⟩),
  (176, ⟨.struct [], 0, 0, []⟩),
  (235, ⟨.struct [], 0, 0, []⟩),
  (247, ⟨.ptr 190, 1, 8, [.pointer none]⟩),
  (55, ⟨.ptr 53, 1, 8, [.pointer none]⟩),
  (70, ⟨.ptr 37, 1, 8, [.pointer none]⟩),
  (150, ⟨.ptr 196, 1, 8, [.pointer none]⟩),
  (156, ⟨.ptr 158, 1, 8, [.pointer none]⟩),
  (162, ⟨.ptr 63, 1, 8, [.pointer none]⟩),
  (167, ⟨.ptr 170, 1, 8, [.pointer none]⟩),
  (131, ⟨.func, 1, 8, [.nilFunc]⟩),
  (194, ⟨.ptr 5, 1, 8, [.pointer none]⟩),
  (199, ⟨.ptr 201, 1, 8, [.pointer none]⟩),
  (213, ⟨.func, 1, 8, [.nilFunc]⟩),
  (232, ⟨.ptr 179, 1, 8, [.pointer none]⟩),
  (257, ⟨.func, 1, 8, [.nilFunc]⟩),
  (259, ⟨.func, 1, 8, [.nilFunc]⟩),
  (261, ⟨.func, 1, 8, [.nilFunc]⟩),
  (262, ⟨.func, 1, 8, [.nilFunc]⟩),
  (272, ⟨.ptr 251, 1, 8, [.pointer none]⟩),
  (275, ⟨.func, 1, 8, [.nilFunc]⟩),
  (280, ⟨.ptr 2, 1, 8, [.pointer none]⟩),
  (284, ⟨.ptr 288, 1, 8, [.pointer none]⟩),
  (307, ⟨.func, 1, 8, [.nilFunc]⟩),
  (79, ⟨.func, 1, 8, [.nilFunc]⟩),
  (97, ⟨.func, 1, 8, [.nilFunc]⟩),
  (1, ⟨.func, 1, 8, [.nilFunc]⟩),
  (351, ⟨.ptr 241, 1, 8, [.pointer none]⟩),
  (372, ⟨.ptr 21, 1, 8, [.pointer none]⟩)]
theorem okLam : OkLay Go.Proofs.Tryz.prog Lam :=
  okLay_cons ⟨by kernel_rfl, by kernel_rfl⟩ <|
  okLay_cons ⟨by kernel_rfl, by kernel_rfl⟩ <|
  okLay_cons ⟨by kernel_rfl, by kernel_rfl⟩ <|
  okLay_cons ⟨by kernel_rfl, by kernel_rfl⟩ <|
  okLay_cons ⟨by kernel_rfl, by kernel_rfl⟩ <|
  okLay_cons ⟨by kernel_rfl, by kernel_rfl⟩ <|
  okLay_cons ⟨by kernel_rfl, by kernel_rfl⟩ <|
  okLay_cons ⟨by kernel_rfl, by kernel_rfl⟩ <|
  okLay_cons ⟨by kernel_rfl, by kernel_rfl⟩ <|
  okLay_cons ⟨by kernel_rfl, by kernel_rfl⟩ <|
  okLay_cons ⟨by kernel_rfl, by kernel_rfl⟩ <|
  okLay_cons ⟨by kernel_rfl, by kernel_rfl⟩ <|
  okLay_cons ⟨by kernel_rfl, by kernel_rfl⟩ <|
  okLay_cons ⟨by kernel_rfl, by kernel_rfl⟩ <|
  okLay_cons ⟨by kernel_rfl, by kernel_rfl⟩ <|
  okLay_cons ⟨by kernel_rfl, by kernel_rfl⟩ <|
  okLay_cons ⟨by kernel_rfl, by kernel_rfl⟩ <|
  okLay_cons ⟨by kernel_rfl, by kernel_rfl⟩ <|
  okLay_cons ⟨by kernel_rfl, by kernel_rfl⟩ <|
  okLay_cons ⟨by kernel_rfl, by kernel_rfl⟩ <|
  okLay_cons ⟨by kernel_rfl, by kernel_rfl⟩ <|
  okLay_cons ⟨by kernel_rfl, by kernel_rfl⟩ <|
  okLay_cons ⟨by kernel_rfl, by kernel_rfl⟩ <|
  okLay_cons ⟨by kernel_rfl, by kernel_rfl⟩ <|
  okLay_cons ⟨by kernel_rfl, by kernel_rfl⟩ <|
  okLay_cons ⟨by kernel_rfl, by kernel_rfl⟩ <|
  okLay_cons ⟨by kernel_rfl, by kernel_rfl⟩ <|
  okLay_cons ⟨by kernel_rfl, by kernel_rfl⟩ <|
  okLay_cons ⟨by kernel_rfl, by kernel_rfl⟩ <|
  okLay_cons ⟨by kernel_rfl, by kernel_rfl⟩ <|
  okLay_cons ⟨by kernel_rfl, by kernel_rfl⟩ <|
  okLay_cons ⟨by kernel_rfl, by kernel_rfl⟩ <|
  okLay_cons ⟨by kernel_rfl, by kernel_rfl⟩ <|
  okLay_cons ⟨by kernel_rfl, by kernel_rfl⟩ <|
  okLay_cons ⟨by kernel_rfl, by kernel_rfl⟩ <|
  okLay_cons ⟨by kernel_rfl, by kernel_rfl⟩ <|
  okLay_cons ⟨by kernel_rfl, by kernel_rfl⟩ <|
  okLay_cons ⟨by kernel_rfl, by kernel_rfl⟩ <|
  okLay_cons ⟨by kernel_rfl, by kernel_rfl⟩ <|
  okLay_cons ⟨by kernel_rfl, by kernel_rfl⟩ <|
  okLay_cons ⟨by kernel_rfl, by kernel_rfl⟩ <|
  okLay_cons ⟨by kernel_rfl, by kernel_rfl⟩ <|
  okLay_cons ⟨by kernel_rfl, by kernel_rfl⟩ <|
  okLay_cons ⟨by kernel_rfl, by kernel_rfl⟩ <|
  okLay_cons ⟨by kernel_rfl, by kernel_rfl⟩ <|
  okLay_cons ⟨by kernel_rfl, by kernel_rfl⟩ <|
  okLay_cons ⟨by kernel_rfl, by kernel_rfl⟩ <|
  okLay_cons ⟨by kernel_rfl, by kernel_rfl⟩ <|
  okLay_cons ⟨by kernel_rfl, by kernel_rfl⟩ <|
  okLay_cons ⟨by kernel_rfl, by kernel_rfl⟩ <|
  okLay_cons ⟨by kernel_rfl, by kernel_rfl⟩ <|
  okLay_cons ⟨by kernel_rfl, by kernel_rfl⟩ <|
  okLay_cons ⟨by kernel_rfl, by kernel_rfl⟩ <|
  okLay_cons ⟨by kernel_rfl, by kernel_rfl⟩ <|
  okLay_cons ⟨by kernel_rfl, by kernel_rfl⟩ <|
  okLay_cons ⟨by kernel_rfl, by kernel_rfl⟩ <|
  okLay_cons ⟨by kernel_rfl, by kernel_rfl⟩ <|
  okLay_cons ⟨by kernel_rfl, by kernel_rfl⟩ <|
  okLay_cons ⟨by kernel_rfl, by kernel_rfl⟩ <|
  okLay_cons ⟨by kernel_rfl, by kernel_rfl⟩ <|
  okLay_cons ⟨by kernel_rfl, by kernel_rfl⟩ <|
  okLay_cons ⟨by kernel_rfl, by kernel_rfl⟩ <|
  okLay_cons ⟨by kernel_rfl, by kernel_rfl⟩ <|
  okLay_cons ⟨by kernel_rfl, by kernel_rfl⟩ <|
  okLay_cons ⟨by kernel_rfl, by kernel_rfl⟩ <|
  okLay_cons ⟨by kernel_rfl, by kernel_rfl⟩ <|
  okLay_cons ⟨by kernel_rfl, by kernel_rfl⟩ <|
  okLay_cons ⟨by kernel_rfl, by kernel_rfl⟩ <|
  okLay_cons ⟨by kernel_rfl, by kernel_rfl⟩ <|
  okLay_cons ⟨by kernel_rfl, by kernel_rfl⟩ <|
  okLay_cons ⟨by kernel_rfl, by kernel_rfl⟩ <|
  okLay_cons ⟨by kernel_rfl, by kernel_rfl⟩ <|
  okLay_cons ⟨by kernel_rfl, by kernel_rfl⟩ <|
  okLay_cons ⟨by kernel_rfl, by kernel_rfl⟩ <|
  okLay_cons ⟨by kernel_rfl, by kernel_rfl⟩ <|
  okLay_cons ⟨by kernel_rfl, by kernel_rfl⟩ <|
  okLay_cons ⟨by kernel_rfl, by kernel_rfl⟩ <|
  okLay_cons ⟨by kernel_rfl, by kernel_rfl⟩ <|
  okLay_cons ⟨by kernel_rfl, by kernel_rfl⟩ <|
  okLay_cons ⟨by kernel_rfl, by kernel_rfl⟩ <|
  okLay_cons ⟨by kernel_rfl, by kernel_rfl⟩ <|
  okLay_cons ⟨by kernel_rfl, by kernel_rfl⟩ <|
  okLay_cons ⟨by kernel_rfl, by kernel_rfl⟩ <|
  okLay_cons ⟨by kernel_rfl, by kernel_rfl⟩ <|
  okLay_cons ⟨by kernel_rfl, by kernel_rfl⟩ <|
  okLay_cons ⟨by kernel_rfl, by kernel_rfl⟩ <|
  okLay_cons ⟨by kernel_rfl, by kernel_rfl⟩ <|
  okLay_cons ⟨by kernel_rfl, by kernel_rfl⟩ <|
  okLay_cons ⟨by kernel_rfl, by kernel_rfl⟩ <|
  okLay_cons ⟨by kernel_rfl, by kernel_rfl⟩ <|
  okLay_cons ⟨by kernel_rfl, by kernel_rfl⟩ <|
  okLay_cons ⟨by kernel_rfl, by kernel_rfl⟩ <|
  okLay_cons ⟨by kernel_rfl, by kernel_rfl⟩ <|
  okLay_cons ⟨by kernel_rfl, by kernel_rfl⟩ <|
  okLay_cons ⟨by kernel_rfl, by kernel_rfl⟩ <|
  okLay_cons ⟨by kernel_rfl, by kernel_rfl⟩ <|
  okLay_cons ⟨by kernel_rfl, by kernel_rfl⟩ <|
  okLay_cons ⟨by kernel_rfl, by kernel_rfl⟩ <|
  okLay_cons ⟨by kernel_rfl, by kernel_rfl⟩ <|
  okLay_cons ⟨by kernel_rfl, by kernel_rfl⟩ <|
  okLay_cons ⟨by kernel_rfl, by kernel_rfl⟩ <|
  okLay_cons ⟨by kernel_rfl, by kernel_rfl⟩ <|
  okLay_cons ⟨by kernel_rfl, by kernel_rfl⟩ <|
  okLay_cons ⟨by kernel_rfl, by kernel_rfl⟩ <|
  okLay_cons ⟨by kernel_rfl, by kernel_rfl⟩ <|
  okLay_cons ⟨by kernel_rfl, by kernel_rfl⟩ <|
  okLay_cons ⟨by kernel_rfl, by kernel_rfl⟩ <|
  okLay_cons ⟨by kernel_rfl, by kernel_rfl⟩ <|
  okLay_cons ⟨by kernel_rfl, by kernel_rfl⟩ <|
  okLay_cons ⟨by kernel_rfl, by kernel_rfl⟩ <|
  okLay_cons ⟨by kernel_rfl, by kernel_rfl⟩ <|
  okLay_cons ⟨by kernel_rfl, by kernel_rfl⟩ <|
  okLay_cons ⟨by kernel_rfl, by kernel_rfl⟩ <|
  okLay_cons ⟨by kernel_rfl, by kernel_rfl⟩ <|
  okLay_cons ⟨by kernel_rfl, by kernel_rfl⟩ <|
  okLay_nil _
end Go.SL
