/- The table of this program's types (by tabgen.py). -/
import Derived.Test.YtdbnnmohenlnfaaProg
import Derived.Test.YtdbnnmohenlnfaaSymL
import Derived.Test.YtdbnnmohenlnfaaSymR
import Derived.KernelRfl
namespace Go.Proofs.Try
open Go Go.Sym

def tab_sz : List (Nat × Nat) := [(2, 1), (3, 1), (4, 1), (5, 1), (6, 1), (7, 4), (8, 4), (9, 1), (10, 1), (11, 1), (12, 1), (13, 2), (14, 2), (15, 1), (16, 1), (17, 1), (18, 1), (19, 1), (20, 1), (21, 1), (22, 1), (23, 6), (24, 6), (25, 4), (26, 4), (29, 1), (30, 6), (31, 6), (35, 4), (46, 1), (53, 3), (54, 3), (56, 3), (61, 1), (63, 4), (64, 4), (65, 6), (66, 6), (69, 1), (74, 1), (77, 1), (78, 1), (79, 1), (80, 3), (81, 3), (86, 1), (88, 2), (89, 2), (90, 1), (91, 1), (92, 1), (94, 1), (96, 1), (98, 1), (105, 1), (109, 1), (111, 1), (115, 4), (116, 4), (117, 0), (118, 0), (119, 0), (120, 1), (121, 1), (123, 1), (124, 1), (125, 1), (126, 11), (127, 11), (128, 2), (129, 2)]
theorem t_sz2 : (prog.info? 2).map (·.size) = some 1 := by kernel_rfl
theorem t_sz3 : (prog.info? 3).map (·.size) = some 1 := by kernel_rfl
theorem t_sz4 : (prog.info? 4).map (·.size) = some 1 := by kernel_rfl
theorem t_sz5 : (prog.info? 5).map (·.size) = some 1 := by kernel_rfl
theorem t_sz6 : (prog.info? 6).map (·.size) = some 1 := by kernel_rfl
theorem t_sz7 : (prog.info? 7).map (·.size) = some 4 := by kernel_rfl
theorem t_sz8 : (prog.info? 8).map (·.size) = some 4 := by kernel_rfl
theorem t_sz9 : (prog.info? 9).map (·.size) = some 1 := by kernel_rfl
theorem t_sz10 : (prog.info? 10).map (·.size) = some 1 := by kernel_rfl
theorem t_sz11 : (prog.info? 11).map (·.size) = some 1 := by kernel_rfl
theorem t_sz12 : (prog.info? 12).map (·.size) = some 1 := by kernel_rfl
theorem t_sz13 : (prog.info? 13).map (·.size) = some 2 := by kernel_rfl
theorem t_sz14 : (prog.info? 14).map (·.size) = some 2 := by kernel_rfl
theorem t_sz15 : (prog.info? 15).map (·.size) = some 1 := by kernel_rfl
theorem t_sz16 : (prog.info? 16).map (·.size) = some 1 := by kernel_rfl
theorem t_sz17 : (prog.info? 17).map (·.size) = some 1 := by kernel_rfl
theorem t_sz18 : (prog.info? 18).map (·.size) = some 1 := by kernel_rfl
theorem t_sz19 : (prog.info? 19).map (·.size) = some 1 := by kernel_rfl
theorem t_sz20 : (prog.info? 20).map (·.size) = some 1 := by kernel_rfl
theorem t_sz21 : (prog.info? 21).map (·.size) = some 1 := by kernel_rfl
theorem t_sz22 : (prog.info? 22).map (·.size) = some 1 := by kernel_rfl
theorem t_sz23 : (prog.info? 23).map (·.size) = some 6 := by kernel_rfl
theorem t_sz24 : (prog.info? 24).map (·.size) = some 6 := by kernel_rfl
theorem t_sz25 : (prog.info? 25).map (·.size) = some 4 := by kernel_rfl
theorem t_sz26 : (prog.info? 26).map (·.size) = some 4 := by kernel_rfl
theorem t_sz29 : (prog.info? 29).map (·.size) = some 1 := by kernel_rfl
theorem t_sz30 : (prog.info? 30).map (·.size) = some 6 := by kernel_rfl
theorem t_sz31 : (prog.info? 31).map (·.size) = some 6 := by kernel_rfl
theorem t_sz35 : (prog.info? 35).map (·.size) = some 4 := by kernel_rfl
theorem t_sz46 : (prog.info? 46).map (·.size) = some 1 := by kernel_rfl
theorem t_sz53 : (prog.info? 53).map (·.size) = some 3 := by kernel_rfl
theorem t_sz54 : (prog.info? 54).map (·.size) = some 3 := by kernel_rfl
theorem t_sz56 : (prog.info? 56).map (·.size) = some 3 := by kernel_rfl
theorem t_sz61 : (prog.info? 61).map (·.size) = some 1 := by kernel_rfl
theorem t_sz63 : (prog.info? 63).map (·.size) = some 4 := by kernel_rfl
theorem t_sz64 : (prog.info? 64).map (·.size) = some 4 := by kernel_rfl
theorem t_sz65 : (prog.info? 65).map (·.size) = some 6 := by kernel_rfl
theorem t_sz66 : (prog.info? 66).map (·.size) = some 6 := by kernel_rfl
theorem t_sz69 : (prog.info? 69).map (·.size) = some 1 := by kernel_rfl
theorem t_sz74 : (prog.info? 74).map (·.size) = some 1 := by kernel_rfl
theorem t_sz77 : (prog.info? 77).map (·.size) = some 1 := by kernel_rfl
theorem t_sz78 : (prog.info? 78).map (·.size) = some 1 := by kernel_rfl
theorem t_sz79 : (prog.info? 79).map (·.size) = some 1 := by kernel_rfl
theorem t_sz80 : (prog.info? 80).map (·.size) = some 3 := by kernel_rfl
theorem t_sz81 : (prog.info? 81).map (·.size) = some 3 := by kernel_rfl
theorem t_sz86 : (prog.info? 86).map (·.size) = some 1 := by kernel_rfl
theorem t_sz88 : (prog.info? 88).map (·.size) = some 2 := by kernel_rfl
theorem t_sz89 : (prog.info? 89).map (·.size) = some 2 := by kernel_rfl
theorem t_sz90 : (prog.info? 90).map (·.size) = some 1 := by kernel_rfl
theorem t_sz91 : (prog.info? 91).map (·.size) = some 1 := by kernel_rfl
theorem t_sz92 : (prog.info? 92).map (·.size) = some 1 := by kernel_rfl
theorem t_sz94 : (prog.info? 94).map (·.size) = some 1 := by kernel_rfl
theorem t_sz96 : (prog.info? 96).map (·.size) = some 1 := by kernel_rfl
theorem t_sz98 : (prog.info? 98).map (·.size) = some 1 := by kernel_rfl
theorem t_sz105 : (prog.info? 105).map (·.size) = some 1 := by kernel_rfl
theorem t_sz109 : (prog.info? 109).map (·.size) = some 1 := by kernel_rfl
theorem t_sz111 : (prog.info? 111).map (·.size) = some 1 := by kernel_rfl
theorem t_sz115 : (prog.info? 115).map (·.size) = some 4 := by kernel_rfl
theorem t_sz116 : (prog.info? 116).map (·.size) = some 4 := by kernel_rfl
theorem t_sz117 : (prog.info? 117).map (·.size) = some 0 := by kernel_rfl
theorem t_sz118 : (prog.info? 118).map (·.size) = some 0 := by kernel_rfl
theorem t_sz119 : (prog.info? 119).map (·.size) = some 0 := by kernel_rfl
theorem t_sz120 : (prog.info? 120).map (·.size) = some 1 := by kernel_rfl
theorem t_sz121 : (prog.info? 121).map (·.size) = some 1 := by kernel_rfl
theorem t_sz123 : (prog.info? 123).map (·.size) = some 1 := by kernel_rfl
theorem t_sz124 : (prog.info? 124).map (·.size) = some 1 := by kernel_rfl
theorem t_sz125 : (prog.info? 125).map (·.size) = some 1 := by kernel_rfl
theorem t_sz126 : (prog.info? 126).map (·.size) = some 11 := by kernel_rfl
theorem t_sz127 : (prog.info? 127).map (·.size) = some 11 := by kernel_rfl
theorem t_sz128 : (prog.info? 128).map (·.size) = some 2 := by kernel_rfl
theorem t_sz129 : (prog.info? 129).map (·.size) = some 2 := by kernel_rfl
def tab_byt : List (Nat × Nat) := [(2, 8), (3, 8), (4, 1), (5, 1), (6, 1), (7, 24), (8, 24), (9, 16), (10, 16), (11, 16), (12, 8), (13, 24), (14, 24), (15, 8), (16, 8), (17, 8), (18, 8), (19, 8), (20, 16), (21, 4), (22, 24), (23, 64), (24, 64), (25, 48), (26, 48), (29, 24), (30, 64), (31, 64), (35, 48), (46, 8), (53, 40), (54, 40), (56, 40), (61, 24), (63, 32), (64, 32), (65, 64), (66, 64), (69, 8), (74, 8), (77, 24), (78, 8), (79, 8), (80, 24), (81, 24), (86, 8), (88, 16), (89, 16), (90, 8), (91, 8), (92, 8), (94, 4), (96, 8), (98, 8), (105, 8), (109, 8), (111, 8), (115, 40), (116, 40), (117, 0), (118, 0), (119, 0), (120, 1), (121, 1), (123, 8), (124, 4), (125, 4), (126, 48), (127, 48), (128, 24), (129, 24)]
theorem t_byt2 : (prog.info? 2).map (·.bytes) = some 8 := by kernel_rfl
theorem t_byt3 : (prog.info? 3).map (·.bytes) = some 8 := by kernel_rfl
theorem t_byt4 : (prog.info? 4).map (·.bytes) = some 1 := by kernel_rfl
theorem t_byt5 : (prog.info? 5).map (·.bytes) = some 1 := by kernel_rfl
theorem t_byt6 : (prog.info? 6).map (·.bytes) = some 1 := by kernel_rfl
theorem t_byt7 : (prog.info? 7).map (·.bytes) = some 24 := by kernel_rfl
theorem t_byt8 : (prog.info? 8).map (·.bytes) = some 24 := by kernel_rfl
theorem t_byt9 : (prog.info? 9).map (·.bytes) = some 16 := by kernel_rfl
theorem t_byt10 : (prog.info? 10).map (·.bytes) = some 16 := by kernel_rfl
theorem t_byt11 : (prog.info? 11).map (·.bytes) = some 16 := by kernel_rfl
theorem t_byt12 : (prog.info? 12).map (·.bytes) = some 8 := by kernel_rfl
theorem t_byt13 : (prog.info? 13).map (·.bytes) = some 24 := by kernel_rfl
theorem t_byt14 : (prog.info? 14).map (·.bytes) = some 24 := by kernel_rfl
theorem t_byt15 : (prog.info? 15).map (·.bytes) = some 8 := by kernel_rfl
theorem t_byt16 : (prog.info? 16).map (·.bytes) = some 8 := by kernel_rfl
theorem t_byt17 : (prog.info? 17).map (·.bytes) = some 8 := by kernel_rfl
theorem t_byt18 : (prog.info? 18).map (·.bytes) = some 8 := by kernel_rfl
theorem t_byt19 : (prog.info? 19).map (·.bytes) = some 8 := by kernel_rfl
theorem t_byt20 : (prog.info? 20).map (·.bytes) = some 16 := by kernel_rfl
theorem t_byt21 : (prog.info? 21).map (·.bytes) = some 4 := by kernel_rfl
theorem t_byt22 : (prog.info? 22).map (·.bytes) = some 24 := by kernel_rfl
theorem t_byt23 : (prog.info? 23).map (·.bytes) = some 64 := by kernel_rfl
theorem t_byt24 : (prog.info? 24).map (·.bytes) = some 64 := by kernel_rfl
theorem t_byt25 : (prog.info? 25).map (·.bytes) = some 48 := by kernel_rfl
theorem t_byt26 : (prog.info? 26).map (·.bytes) = some 48 := by kernel_rfl
theorem t_byt29 : (prog.info? 29).map (·.bytes) = some 24 := by kernel_rfl
theorem t_byt30 : (prog.info? 30).map (·.bytes) = some 64 := by kernel_rfl
theorem t_byt31 : (prog.info? 31).map (·.bytes) = some 64 := by kernel_rfl
theorem t_byt35 : (prog.info? 35).map (·.bytes) = some 48 := by kernel_rfl
theorem t_byt46 : (prog.info? 46).map (·.bytes) = some 8 := by kernel_rfl
theorem t_byt53 : (prog.info? 53).map (·.bytes) = some 40 := by kernel_rfl
theorem t_byt54 : (prog.info? 54).map (·.bytes) = some 40 := by kernel_rfl
theorem t_byt56 : (prog.info? 56).map (·.bytes) = some 40 := by kernel_rfl
theorem t_byt61 : (prog.info? 61).map (·.bytes) = some 24 := by kernel_rfl
theorem t_byt63 : (prog.info? 63).map (·.bytes) = some 32 := by kernel_rfl
theorem t_byt64 : (prog.info? 64).map (·.bytes) = some 32 := by kernel_rfl
theorem t_byt65 : (prog.info? 65).map (·.bytes) = some 64 := by kernel_rfl
theorem t_byt66 : (prog.info? 66).map (·.bytes) = some 64 := by kernel_rfl
theorem t_byt69 : (prog.info? 69).map (·.bytes) = some 8 := by kernel_rfl
theorem t_byt74 : (prog.info? 74).map (·.bytes) = some 8 := by kernel_rfl
theorem t_byt77 : (prog.info? 77).map (·.bytes) = some 24 := by kernel_rfl
theorem t_byt78 : (prog.info? 78).map (·.bytes) = some 8 := by kernel_rfl
theorem t_byt79 : (prog.info? 79).map (·.bytes) = some 8 := by kernel_rfl
theorem t_byt80 : (prog.info? 80).map (·.bytes) = some 24 := by kernel_rfl
theorem t_byt81 : (prog.info? 81).map (·.bytes) = some 24 := by kernel_rfl
theorem t_byt86 : (prog.info? 86).map (·.bytes) = some 8 := by kernel_rfl
theorem t_byt88 : (prog.info? 88).map (·.bytes) = some 16 := by kernel_rfl
theorem t_byt89 : (prog.info? 89).map (·.bytes) = some 16 := by kernel_rfl
theorem t_byt90 : (prog.info? 90).map (·.bytes) = some 8 := by kernel_rfl
theorem t_byt91 : (prog.info? 91).map (·.bytes) = some 8 := by kernel_rfl
theorem t_byt92 : (prog.info? 92).map (·.bytes) = some 8 := by kernel_rfl
theorem t_byt94 : (prog.info? 94).map (·.bytes) = some 4 := by kernel_rfl
theorem t_byt96 : (prog.info? 96).map (·.bytes) = some 8 := by kernel_rfl
theorem t_byt98 : (prog.info? 98).map (·.bytes) = some 8 := by kernel_rfl
theorem t_byt105 : (prog.info? 105).map (·.bytes) = some 8 := by kernel_rfl
theorem t_byt109 : (prog.info? 109).map (·.bytes) = some 8 := by kernel_rfl
theorem t_byt111 : (prog.info? 111).map (·.bytes) = some 8 := by kernel_rfl
theorem t_byt115 : (prog.info? 115).map (·.bytes) = some 40 := by kernel_rfl
theorem t_byt116 : (prog.info? 116).map (·.bytes) = some 40 := by kernel_rfl
theorem t_byt117 : (prog.info? 117).map (·.bytes) = some 0 := by kernel_rfl
theorem t_byt118 : (prog.info? 118).map (·.bytes) = some 0 := by kernel_rfl
theorem t_byt119 : (prog.info? 119).map (·.bytes) = some 0 := by kernel_rfl
theorem t_byt120 : (prog.info? 120).map (·.bytes) = some 1 := by kernel_rfl
theorem t_byt121 : (prog.info? 121).map (·.bytes) = some 1 := by kernel_rfl
theorem t_byt123 : (prog.info? 123).map (·.bytes) = some 8 := by kernel_rfl
theorem t_byt124 : (prog.info? 124).map (·.bytes) = some 4 := by kernel_rfl
theorem t_byt125 : (prog.info? 125).map (·.bytes) = some 4 := by kernel_rfl
theorem t_byt126 : (prog.info? 126).map (·.bytes) = some 48 := by kernel_rfl
theorem t_byt127 : (prog.info? 127).map (·.bytes) = some 48 := by kernel_rfl
theorem t_byt128 : (prog.info? 128).map (·.bytes) = some 24 := by kernel_rfl
theorem t_byt129 : (prog.info? 129).map (·.bytes) = some 24 := by kernel_rfl
def tab_zero : List (Nat × Value) := [(2, .int .i64 0), (3, .int .i64 0), (4, .bool false), (5, .int .u8 0), (6, .int .u8 0), (7, .agg #[.int .i64 0, .int .i64 0, .bool false, .int .u8 0]), (8, .agg #[.int .i64 0, .int .i64 0, .bool false, .int .u8 0]), (9, .string ⟨#[]⟩), (10, .string ⟨#[]⟩), (11, .string ⟨#[]⟩), (12, .int .u64 0), (13, .agg #[.string ⟨#[]⟩, .int .u64 0]), (14, .agg #[.string ⟨#[]⟩, .int .u64 0]), (15, .pointer none), (16, .pointer none), (17, .pointer none), (18, .agg #[.pointer none]), (19, .agg #[.pointer none]), (20, .nilIface), (21, .int .i32 0), (22, .slice none 0 0), (23, .agg #[.slice none 0 0, .int .i64 0, .int .i64 0, .int .i64 0, .int .i64 0, .bool false]), (24, .agg #[.slice none 0 0, .int .i64 0, .int .i64 0, .int .i64 0, .int .i64 0, .bool false]), (25, .agg #[.int .i64 0, .string ⟨#[]⟩, .string ⟨#[]⟩, .int .i64 0]), (26, .agg #[.int .i64 0, .string ⟨#[]⟩, .string ⟨#[]⟩, .int .i64 0]), (29, .slice none 0 0), (30, .agg #[.slice none 0 0, .int .i64 0, .int .i64 0, .int .i64 0, .int .i64 0, .bool false]), (31, .agg #[.slice none 0 0, .int .i64 0, .int .i64 0, .int .i64 0, .int .i64 0, .bool false]), (35, .agg #[.int .i64 0, .string ⟨#[]⟩, .string ⟨#[]⟩, .int .i64 0]), (46, .pointer none), (53, .agg #[.string ⟨#[]⟩, .string ⟨#[]⟩, .int .i64 0]), (54, .agg #[.string ⟨#[]⟩, .string ⟨#[]⟩, .int .i64 0]), (56, .agg #[.string ⟨#[]⟩, .string ⟨#[]⟩, .int .i64 0]), (61, .slice none 0 0), (63, .agg #[.int .i64 0, .int .i64 0, .int .i64 0, .bool false]), (64, .agg #[.int .i64 0, .int .i64 0, .int .i64 0, .bool false]), (65, .agg #[.int .i64 0, .int .i64 0, .int .i64 0, .bool false, .slice none 0 0, .int .i64 0]), (66, .agg #[.int .i64 0, .int .i64 0, .int .i64 0, .bool false, .slice none 0 0, .int .i64 0]), (69, .pointer none), (74, .pointer none), (77, .slice none 0 0), (78, .pointer none), (79, .int .u64 0), (80, .agg #[.pointer none, .pointer none, .int .u64 0]), (81, .agg #[.pointer none, .pointer none, .int .u64 0]), (86, .int .u64 0), (88, .agg #[.nilFunc, .nilFunc]), (89, .agg #[.nilFunc, .nilFunc]), (90, .agg #[.pointer none]), (91, .agg #[.pointer none]), (92, .pointer none), (94, .int .u32 0), (96, .int .u64 0), (98, .int .i64 0), (105, .int .u64 0), (109, .pointer none), (111, .pointer none), (115, .agg #[.pointer none, .pointer none, .pointer none, .string ⟨#[]⟩]), (116, .agg #[.pointer none, .pointer none, .pointer none, .string ⟨#[]⟩]), (117, .agg #[]), (118, .agg #[]), (119, .agg #[]), (120, .int .u8 0), (121, .int .u8 0), (123, .pointer none), (124, .int .i32 0), (125, .int .i32 0), (126, .agg #[.int .u64 0, .int .u64 0, .int .u32 0, .int .u8 0, .int .u8 0, .int .u8 0, .int .u8 0, .nilFunc, .pointer none, .int .i32 0, .int .i32 0]), (127, .agg #[.int .u64 0, .int .u64 0, .int .u32 0, .int .u8 0, .int .u8 0, .int .u8 0, .int .u8 0, .nilFunc, .pointer none, .int .i32 0, .int .i32 0]), (128, .agg #[.string ⟨#[]⟩, .int .u8 0]), (129, .agg #[.string ⟨#[]⟩, .int .u8 0])]
theorem t_zero2 : (prog.info? 2).bind (·.zero) = some (.int .i64 0) := by kernel_rfl
theorem t_zero3 : (prog.info? 3).bind (·.zero) = some (.int .i64 0) := by kernel_rfl
theorem t_zero4 : (prog.info? 4).bind (·.zero) = some (.bool false) := by kernel_rfl
theorem t_zero5 : (prog.info? 5).bind (·.zero) = some (.int .u8 0) := by kernel_rfl
theorem t_zero6 : (prog.info? 6).bind (·.zero) = some (.int .u8 0) := by kernel_rfl
theorem t_zero7 : (prog.info? 7).bind (·.zero) = some (.agg #[.int .i64 0, .int .i64 0, .bool false, .int .u8 0]) := by kernel_rfl
theorem t_zero8 : (prog.info? 8).bind (·.zero) = some (.agg #[.int .i64 0, .int .i64 0, .bool false, .int .u8 0]) := by kernel_rfl
theorem t_zero9 : (prog.info? 9).bind (·.zero) = some (.string ⟨#[]⟩) := by kernel_rfl
theorem t_zero10 : (prog.info? 10).bind (·.zero) = some (.string ⟨#[]⟩) := by kernel_rfl
theorem t_zero11 : (prog.info? 11).bind (·.zero) = some (.string ⟨#[]⟩) := by kernel_rfl
theorem t_zero12 : (prog.info? 12).bind (·.zero) = some (.int .u64 0) := by kernel_rfl
theorem t_zero13 : (prog.info? 13).bind (·.zero) = some (.agg #[.string ⟨#[]⟩, .int .u64 0]) := by kernel_rfl
theorem t_zero14 : (prog.info? 14).bind (·.zero) = some (.agg #[.string ⟨#[]⟩, .int .u64 0]) := by kernel_rfl
theorem t_zero15 : (prog.info? 15).bind (·.zero) = some (.pointer none) := by kernel_rfl
theorem t_zero16 : (prog.info? 16).bind (·.zero) = some (.pointer none) := by kernel_rfl
theorem t_zero17 : (prog.info? 17).bind (·.zero) = some (.pointer none) := by kernel_rfl
theorem t_zero18 : (prog.info? 18).bind (·.zero) = some (.agg #[.pointer none]) := by kernel_rfl
theorem t_zero19 : (prog.info? 19).bind (·.zero) = some (.agg #[.pointer none]) := by kernel_rfl
theorem t_zero20 : (prog.info? 20).bind (·.zero) = some (.nilIface) := by kernel_rfl
theorem t_zero21 : (prog.info? 21).bind (·.zero) = some (.int .i32 0) := by kernel_rfl
theorem t_zero22 : (prog.info? 22).bind (·.zero) = some (.slice none 0 0) := by kernel_rfl
theorem t_zero23 : (prog.info? 23).bind (·.zero) = some (.agg #[.slice none 0 0, .int .i64 0, .int .i64 0, .int .i64 0, .int .i64 0, .bool false]) := by kernel_rfl
theorem t_zero24 : (prog.info? 24).bind (·.zero) = some (.agg #[.slice none 0 0, .int .i64 0, .int .i64 0, .int .i64 0, .int .i64 0, .bool false]) := by kernel_rfl
theorem t_zero25 : (prog.info? 25).bind (·.zero) = some (.agg #[.int .i64 0, .string ⟨#[]⟩, .string ⟨#[]⟩, .int .i64 0]) := by kernel_rfl
theorem t_zero26 : (prog.info? 26).bind (·.zero) = some (.agg #[.int .i64 0, .string ⟨#[]⟩, .string ⟨#[]⟩, .int .i64 0]) := by kernel_rfl
theorem t_zero29 : (prog.info? 29).bind (·.zero) = some (.slice none 0 0) := by kernel_rfl
theorem t_zero30 : (prog.info? 30).bind (·.zero) = some (.agg #[.slice none 0 0, .int .i64 0, .int .i64 0, .int .i64 0, .int .i64 0, .bool false]) := by kernel_rfl
theorem t_zero31 : (prog.info? 31).bind (·.zero) = some (.agg #[.slice none 0 0, .int .i64 0, .int .i64 0, .int .i64 0, .int .i64 0, .bool false]) := by kernel_rfl
theorem t_zero35 : (prog.info? 35).bind (·.zero) = some (.agg #[.int .i64 0, .string ⟨#[]⟩, .string ⟨#[]⟩, .int .i64 0]) := by kernel_rfl
theorem t_zero46 : (prog.info? 46).bind (·.zero) = some (.pointer none) := by kernel_rfl
theorem t_zero53 : (prog.info? 53).bind (·.zero) = some (.agg #[.string ⟨#[]⟩, .string ⟨#[]⟩, .int .i64 0]) := by kernel_rfl
theorem t_zero54 : (prog.info? 54).bind (·.zero) = some (.agg #[.string ⟨#[]⟩, .string ⟨#[]⟩, .int .i64 0]) := by kernel_rfl
theorem t_zero56 : (prog.info? 56).bind (·.zero) = some (.agg #[.string ⟨#[]⟩, .string ⟨#[]⟩, .int .i64 0]) := by kernel_rfl
theorem t_zero61 : (prog.info? 61).bind (·.zero) = some (.slice none 0 0) := by kernel_rfl
theorem t_zero63 : (prog.info? 63).bind (·.zero) = some (.agg #[.int .i64 0, .int .i64 0, .int .i64 0, .bool false]) := by kernel_rfl
theorem t_zero64 : (prog.info? 64).bind (·.zero) = some (.agg #[.int .i64 0, .int .i64 0, .int .i64 0, .bool false]) := by kernel_rfl
theorem t_zero65 : (prog.info? 65).bind (·.zero) = some (.agg #[.int .i64 0, .int .i64 0, .int .i64 0, .bool false, .slice none 0 0, .int .i64 0]) := by kernel_rfl
theorem t_zero66 : (prog.info? 66).bind (·.zero) = some (.agg #[.int .i64 0, .int .i64 0, .int .i64 0, .bool false, .slice none 0 0, .int .i64 0]) := by kernel_rfl
theorem t_zero69 : (prog.info? 69).bind (·.zero) = some (.pointer none) := by kernel_rfl
theorem t_zero74 : (prog.info? 74).bind (·.zero) = some (.pointer none) := by kernel_rfl
theorem t_zero77 : (prog.info? 77).bind (·.zero) = some (.slice none 0 0) := by kernel_rfl
theorem t_zero78 : (prog.info? 78).bind (·.zero) = some (.pointer none) := by kernel_rfl
theorem t_zero79 : (prog.info? 79).bind (·.zero) = some (.int .u64 0) := by kernel_rfl
theorem t_zero80 : (prog.info? 80).bind (·.zero) = some (.agg #[.pointer none, .pointer none, .int .u64 0]) := by kernel_rfl
theorem t_zero81 : (prog.info? 81).bind (·.zero) = some (.agg #[.pointer none, .pointer none, .int .u64 0]) := by kernel_rfl
theorem t_zero86 : (prog.info? 86).bind (·.zero) = some (.int .u64 0) := by kernel_rfl
theorem t_zero88 : (prog.info? 88).bind (·.zero) = some (.agg #[.nilFunc, .nilFunc]) := by kernel_rfl
theorem t_zero89 : (prog.info? 89).bind (·.zero) = some (.agg #[.nilFunc, .nilFunc]) := by kernel_rfl
theorem t_zero90 : (prog.info? 90).bind (·.zero) = some (.agg #[.pointer none]) := by kernel_rfl
theorem t_zero91 : (prog.info? 91).bind (·.zero) = some (.agg #[.pointer none]) := by kernel_rfl
theorem t_zero92 : (prog.info? 92).bind (·.zero) = some (.pointer none) := by kernel_rfl
theorem t_zero94 : (prog.info? 94).bind (·.zero) = some (.int .u32 0) := by kernel_rfl
theorem t_zero96 : (prog.info? 96).bind (·.zero) = some (.int .u64 0) := by kernel_rfl
theorem t_zero98 : (prog.info? 98).bind (·.zero) = some (.int .i64 0) := by kernel_rfl
theorem t_zero105 : (prog.info? 105).bind (·.zero) = some (.int .u64 0) := by kernel_rfl
theorem t_zero109 : (prog.info? 109).bind (·.zero) = some (.pointer none) := by kernel_rfl
theorem t_zero111 : (prog.info? 111).bind (·.zero) = some (.pointer none) := by kernel_rfl
theorem t_zero115 : (prog.info? 115).bind (·.zero) = some (.agg #[.pointer none, .pointer none, .pointer none, .string ⟨#[]⟩]) := by kernel_rfl
theorem t_zero116 : (prog.info? 116).bind (·.zero) = some (.agg #[.pointer none, .pointer none, .pointer none, .string ⟨#[]⟩]) := by kernel_rfl
theorem t_zero117 : (prog.info? 117).bind (·.zero) = some (.agg #[]) := by kernel_rfl
theorem t_zero118 : (prog.info? 118).bind (·.zero) = some (.agg #[]) := by kernel_rfl
theorem t_zero119 : (prog.info? 119).bind (·.zero) = some (.agg #[]) := by kernel_rfl
theorem t_zero120 : (prog.info? 120).bind (·.zero) = some (.int .u8 0) := by kernel_rfl
theorem t_zero121 : (prog.info? 121).bind (·.zero) = some (.int .u8 0) := by kernel_rfl
theorem t_zero123 : (prog.info? 123).bind (·.zero) = some (.pointer none) := by kernel_rfl
theorem t_zero124 : (prog.info? 124).bind (·.zero) = some (.int .i32 0) := by kernel_rfl
theorem t_zero125 : (prog.info? 125).bind (·.zero) = some (.int .i32 0) := by kernel_rfl
theorem t_zero126 : (prog.info? 126).bind (·.zero) = some (.agg #[.int .u64 0, .int .u64 0, .int .u32 0, .int .u8 0, .int .u8 0, .int .u8 0, .int .u8 0, .nilFunc, .pointer none, .int .i32 0, .int .i32 0]) := by kernel_rfl
theorem t_zero127 : (prog.info? 127).bind (·.zero) = some (.agg #[.int .u64 0, .int .u64 0, .int .u32 0, .int .u8 0, .int .u8 0, .int .u8 0, .int .u8 0, .nilFunc, .pointer none, .int .i32 0, .int .i32 0]) := by kernel_rfl
theorem t_zero128 : (prog.info? 128).bind (·.zero) = some (.agg #[.string ⟨#[]⟩, .int .u8 0]) := by kernel_rfl
theorem t_zero129 : (prog.info? 129).bind (·.zero) = some (.agg #[.string ⟨#[]⟩, .int .u8 0]) := by kernel_rfl
def tab_agg : List (Nat × Bool) := [(2, false), (3, false), (4, false), (5, false), (6, false), (7, true), (8, true), (9, false), (10, false), (11, false), (12, false), (13, true), (14, true), (15, false), (16, false), (17, false), (18, true), (19, true), (20, false), (21, false), (22, false), (23, true), (24, true), (25, true), (26, true), (29, false), (30, true), (31, true), (35, true), (46, false), (53, true), (54, true), (56, true), (61, false), (63, true), (64, true), (65, true), (66, true), (69, false), (74, false), (77, false), (78, false), (79, false), (80, true), (81, true), (86, false), (88, true), (89, true), (90, true), (91, true), (92, false), (94, false), (96, false), (98, false), (105, false), (109, false), (111, false), (115, true), (116, true), (117, true), (118, true), (119, true), (120, false), (121, false), (123, false), (124, false), (125, false), (126, true), (127, true), (128, true), (129, true)]
theorem t_agg2 : (prog.underlying 2).map isRow = some false := by kernel_rfl
theorem t_agg3 : (prog.underlying 3).map isRow = some false := by kernel_rfl
theorem t_agg4 : (prog.underlying 4).map isRow = some false := by kernel_rfl
theorem t_agg5 : (prog.underlying 5).map isRow = some false := by kernel_rfl
theorem t_agg6 : (prog.underlying 6).map isRow = some false := by kernel_rfl
theorem t_agg7 : (prog.underlying 7).map isRow = some true := by kernel_rfl
theorem t_agg8 : (prog.underlying 8).map isRow = some true := by kernel_rfl
theorem t_agg9 : (prog.underlying 9).map isRow = some false := by kernel_rfl
theorem t_agg10 : (prog.underlying 10).map isRow = some false := by kernel_rfl
theorem t_agg11 : (prog.underlying 11).map isRow = some false := by kernel_rfl
theorem t_agg12 : (prog.underlying 12).map isRow = some false := by kernel_rfl
theorem t_agg13 : (prog.underlying 13).map isRow = some true := by kernel_rfl
theorem t_agg14 : (prog.underlying 14).map isRow = some true := by kernel_rfl
theorem t_agg15 : (prog.underlying 15).map isRow = some false := by kernel_rfl
theorem t_agg16 : (prog.underlying 16).map isRow = some false := by kernel_rfl
theorem t_agg17 : (prog.underlying 17).map isRow = some false := by kernel_rfl
theorem t_agg18 : (prog.underlying 18).map isRow = some true := by kernel_rfl
theorem t_agg19 : (prog.underlying 19).map isRow = some true := by kernel_rfl
theorem t_agg20 : (prog.underlying 20).map isRow = some false := by kernel_rfl
theorem t_agg21 : (prog.underlying 21).map isRow = some false := by kernel_rfl
theorem t_agg22 : (prog.underlying 22).map isRow = some false := by kernel_rfl
theorem t_agg23 : (prog.underlying 23).map isRow = some true := by kernel_rfl
theorem t_agg24 : (prog.underlying 24).map isRow = some true := by kernel_rfl
theorem t_agg25 : (prog.underlying 25).map isRow = some true := by kernel_rfl
theorem t_agg26 : (prog.underlying 26).map isRow = some true := by kernel_rfl
theorem t_agg29 : (prog.underlying 29).map isRow = some false := by kernel_rfl
theorem t_agg30 : (prog.underlying 30).map isRow = some true := by kernel_rfl
theorem t_agg31 : (prog.underlying 31).map isRow = some true := by kernel_rfl
theorem t_agg35 : (prog.underlying 35).map isRow = some true := by kernel_rfl
theorem t_agg46 : (prog.underlying 46).map isRow = some false := by kernel_rfl
theorem t_agg53 : (prog.underlying 53).map isRow = some true := by kernel_rfl
theorem t_agg54 : (prog.underlying 54).map isRow = some true := by kernel_rfl
theorem t_agg56 : (prog.underlying 56).map isRow = some true := by kernel_rfl
theorem t_agg61 : (prog.underlying 61).map isRow = some false := by kernel_rfl
theorem t_agg63 : (prog.underlying 63).map isRow = some true := by kernel_rfl
theorem t_agg64 : (prog.underlying 64).map isRow = some true := by kernel_rfl
theorem t_agg65 : (prog.underlying 65).map isRow = some true := by kernel_rfl
theorem t_agg66 : (prog.underlying 66).map isRow = some true := by kernel_rfl
theorem t_agg69 : (prog.underlying 69).map isRow = some false := by kernel_rfl
theorem t_agg74 : (prog.underlying 74).map isRow = some false := by kernel_rfl
theorem t_agg77 : (prog.underlying 77).map isRow = some false := by kernel_rfl
theorem t_agg78 : (prog.underlying 78).map isRow = some false := by kernel_rfl
theorem t_agg79 : (prog.underlying 79).map isRow = some false := by kernel_rfl
theorem t_agg80 : (prog.underlying 80).map isRow = some true := by kernel_rfl
theorem t_agg81 : (prog.underlying 81).map isRow = some true := by kernel_rfl
theorem t_agg86 : (prog.underlying 86).map isRow = some false := by kernel_rfl
theorem t_agg88 : (prog.underlying 88).map isRow = some true := by kernel_rfl
theorem t_agg89 : (prog.underlying 89).map isRow = some true := by kernel_rfl
theorem t_agg90 : (prog.underlying 90).map isRow = some true := by kernel_rfl
theorem t_agg91 : (prog.underlying 91).map isRow = some true := by kernel_rfl
theorem t_agg92 : (prog.underlying 92).map isRow = some false := by kernel_rfl
theorem t_agg94 : (prog.underlying 94).map isRow = some false := by kernel_rfl
theorem t_agg96 : (prog.underlying 96).map isRow = some false := by kernel_rfl
theorem t_agg98 : (prog.underlying 98).map isRow = some false := by kernel_rfl
theorem t_agg105 : (prog.underlying 105).map isRow = some false := by kernel_rfl
theorem t_agg109 : (prog.underlying 109).map isRow = some false := by kernel_rfl
theorem t_agg111 : (prog.underlying 111).map isRow = some false := by kernel_rfl
theorem t_agg115 : (prog.underlying 115).map isRow = some true := by kernel_rfl
theorem t_agg116 : (prog.underlying 116).map isRow = some true := by kernel_rfl
theorem t_agg117 : (prog.underlying 117).map isRow = some true := by kernel_rfl
theorem t_agg118 : (prog.underlying 118).map isRow = some true := by kernel_rfl
theorem t_agg119 : (prog.underlying 119).map isRow = some true := by kernel_rfl
theorem t_agg120 : (prog.underlying 120).map isRow = some false := by kernel_rfl
theorem t_agg121 : (prog.underlying 121).map isRow = some false := by kernel_rfl
theorem t_agg123 : (prog.underlying 123).map isRow = some false := by kernel_rfl
theorem t_agg124 : (prog.underlying 124).map isRow = some false := by kernel_rfl
theorem t_agg125 : (prog.underlying 125).map isRow = some false := by kernel_rfl
theorem t_agg126 : (prog.underlying 126).map isRow = some true := by kernel_rfl
theorem t_agg127 : (prog.underlying 127).map isRow = some true := by kernel_rfl
theorem t_agg128 : (prog.underlying 128).map isRow = some true := by kernel_rfl
theorem t_agg129 : (prog.underlying 129).map isRow = some true := by kernel_rfl
def tab_elem : List (Nat × Nat) := [(22, 54), (29, 56), (61, 3), (77, 5)]
theorem t_elem22 : prog.underlying 22 = some (.slice 54) := by kernel_rfl
theorem t_elem29 : prog.underlying 29 = some (.slice 56) := by kernel_rfl
theorem t_elem61 : prog.underlying 61 = some (.slice 3) := by kernel_rfl
theorem t_elem77 : prog.underlying 77 = some (.slice 5) := by kernel_rfl
def tab_int : List (Nat × IntKind) := [(2, .i64), (3, .i64), (5, .u8), (6, .u8), (12, .u64), (21, .i32), (79, .u64), (86, .u64), (94, .u32), (96, .u64), (98, .i64), (105, .u64), (120, .u8), (121, .u8), (124, .i32), (125, .i32)]
theorem t_int2 : prog.underlying 2 = some (.int .i64) := by kernel_rfl
theorem t_int3 : prog.underlying 3 = some (.int .i64) := by kernel_rfl
theorem t_int5 : prog.underlying 5 = some (.int .u8) := by kernel_rfl
theorem t_int6 : prog.underlying 6 = some (.int .u8) := by kernel_rfl
theorem t_int12 : prog.underlying 12 = some (.int .u64) := by kernel_rfl
theorem t_int21 : prog.underlying 21 = some (.int .i32) := by kernel_rfl
theorem t_int79 : prog.underlying 79 = some (.int .u64) := by kernel_rfl
theorem t_int86 : prog.underlying 86 = some (.int .u64) := by kernel_rfl
theorem t_int94 : prog.underlying 94 = some (.int .u32) := by kernel_rfl
theorem t_int96 : prog.underlying 96 = some (.int .u64) := by kernel_rfl
theorem t_int98 : prog.underlying 98 = some (.int .i64) := by kernel_rfl
theorem t_int105 : prog.underlying 105 = some (.int .u64) := by kernel_rfl
theorem t_int120 : prog.underlying 120 = some (.int .u8) := by kernel_rfl
theorem t_int121 : prog.underlying 121 = some (.int .u8) := by kernel_rfl
theorem t_int124 : prog.underlying 124 = some (.int .i32) := by kernel_rfl
theorem t_int125 : prog.underlying 125 = some (.int .i32) := by kernel_rfl
def tab_ptr : List (Nat × Nat) := [(15, 116), (16, 119), (17, 127), (46, 66), (69, 56), (74, 64), (92, 129), (109, 3), (111, 105), (123, 5)]
theorem t_ptr15 : prog.underlying 15 = some (.pointer 116) := by kernel_rfl
theorem t_ptr16 : prog.underlying 16 = some (.pointer 119) := by kernel_rfl
theorem t_ptr17 : prog.underlying 17 = some (.pointer 127) := by kernel_rfl
theorem t_ptr46 : prog.underlying 46 = some (.pointer 66) := by kernel_rfl
theorem t_ptr69 : prog.underlying 69 = some (.pointer 56) := by kernel_rfl
theorem t_ptr74 : prog.underlying 74 = some (.pointer 64) := by kernel_rfl
theorem t_ptr92 : prog.underlying 92 = some (.pointer 129) := by kernel_rfl
theorem t_ptr109 : prog.underlying 109 = some (.pointer 3) := by kernel_rfl
theorem t_ptr111 : prog.underlying 111 = some (.pointer 105) := by kernel_rfl
theorem t_ptr123 : prog.underlying 123 = some (.pointer 5) := by kernel_rfl
def tab_arr : List (Nat × (Nat × Nat)) := [(117, (0, 16))]
theorem t_arr117 : prog.underlying 117 = some (.array 0 16) := by kernel_rfl
def tab_str : List (Nat × Unit) := [(9, ()), (10, ()), (11, ())]
theorem t_str9 : prog.underlying 9 = some .string := by kernel_rfl
theorem t_str10 : prog.underlying 10 = some .string := by kernel_rfl
theorem t_str11 : prog.underlying 11 = some .string := by kernel_rfl
def tab_bool : List (Nat × Unit) := [(4, ())]
theorem t_bool4 : prog.underlying 4 = some .bool := by kernel_rfl
def tab_good : List (Nat × Unit) := [(2, ()), (3, ()), (4, ()), (5, ()), (6, ()), (7, ()), (8, ()), (9, ()), (10, ()), (11, ()), (12, ()), (13, ()), (14, ()), (15, ()), (16, ()), (17, ()), (18, ()), (19, ()), (20, ()), (21, ()), (22, ()), (23, ()), (24, ()), (25, ()), (26, ()), (27, ()), (28, ()), (29, ()), (30, ()), (31, ()), (32, ()), (33, ()), (34, ()), (35, ()), (36, ()), (37, ()), (38, ()), (39, ()), (40, ()), (41, ()), (42, ()), (43, ()), (44, ()), (45, ()), (46, ()), (47, ()), (51, ()), (52, ()), (62, ()), (63, ()), (64, ()), (65, ()), (66, ()), (67, ()), (68, ()), (69, ()), (70, ()), (71, ()), (72, ()), (73, ()), (74, ()), (75, ()), (76, ()), (77, ())]
theorem t_good2 : goodF prog 2 = true := by kernel_rfl
theorem t_good3 : goodF prog 3 = true := by kernel_rfl
theorem t_good4 : goodF prog 4 = true := by kernel_rfl
theorem t_good5 : goodF prog 5 = true := by kernel_rfl
theorem t_good6 : goodF prog 6 = true := by kernel_rfl
theorem t_good7 : goodF prog 7 = true := by kernel_rfl
theorem t_good8 : goodF prog 8 = true := by kernel_rfl
theorem t_good9 : goodF prog 9 = true := by kernel_rfl
theorem t_good10 : goodF prog 10 = true := by kernel_rfl
theorem t_good11 : goodF prog 11 = true := by kernel_rfl
theorem t_good12 : goodF prog 12 = true := by kernel_rfl
theorem t_good13 : goodF prog 13 = true := by kernel_rfl
theorem t_good14 : goodF prog 14 = true := by kernel_rfl
theorem t_good15 : goodF prog 15 = true := by kernel_rfl
theorem t_good16 : goodF prog 16 = true := by kernel_rfl
theorem t_good17 : goodF prog 17 = true := by kernel_rfl
theorem t_good18 : goodF prog 18 = true := by kernel_rfl
theorem t_good19 : goodF prog 19 = true := by kernel_rfl
theorem t_good20 : goodF prog 20 = true := by kernel_rfl
theorem t_good21 : goodF prog 21 = true := by kernel_rfl
theorem t_good22 : goodF prog 22 = true := by kernel_rfl
theorem t_good23 : goodF prog 23 = true := by kernel_rfl
theorem t_good24 : goodF prog 24 = true := by kernel_rfl
theorem t_good25 : goodF prog 25 = true := by kernel_rfl
theorem t_good26 : goodF prog 26 = true := by kernel_rfl
theorem t_good27 : goodF prog 27 = true := by kernel_rfl
theorem t_good28 : goodF prog 28 = true := by kernel_rfl
theorem t_good29 : goodF prog 29 = true := by kernel_rfl
theorem t_good30 : goodF prog 30 = true := by kernel_rfl
theorem t_good31 : goodF prog 31 = true := by kernel_rfl
theorem t_good32 : goodF prog 32 = true := by kernel_rfl
theorem t_good33 : goodF prog 33 = true := by kernel_rfl
theorem t_good34 : goodF prog 34 = true := by kernel_rfl
theorem t_good35 : goodF prog 35 = true := by kernel_rfl
theorem t_good36 : goodF prog 36 = true := by kernel_rfl
theorem t_good37 : goodF prog 37 = true := by kernel_rfl
theorem t_good38 : goodF prog 38 = true := by kernel_rfl
theorem t_good39 : goodF prog 39 = true := by kernel_rfl
theorem t_good40 : goodF prog 40 = true := by kernel_rfl
theorem t_good41 : goodF prog 41 = true := by kernel_rfl
theorem t_good42 : goodF prog 42 = true := by kernel_rfl
theorem t_good43 : goodF prog 43 = true := by kernel_rfl
theorem t_good44 : goodF prog 44 = true := by kernel_rfl
theorem t_good45 : goodF prog 45 = true := by kernel_rfl
theorem t_good46 : goodF prog 46 = true := by kernel_rfl
theorem t_good47 : goodF prog 47 = true := by kernel_rfl
theorem t_good51 : goodF prog 51 = true := by kernel_rfl
theorem t_good52 : goodF prog 52 = true := by kernel_rfl
theorem t_good62 : goodF prog 62 = true := by kernel_rfl
theorem t_good63 : goodF prog 63 = true := by kernel_rfl
theorem t_good64 : goodF prog 64 = true := by kernel_rfl
theorem t_good65 : goodF prog 65 = true := by kernel_rfl
theorem t_good66 : goodF prog 66 = true := by kernel_rfl
theorem t_good67 : goodF prog 67 = true := by kernel_rfl
theorem t_good68 : goodF prog 68 = true := by kernel_rfl
theorem t_good69 : goodF prog 69 = true := by kernel_rfl
theorem t_good70 : goodF prog 70 = true := by kernel_rfl
theorem t_good71 : goodF prog 71 = true := by kernel_rfl
theorem t_good72 : goodF prog 72 = true := by kernel_rfl
theorem t_good73 : goodF prog 73 = true := by kernel_rfl
theorem t_good74 : goodF prog 74 = true := by kernel_rfl
theorem t_good75 : goodF prog 75 = true := by kernel_rfl
theorem t_good76 : goodF prog 76 = true := by kernel_rfl
theorem t_good77 : goodF prog 77 = true := by kernel_rfl
def tab_field : List ((Nat × Nat) × (Nat × Nat)) := [((7, 0), (0, 2)), ((7, 1), (1, 3)), ((7, 2), (2, 4)), ((7, 3), (3, 6)), ((8, 0), (0, 2)), ((8, 1), (1, 3)), ((8, 2), (2, 4)), ((8, 3), (3, 6)), ((13, 0), (0, 9)), ((13, 1), (1, 12)), ((14, 0), (0, 9)), ((14, 1), (1, 12)), ((18, 0), (0, 17)), ((19, 0), (0, 17)), ((23, 0), (0, 22)), ((23, 1), (1, 3)), ((23, 2), (2, 3)), ((23, 3), (3, 3)), ((23, 4), (4, 3)), ((23, 5), (5, 4)), ((24, 0), (0, 22)), ((24, 1), (1, 3)), ((24, 2), (2, 3)), ((24, 3), (3, 3)), ((24, 4), (4, 3)), ((24, 5), (5, 4)), ((25, 0), (0, 3)), ((25, 1), (1, 9)), ((25, 2), (2, 9)), ((25, 3), (3, 3)), ((26, 0), (0, 3)), ((26, 1), (1, 9)), ((26, 2), (2, 9)), ((26, 3), (3, 3)), ((30, 0), (0, 29)), ((30, 1), (1, 3)), ((30, 2), (2, 3)), ((30, 3), (3, 3)), ((30, 4), (4, 3)), ((30, 5), (5, 4)), ((31, 0), (0, 29)), ((31, 1), (1, 3)), ((31, 2), (2, 3)), ((31, 3), (3, 3)), ((31, 4), (4, 3)), ((31, 5), (5, 4)), ((35, 0), (0, 3)), ((35, 1), (1, 9)), ((35, 2), (2, 9)), ((35, 3), (3, 3)), ((53, 0), (0, 9)), ((53, 1), (1, 9)), ((53, 2), (2, 3)), ((54, 0), (0, 9)), ((54, 1), (1, 9)), ((54, 2), (2, 3)), ((56, 0), (0, 9)), ((56, 1), (1, 9)), ((56, 2), (2, 3)), ((63, 0), (0, 3)), ((63, 1), (1, 3)), ((63, 2), (2, 3)), ((63, 3), (3, 4)), ((64, 0), (0, 3)), ((64, 1), (1, 3)), ((64, 2), (2, 3)), ((64, 3), (3, 4)), ((65, 0), (0, 64)), ((65, 1), (4, 29)), ((65, 2), (5, 3)), ((66, 0), (0, 64)), ((66, 1), (4, 29)), ((66, 2), (5, 3)), ((80, 0), (0, 17)), ((80, 1), (1, 78)), ((80, 2), (2, 79)), ((81, 0), (0, 17)), ((81, 1), (1, 78)), ((81, 2), (2, 79)), ((88, 0), (0, 76)), ((88, 1), (1, 83)), ((89, 0), (0, 76)), ((89, 1), (1, 83)), ((90, 0), (0, 17)), ((91, 0), (0, 17)), ((115, 0), (0, 17)), ((115, 1), (1, 17)), ((115, 2), (2, 17)), ((115, 3), (3, 9)), ((116, 0), (0, 17)), ((116, 1), (1, 17)), ((116, 2), (2, 17)), ((116, 3), (3, 9)), ((118, 0), (0, 117)), ((119, 0), (0, 117)), ((126, 0), (0, 12)), ((126, 1), (1, 12)), ((126, 2), (2, 94)), ((126, 3), (3, 120)), ((126, 4), (4, 5)), ((126, 5), (5, 5)), ((126, 6), (6, 121)), ((126, 7), (7, 122)), ((126, 8), (8, 123)), ((126, 9), (9, 124)), ((126, 10), (10, 125)), ((127, 0), (0, 12)), ((127, 1), (1, 12)), ((127, 2), (2, 94)), ((127, 3), (3, 120)), ((127, 4), (4, 5)), ((127, 5), (5, 5)), ((127, 6), (6, 121)), ((127, 7), (7, 122)), ((127, 8), (8, 123)), ((127, 9), (9, 124)), ((127, 10), (10, 125)), ((128, 0), (0, 9)), ((128, 1), (1, 121)), ((129, 0), (0, 9)), ((129, 1), (1, 121))]
theorem t_field7_0 : pfield prog 7 0 = some (0, 2) := by kernel_rfl
theorem t_field7_1 : pfield prog 7 1 = some (1, 3) := by kernel_rfl
theorem t_field7_2 : pfield prog 7 2 = some (2, 4) := by kernel_rfl
theorem t_field7_3 : pfield prog 7 3 = some (3, 6) := by kernel_rfl
theorem t_field8_0 : pfield prog 8 0 = some (0, 2) := by kernel_rfl
theorem t_field8_1 : pfield prog 8 1 = some (1, 3) := by kernel_rfl
theorem t_field8_2 : pfield prog 8 2 = some (2, 4) := by kernel_rfl
theorem t_field8_3 : pfield prog 8 3 = some (3, 6) := by kernel_rfl
theorem t_field13_0 : pfield prog 13 0 = some (0, 9) := by kernel_rfl
theorem t_field13_1 : pfield prog 13 1 = some (1, 12) := by kernel_rfl
theorem t_field14_0 : pfield prog 14 0 = some (0, 9) := by kernel_rfl
theorem t_field14_1 : pfield prog 14 1 = some (1, 12) := by kernel_rfl
theorem t_field18_0 : pfield prog 18 0 = some (0, 17) := by kernel_rfl
theorem t_field19_0 : pfield prog 19 0 = some (0, 17) := by kernel_rfl
theorem t_field23_0 : pfield prog 23 0 = some (0, 22) := by kernel_rfl
theorem t_field23_1 : pfield prog 23 1 = some (1, 3) := by kernel_rfl
theorem t_field23_2 : pfield prog 23 2 = some (2, 3) := by kernel_rfl
theorem t_field23_3 : pfield prog 23 3 = some (3, 3) := by kernel_rfl
theorem t_field23_4 : pfield prog 23 4 = some (4, 3) := by kernel_rfl
theorem t_field23_5 : pfield prog 23 5 = some (5, 4) := by kernel_rfl
theorem t_field24_0 : pfield prog 24 0 = some (0, 22) := by kernel_rfl
theorem t_field24_1 : pfield prog 24 1 = some (1, 3) := by kernel_rfl
theorem t_field24_2 : pfield prog 24 2 = some (2, 3) := by kernel_rfl
theorem t_field24_3 : pfield prog 24 3 = some (3, 3) := by kernel_rfl
theorem t_field24_4 : pfield prog 24 4 = some (4, 3) := by kernel_rfl
theorem t_field24_5 : pfield prog 24 5 = some (5, 4) := by kernel_rfl
theorem t_field25_0 : pfield prog 25 0 = some (0, 3) := by kernel_rfl
theorem t_field25_1 : pfield prog 25 1 = some (1, 9) := by kernel_rfl
theorem t_field25_2 : pfield prog 25 2 = some (2, 9) := by kernel_rfl
theorem t_field25_3 : pfield prog 25 3 = some (3, 3) := by kernel_rfl
theorem t_field26_0 : pfield prog 26 0 = some (0, 3) := by kernel_rfl
theorem t_field26_1 : pfield prog 26 1 = some (1, 9) := by kernel_rfl
theorem t_field26_2 : pfield prog 26 2 = some (2, 9) := by kernel_rfl
theorem t_field26_3 : pfield prog 26 3 = some (3, 3) := by kernel_rfl
theorem t_field30_0 : pfield prog 30 0 = some (0, 29) := by kernel_rfl
theorem t_field30_1 : pfield prog 30 1 = some (1, 3) := by kernel_rfl
theorem t_field30_2 : pfield prog 30 2 = some (2, 3) := by kernel_rfl
theorem t_field30_3 : pfield prog 30 3 = some (3, 3) := by kernel_rfl
theorem t_field30_4 : pfield prog 30 4 = some (4, 3) := by kernel_rfl
theorem t_field30_5 : pfield prog 30 5 = some (5, 4) := by kernel_rfl
theorem t_field31_0 : pfield prog 31 0 = some (0, 29) := by kernel_rfl
theorem t_field31_1 : pfield prog 31 1 = some (1, 3) := by kernel_rfl
theorem t_field31_2 : pfield prog 31 2 = some (2, 3) := by kernel_rfl
theorem t_field31_3 : pfield prog 31 3 = some (3, 3) := by kernel_rfl
theorem t_field31_4 : pfield prog 31 4 = some (4, 3) := by kernel_rfl
theorem t_field31_5 : pfield prog 31 5 = some (5, 4) := by kernel_rfl
theorem t_field35_0 : pfield prog 35 0 = some (0, 3) := by kernel_rfl
theorem t_field35_1 : pfield prog 35 1 = some (1, 9) := by kernel_rfl
theorem t_field35_2 : pfield prog 35 2 = some (2, 9) := by kernel_rfl
theorem t_field35_3 : pfield prog 35 3 = some (3, 3) := by kernel_rfl
theorem t_field53_0 : pfield prog 53 0 = some (0, 9) := by kernel_rfl
theorem t_field53_1 : pfield prog 53 1 = some (1, 9) := by kernel_rfl
theorem t_field53_2 : pfield prog 53 2 = some (2, 3) := by kernel_rfl
theorem t_field54_0 : pfield prog 54 0 = some (0, 9) := by kernel_rfl
theorem t_field54_1 : pfield prog 54 1 = some (1, 9) := by kernel_rfl
theorem t_field54_2 : pfield prog 54 2 = some (2, 3) := by kernel_rfl
theorem t_field56_0 : pfield prog 56 0 = some (0, 9) := by kernel_rfl
theorem t_field56_1 : pfield prog 56 1 = some (1, 9) := by kernel_rfl
theorem t_field56_2 : pfield prog 56 2 = some (2, 3) := by kernel_rfl
theorem t_field63_0 : pfield prog 63 0 = some (0, 3) := by kernel_rfl
theorem t_field63_1 : pfield prog 63 1 = some (1, 3) := by kernel_rfl
theorem t_field63_2 : pfield prog 63 2 = some (2, 3) := by kernel_rfl
theorem t_field63_3 : pfield prog 63 3 = some (3, 4) := by kernel_rfl
theorem t_field64_0 : pfield prog 64 0 = some (0, 3) := by kernel_rfl
theorem t_field64_1 : pfield prog 64 1 = some (1, 3) := by kernel_rfl
theorem t_field64_2 : pfield prog 64 2 = some (2, 3) := by kernel_rfl
theorem t_field64_3 : pfield prog 64 3 = some (3, 4) := by kernel_rfl
theorem t_field65_0 : pfield prog 65 0 = some (0, 64) := by kernel_rfl
theorem t_field65_1 : pfield prog 65 1 = some (4, 29) := by kernel_rfl
theorem t_field65_2 : pfield prog 65 2 = some (5, 3) := by kernel_rfl
theorem t_field66_0 : pfield prog 66 0 = some (0, 64) := by kernel_rfl
theorem t_field66_1 : pfield prog 66 1 = some (4, 29) := by kernel_rfl
theorem t_field66_2 : pfield prog 66 2 = some (5, 3) := by kernel_rfl
theorem t_field80_0 : pfield prog 80 0 = some (0, 17) := by kernel_rfl
theorem t_field80_1 : pfield prog 80 1 = some (1, 78) := by kernel_rfl
theorem t_field80_2 : pfield prog 80 2 = some (2, 79) := by kernel_rfl
theorem t_field81_0 : pfield prog 81 0 = some (0, 17) := by kernel_rfl
theorem t_field81_1 : pfield prog 81 1 = some (1, 78) := by kernel_rfl
theorem t_field81_2 : pfield prog 81 2 = some (2, 79) := by kernel_rfl
theorem t_field88_0 : pfield prog 88 0 = some (0, 76) := by kernel_rfl
theorem t_field88_1 : pfield prog 88 1 = some (1, 83) := by kernel_rfl
theorem t_field89_0 : pfield prog 89 0 = some (0, 76) := by kernel_rfl
theorem t_field89_1 : pfield prog 89 1 = some (1, 83) := by kernel_rfl
theorem t_field90_0 : pfield prog 90 0 = some (0, 17) := by kernel_rfl
theorem t_field91_0 : pfield prog 91 0 = some (0, 17) := by kernel_rfl
theorem t_field115_0 : pfield prog 115 0 = some (0, 17) := by kernel_rfl
theorem t_field115_1 : pfield prog 115 1 = some (1, 17) := by kernel_rfl
theorem t_field115_2 : pfield prog 115 2 = some (2, 17) := by kernel_rfl
theorem t_field115_3 : pfield prog 115 3 = some (3, 9) := by kernel_rfl
theorem t_field116_0 : pfield prog 116 0 = some (0, 17) := by kernel_rfl
theorem t_field116_1 : pfield prog 116 1 = some (1, 17) := by kernel_rfl
theorem t_field116_2 : pfield prog 116 2 = some (2, 17) := by kernel_rfl
theorem t_field116_3 : pfield prog 116 3 = some (3, 9) := by kernel_rfl
theorem t_field118_0 : pfield prog 118 0 = some (0, 117) := by kernel_rfl
theorem t_field119_0 : pfield prog 119 0 = some (0, 117) := by kernel_rfl
theorem t_field126_0 : pfield prog 126 0 = some (0, 12) := by kernel_rfl
theorem t_field126_1 : pfield prog 126 1 = some (1, 12) := by kernel_rfl
theorem t_field126_2 : pfield prog 126 2 = some (2, 94) := by kernel_rfl
theorem t_field126_3 : pfield prog 126 3 = some (3, 120) := by kernel_rfl
theorem t_field126_4 : pfield prog 126 4 = some (4, 5) := by kernel_rfl
theorem t_field126_5 : pfield prog 126 5 = some (5, 5) := by kernel_rfl
theorem t_field126_6 : pfield prog 126 6 = some (6, 121) := by kernel_rfl
theorem t_field126_7 : pfield prog 126 7 = some (7, 122) := by kernel_rfl
theorem t_field126_8 : pfield prog 126 8 = some (8, 123) := by kernel_rfl
theorem t_field126_9 : pfield prog 126 9 = some (9, 124) := by kernel_rfl
theorem t_field126_10 : pfield prog 126 10 = some (10, 125) := by kernel_rfl
theorem t_field127_0 : pfield prog 127 0 = some (0, 12) := by kernel_rfl
theorem t_field127_1 : pfield prog 127 1 = some (1, 12) := by kernel_rfl
theorem t_field127_2 : pfield prog 127 2 = some (2, 94) := by kernel_rfl
theorem t_field127_3 : pfield prog 127 3 = some (3, 120) := by kernel_rfl
theorem t_field127_4 : pfield prog 127 4 = some (4, 5) := by kernel_rfl
theorem t_field127_5 : pfield prog 127 5 = some (5, 5) := by kernel_rfl
theorem t_field127_6 : pfield prog 127 6 = some (6, 121) := by kernel_rfl
theorem t_field127_7 : pfield prog 127 7 = some (7, 122) := by kernel_rfl
theorem t_field127_8 : pfield prog 127 8 = some (8, 123) := by kernel_rfl
theorem t_field127_9 : pfield prog 127 9 = some (9, 124) := by kernel_rfl
theorem t_field127_10 : pfield prog 127 10 = some (10, 125) := by kernel_rfl
theorem t_field128_0 : pfield prog 128 0 = some (0, 9) := by kernel_rfl
theorem t_field128_1 : pfield prog 128 1 = some (1, 121) := by kernel_rfl
theorem t_field129_0 : pfield prog 129 0 = some (0, 9) := by kernel_rfl
theorem t_field129_1 : pfield prog 129 1 = some (1, 121) := by kernel_rfl
def tab_places : List (Nat × List (Nat × Nat)) := [(7, [(0, 1), (1, 1), (2, 1), (3, 1)]), (8, [(0, 1), (1, 1), (2, 1), (3, 1)]), (13, [(0, 1), (1, 1)]), (14, [(0, 1), (1, 1)]), (18, [(0, 1)]), (19, [(0, 1)]), (23, [(0, 1), (1, 1), (2, 1), (3, 1), (4, 1), (5, 1)]), (24, [(0, 1), (1, 1), (2, 1), (3, 1), (4, 1), (5, 1)]), (25, [(0, 1), (1, 1), (2, 1), (3, 1)]), (26, [(0, 1), (1, 1), (2, 1), (3, 1)]), (30, [(0, 1), (1, 1), (2, 1), (3, 1), (4, 1), (5, 1)]), (31, [(0, 1), (1, 1), (2, 1), (3, 1), (4, 1), (5, 1)]), (35, [(0, 1), (1, 1), (2, 1), (3, 1)]), (53, [(0, 1), (1, 1), (2, 1)]), (54, [(0, 1), (1, 1), (2, 1)]), (56, [(0, 1), (1, 1), (2, 1)]), (63, [(0, 1), (1, 1), (2, 1), (3, 1)]), (64, [(0, 1), (1, 1), (2, 1), (3, 1)]), (65, [(0, 4), (4, 1), (5, 1)]), (66, [(0, 4), (4, 1), (5, 1)]), (80, [(0, 1), (1, 1), (2, 1)]), (81, [(0, 1), (1, 1), (2, 1)]), (88, [(0, 1), (1, 1)]), (89, [(0, 1), (1, 1)]), (90, [(0, 1)]), (91, [(0, 1)]), (115, [(0, 1), (1, 1), (2, 1), (3, 1)]), (116, [(0, 1), (1, 1), (2, 1), (3, 1)]), (118, [(0, 0)]), (119, [(0, 0)]), (126, [(0, 1), (1, 1), (2, 1), (3, 1), (4, 1), (5, 1), (6, 1), (7, 1), (8, 1), (9, 1), (10, 1)]), (127, [(0, 1), (1, 1), (2, 1), (3, 1), (4, 1), (5, 1), (6, 1), (7, 1), (8, 1), (9, 1), (10, 1)]), (128, [(0, 1), (1, 1)]), (129, [(0, 1), (1, 1)])]
theorem t_places7 : pplaces prog 7 = some [(0, 1), (1, 1), (2, 1), (3, 1)] := by kernel_rfl
theorem t_places8 : pplaces prog 8 = some [(0, 1), (1, 1), (2, 1), (3, 1)] := by kernel_rfl
theorem t_places13 : pplaces prog 13 = some [(0, 1), (1, 1)] := by kernel_rfl
theorem t_places14 : pplaces prog 14 = some [(0, 1), (1, 1)] := by kernel_rfl
theorem t_places18 : pplaces prog 18 = some [(0, 1)] := by kernel_rfl
theorem t_places19 : pplaces prog 19 = some [(0, 1)] := by kernel_rfl
theorem t_places23 : pplaces prog 23 = some [(0, 1), (1, 1), (2, 1), (3, 1), (4, 1), (5, 1)] := by kernel_rfl
theorem t_places24 : pplaces prog 24 = some [(0, 1), (1, 1), (2, 1), (3, 1), (4, 1), (5, 1)] := by kernel_rfl
theorem t_places25 : pplaces prog 25 = some [(0, 1), (1, 1), (2, 1), (3, 1)] := by kernel_rfl
theorem t_places26 : pplaces prog 26 = some [(0, 1), (1, 1), (2, 1), (3, 1)] := by kernel_rfl
theorem t_places30 : pplaces prog 30 = some [(0, 1), (1, 1), (2, 1), (3, 1), (4, 1), (5, 1)] := by kernel_rfl
theorem t_places31 : pplaces prog 31 = some [(0, 1), (1, 1), (2, 1), (3, 1), (4, 1), (5, 1)] := by kernel_rfl
theorem t_places35 : pplaces prog 35 = some [(0, 1), (1, 1), (2, 1), (3, 1)] := by kernel_rfl
theorem t_places53 : pplaces prog 53 = some [(0, 1), (1, 1), (2, 1)] := by kernel_rfl
theorem t_places54 : pplaces prog 54 = some [(0, 1), (1, 1), (2, 1)] := by kernel_rfl
theorem t_places56 : pplaces prog 56 = some [(0, 1), (1, 1), (2, 1)] := by kernel_rfl
theorem t_places63 : pplaces prog 63 = some [(0, 1), (1, 1), (2, 1), (3, 1)] := by kernel_rfl
theorem t_places64 : pplaces prog 64 = some [(0, 1), (1, 1), (2, 1), (3, 1)] := by kernel_rfl
theorem t_places65 : pplaces prog 65 = some [(0, 4), (4, 1), (5, 1)] := by kernel_rfl
theorem t_places66 : pplaces prog 66 = some [(0, 4), (4, 1), (5, 1)] := by kernel_rfl
theorem t_places80 : pplaces prog 80 = some [(0, 1), (1, 1), (2, 1)] := by kernel_rfl
theorem t_places81 : pplaces prog 81 = some [(0, 1), (1, 1), (2, 1)] := by kernel_rfl
theorem t_places88 : pplaces prog 88 = some [(0, 1), (1, 1)] := by kernel_rfl
theorem t_places89 : pplaces prog 89 = some [(0, 1), (1, 1)] := by kernel_rfl
theorem t_places90 : pplaces prog 90 = some [(0, 1)] := by kernel_rfl
theorem t_places91 : pplaces prog 91 = some [(0, 1)] := by kernel_rfl
theorem t_places115 : pplaces prog 115 = some [(0, 1), (1, 1), (2, 1), (3, 1)] := by kernel_rfl
theorem t_places116 : pplaces prog 116 = some [(0, 1), (1, 1), (2, 1), (3, 1)] := by kernel_rfl
theorem t_places118 : pplaces prog 118 = some [(0, 0)] := by kernel_rfl
theorem t_places119 : pplaces prog 119 = some [(0, 0)] := by kernel_rfl
theorem t_places126 : pplaces prog 126 = some [(0, 1), (1, 1), (2, 1), (3, 1), (4, 1), (5, 1), (6, 1), (7, 1), (8, 1), (9, 1), (10, 1)] := by kernel_rfl
theorem t_places127 : pplaces prog 127 = some [(0, 1), (1, 1), (2, 1), (3, 1), (4, 1), (5, 1), (6, 1), (7, 1), (8, 1), (9, 1), (10, 1)] := by kernel_rfl
theorem t_places128 : pplaces prog 128 = some [(0, 1), (1, 1)] := by kernel_rfl
theorem t_places129 : pplaces prog 129 = some [(0, 1), (1, 1)] := by kernel_rfl
def tab : Tab where
  sz := lkL tab_sz
  byt := lkL tab_byt
  zero := lkL tab_zero
  agg := lkL tab_agg
  elem := lkL tab_elem
  arr := lkL tab_arr
  str t := (lkL tab_str t).isSome
  field t f := lkL tab_field (t, f)
  int := lkL tab_int
  bool t := (lkL tab_bool t).isSome
  good g := (lkL tab_good g).isSome
  places := lkL tab_places
  ptr := lkL tab_ptr
instance tab_ok : Tab.Ok tab prog where
  sz := allL_get ⟨t_sz2, t_sz3, t_sz4, t_sz5, t_sz6, t_sz7, t_sz8, t_sz9, t_sz10, t_sz11, t_sz12, t_sz13, t_sz14, t_sz15, t_sz16, t_sz17, t_sz18, t_sz19, t_sz20, t_sz21, t_sz22, t_sz23, t_sz24, t_sz25, t_sz26, t_sz29, t_sz30, t_sz31, t_sz35, t_sz46, t_sz53, t_sz54, t_sz56, t_sz61, t_sz63, t_sz64, t_sz65, t_sz66, t_sz69, t_sz74, t_sz77, t_sz78, t_sz79, t_sz80, t_sz81, t_sz86, t_sz88, t_sz89, t_sz90, t_sz91, t_sz92, t_sz94, t_sz96, t_sz98, t_sz105, t_sz109, t_sz111, t_sz115, t_sz116, t_sz117, t_sz118, t_sz119, t_sz120, t_sz121, t_sz123, t_sz124, t_sz125, t_sz126, t_sz127, t_sz128, t_sz129, trivial⟩
  byt := allL_get ⟨t_byt2, t_byt3, t_byt4, t_byt5, t_byt6, t_byt7, t_byt8, t_byt9, t_byt10, t_byt11, t_byt12, t_byt13, t_byt14, t_byt15, t_byt16, t_byt17, t_byt18, t_byt19, t_byt20, t_byt21, t_byt22, t_byt23, t_byt24, t_byt25, t_byt26, t_byt29, t_byt30, t_byt31, t_byt35, t_byt46, t_byt53, t_byt54, t_byt56, t_byt61, t_byt63, t_byt64, t_byt65, t_byt66, t_byt69, t_byt74, t_byt77, t_byt78, t_byt79, t_byt80, t_byt81, t_byt86, t_byt88, t_byt89, t_byt90, t_byt91, t_byt92, t_byt94, t_byt96, t_byt98, t_byt105, t_byt109, t_byt111, t_byt115, t_byt116, t_byt117, t_byt118, t_byt119, t_byt120, t_byt121, t_byt123, t_byt124, t_byt125, t_byt126, t_byt127, t_byt128, t_byt129, trivial⟩
  zero := allL_get ⟨t_zero2, t_zero3, t_zero4, t_zero5, t_zero6, t_zero7, t_zero8, t_zero9, t_zero10, t_zero11, t_zero12, t_zero13, t_zero14, t_zero15, t_zero16, t_zero17, t_zero18, t_zero19, t_zero20, t_zero21, t_zero22, t_zero23, t_zero24, t_zero25, t_zero26, t_zero29, t_zero30, t_zero31, t_zero35, t_zero46, t_zero53, t_zero54, t_zero56, t_zero61, t_zero63, t_zero64, t_zero65, t_zero66, t_zero69, t_zero74, t_zero77, t_zero78, t_zero79, t_zero80, t_zero81, t_zero86, t_zero88, t_zero89, t_zero90, t_zero91, t_zero92, t_zero94, t_zero96, t_zero98, t_zero105, t_zero109, t_zero111, t_zero115, t_zero116, t_zero117, t_zero118, t_zero119, t_zero120, t_zero121, t_zero123, t_zero124, t_zero125, t_zero126, t_zero127, t_zero128, t_zero129, trivial⟩
  agg := allL_get ⟨t_agg2, t_agg3, t_agg4, t_agg5, t_agg6, t_agg7, t_agg8, t_agg9, t_agg10, t_agg11, t_agg12, t_agg13, t_agg14, t_agg15, t_agg16, t_agg17, t_agg18, t_agg19, t_agg20, t_agg21, t_agg22, t_agg23, t_agg24, t_agg25, t_agg26, t_agg29, t_agg30, t_agg31, t_agg35, t_agg46, t_agg53, t_agg54, t_agg56, t_agg61, t_agg63, t_agg64, t_agg65, t_agg66, t_agg69, t_agg74, t_agg77, t_agg78, t_agg79, t_agg80, t_agg81, t_agg86, t_agg88, t_agg89, t_agg90, t_agg91, t_agg92, t_agg94, t_agg96, t_agg98, t_agg105, t_agg109, t_agg111, t_agg115, t_agg116, t_agg117, t_agg118, t_agg119, t_agg120, t_agg121, t_agg123, t_agg124, t_agg125, t_agg126, t_agg127, t_agg128, t_agg129, trivial⟩
  elem := allL_get ⟨t_elem22, t_elem29, t_elem61, t_elem77, trivial⟩
  int := allL_get ⟨t_int2, t_int3, t_int5, t_int6, t_int12, t_int21, t_int79, t_int86, t_int94, t_int96, t_int98, t_int105, t_int120, t_int121, t_int124, t_int125, trivial⟩
  places := allL_get ⟨t_places7, t_places8, t_places13, t_places14, t_places18, t_places19, t_places23, t_places24, t_places25, t_places26, t_places30, t_places31, t_places35, t_places53, t_places54, t_places56, t_places63, t_places64, t_places65, t_places66, t_places80, t_places81, t_places88, t_places89, t_places90, t_places91, t_places115, t_places116, t_places118, t_places119, t_places126, t_places127, t_places128, t_places129, trivial⟩
  ptr := allL_get ⟨t_ptr15, t_ptr16, t_ptr17, t_ptr46, t_ptr69, t_ptr74, t_ptr92, t_ptr109, t_ptr111, t_ptr123, trivial⟩
  arr t n e := allL_get (l := tab_arr) (Q := fun t (p : Nat × Nat) => prog.underlying t = some (.array p.1 p.2)) ⟨t_arr117, trivial⟩ t (n, e)
  str t h := allU_get (l := tab_str) (Q := fun t => prog.underlying t = some .string) ⟨t_str9, t_str10, t_str11, trivial⟩ t h
  bool t h := allU_get (l := tab_bool) (Q := fun t => prog.underlying t = some .bool) ⟨t_bool4, trivial⟩ t h
  good t h := allU_get (l := tab_good) (Q := fun t => goodF prog t = true) ⟨t_good2, t_good3, t_good4, t_good5, t_good6, t_good7, t_good8, t_good9, t_good10, t_good11, t_good12, t_good13, t_good14, t_good15, t_good16, t_good17, t_good18, t_good19, t_good20, t_good21, t_good22, t_good23, t_good24, t_good25, t_good26, t_good27, t_good28, t_good29, t_good30, t_good31, t_good32, t_good33, t_good34, t_good35, t_good36, t_good37, t_good38, t_good39, t_good40, t_good41, t_good42, t_good43, t_good44, t_good45, t_good46, t_good47, t_good51, t_good52, t_good62, t_good63, t_good64, t_good65, t_good66, t_good67, t_good68, t_good69, t_good70, t_good71, t_good72, t_good73, t_good74, t_good75, t_good76, t_good77, trivial⟩ t h
  field t f o u := allL_get (l := tab_field) (Q := fun (q : Nat × Nat) (p : Nat × Nat) => pfield prog q.1 q.2 = some (p.1, p.2)) ⟨t_field7_0, t_field7_1, t_field7_2, t_field7_3, t_field8_0, t_field8_1, t_field8_2, t_field8_3, t_field13_0, t_field13_1, t_field14_0, t_field14_1, t_field18_0, t_field19_0, t_field23_0, t_field23_1, t_field23_2, t_field23_3, t_field23_4, t_field23_5, t_field24_0, t_field24_1, t_field24_2, t_field24_3, t_field24_4, t_field24_5, t_field25_0, t_field25_1, t_field25_2, t_field25_3, t_field26_0, t_field26_1, t_field26_2, t_field26_3, t_field30_0, t_field30_1, t_field30_2, t_field30_3, t_field30_4, t_field30_5, t_field31_0, t_field31_1, t_field31_2, t_field31_3, t_field31_4, t_field31_5, t_field35_0, t_field35_1, t_field35_2, t_field35_3, t_field53_0, t_field53_1, t_field53_2, t_field54_0, t_field54_1, t_field54_2, t_field56_0, t_field56_1, t_field56_2, t_field63_0, t_field63_1, t_field63_2, t_field63_3, t_field64_0, t_field64_1, t_field64_2, t_field64_3, t_field65_0, t_field65_1, t_field65_2, t_field66_0, t_field66_1, t_field66_2, t_field80_0, t_field80_1, t_field80_2, t_field81_0, t_field81_1, t_field81_2, t_field88_0, t_field88_1, t_field89_0, t_field89_1, t_field90_0, t_field91_0, t_field115_0, t_field115_1, t_field115_2, t_field115_3, t_field116_0, t_field116_1, t_field116_2, t_field116_3, t_field118_0, t_field119_0, t_field126_0, t_field126_1, t_field126_2, t_field126_3, t_field126_4, t_field126_5, t_field126_6, t_field126_7, t_field126_8, t_field126_9, t_field126_10, t_field127_0, t_field127_1, t_field127_2, t_field127_3, t_field127_4, t_field127_5, t_field127_6, t_field127_7, t_field127_8, t_field127_9, t_field127_10, t_field128_0, t_field128_1, t_field129_0, t_field129_1, trivial⟩ (t, f) (o, u)
end Go.Proofs.Try
