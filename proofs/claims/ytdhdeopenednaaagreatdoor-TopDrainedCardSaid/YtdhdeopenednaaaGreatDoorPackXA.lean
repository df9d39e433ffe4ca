/- The types of the program's code, told by abstract values; what a call may be; Shores and samples, told by abstract values; Numbers in ranges; spans; Which strings are names, in the program; Whether a yard's name is fresh, in the program; Names, in the reference; Sets of numbers; small functions; Lists of numbers: has, within, Ints, turn, among; Bits of small numbers; the elements of a set; lists compared; The elements of a set; lists compared; Lists that come before others; copies of samples; Whether a shore is valid, in the program; Whether a shore is valid, in the reference; A shore with samples, opened. No condition. -/
import Derived.Test.YtdhdeopenednaaaGreatDoorChecked
import Derived.Laws.RangeAny
import Derived.Laws.Strings
import Derived.Test.YtdhdeopenednaaaGreatDoorPackVI

namespace Go.Proofs
open Go.V

def Tryz.tl : List (Nat × TI) := [
  (3, ⟨Go.TypeDesc.int (Go.IntKind.i64), false, 1, 8, [.int .i64 0], false⟩),
  (4, ⟨Go.TypeDesc.bool, false, 1, 1, [.ff], false⟩),
  (5, ⟨Go.TypeDesc.int (Go.IntKind.u8), false, 1, 1, [.int .u8 0], false⟩),
  (9, ⟨Go.TypeDesc.string, false, 1, 16, [.str ⟨#[]⟩], false⟩),
  (21, ⟨Go.TypeDesc.int (Go.IntKind.i32), false, 1, 4, [.int .i32 0], false⟩),
  (23, ⟨TypeDesc.struct #[⟨ "Lo", 3, 0, false, "", "", 0⟩, ⟨ "Hi", 3, 1, false, "", "", 8⟩], true, 2, 16, [.int .i64 0, .int .i64 0], true⟩),
  (24, ⟨Go.TypeDesc.slice 104, false, 1, 24, [.nils], false⟩),
  (26, ⟨TypeDesc.struct #[⟨ "Slope", 23, 0, false, "", "", 0⟩, ⟨ "Marks", 23, 2, false, "", "", 16⟩, ⟨ "Bite", 3, 4, false, "", "", 32⟩, ⟨ "Tides", 24, 5, false, "", "", 40⟩], true, 6, 64, [.int .i64 0, .int .i64 0, .int .i64 0, .int .i64 0, .int .i64 0, .nils], false⟩),
  (28, ⟨TypeDesc.struct #[⟨ "Draft", 23, 0, false, "", "", 0⟩, ⟨ "Sink", 3, 2, false, "", "", 16⟩], true, 3, 24, [.int .i64 0, .int .i64 0, .int .i64 0], false⟩),
  (29, ⟨Go.TypeDesc.slice 55, false, 1, 24, [.nils], false⟩),
  (30, ⟨Go.TypeDesc.slice 23, false, 1, 24, [.nils], false⟩),
  (32, ⟨TypeDesc.struct #[⟨ "Yards", 29, 0, false, "", "", 0⟩, ⟨ "Drifts", 30, 1, false, "", "", 24⟩, ⟨ "Spread", 3, 2, false, "", "", 48⟩], true, 3, 56, [.nils, .nils, .int .i64 0], false⟩),
  (33, ⟨Go.TypeDesc.slice 121, false, 1, 24, [.nils], false⟩),
  (35, ⟨TypeDesc.struct #[⟨ "Tide", 5, 0, false, "", "", 0⟩, ⟨ "Ballast", 5, 1, false, "", "", 1⟩, ⟨ "Truth", 33, 2, false, "", "", 8⟩], true, 3, 32, [.int .u8 0, .int .u8 0, .nils], false⟩),
  (36, ⟨Go.TypeDesc.int (Go.IntKind.u32), false, 1, 4, [.int .u32 0], false⟩),
  (38, ⟨TypeDesc.struct #[⟨ "Drifts", 33, 0, false, "", "", 0⟩, ⟨ "Spills", 36, 1, false, "", "", 24⟩, ⟨ "Taken", 33, 2, false, "", "", 32⟩], true, 3, 56, [.nils, .int .u32 0, .nils], false⟩),
  (40, ⟨TypeDesc.struct #[⟨ "Run", 35, 0, false, "", "", 0⟩, ⟨ "Past", 38, 3, false, "", "", 32⟩], true, 6, 88, [.int .u8 0, .int .u8 0, .nils, .nils, .int .u32 0, .nils], false⟩),
  (42, ⟨TypeDesc.struct #[⟨ "Shore", 32, 0, false, "", "", 0⟩, ⟨ "Drained", 40, 3, false, "", "", 56⟩], true, 9, 144, [.nils, .nils, .int .i64 0, .int .u8 0, .int .u8 0, .nils, .nils, .int .u32 0, .nils], false⟩),
  (43, ⟨Go.TypeDesc.int (Go.IntKind.i64), false, 1, 8, [.int .i64 0], false⟩),
  (50, ⟨TypeDesc.struct #[⟨ "Slope", 3, 0, false, "", "", 0⟩, ⟨ "Draft", 3, 1, false, "", "", 8⟩, ⟨ "Height", 3, 2, false, "", "", 16⟩, ⟨ "Wind", 3, 3, false, "", "", 24⟩], true, 4, 32, [.int .i64 0, .int .i64 0, .int .i64 0, .int .i64 0], true⟩),
  (55, ⟨TypeDesc.struct #[⟨ "Name", 9, 0, false, "", "", 0⟩, ⟨ "At", 3, 1, false, "", "", 16⟩, ⟨ "Kinds", 3, 2, false, "", "", 24⟩], true, 3, 32, [.str ⟨#[]⟩, .int .i64 0, .int .i64 0], false⟩),
  (56, ⟨Go.TypeDesc.slice 69, false, 1, 24, [.nils], false⟩),
  (58, ⟨Go.TypeDesc.slice 3, false, 1, 24, [.nils], false⟩),
  (60, ⟨Go.TypeDesc.slice 67, false, 1, 24, [.nils], false⟩),
  (67, ⟨TypeDesc.struct #[⟨ "Yard", 3, 0, false, "", "", 0⟩, ⟨ "Kind", 3, 1, false, "", "", 8⟩, ⟨ "Tide", 3, 2, false, "", "", 16⟩], true, 3, 24, [.int .i64 0, .int .i64 0, .int .i64 0], true⟩),
  (69, ⟨TypeDesc.struct #[⟨ "Place", 3, 0, false, "", "", 0⟩, ⟨ "Tide", 3, 1, false, "", "", 8⟩, ⟨ "Kind", 3, 2, false, "", "", 16⟩, ⟨ "Found", 4, 3, false, "", "", 24⟩], true, 4, 32, [.int .i64 0, .int .i64 0, .int .i64 0, .ff], false⟩),
  (76, ⟨Go.TypeDesc.slice 43, false, 1, 24, [.nils], false⟩),
  (79, ⟨Go.TypeDesc.slice 9, false, 1, 24, [.nils], false⟩),
  (92, ⟨TypeDesc.struct #[⟨ "Tide", 3, 0, false, "", "", 0⟩, ⟨ "Ballast", 3, 1, false, "", "", 8⟩], true, 2, 16, [.int .i64 0, .int .i64 0], true⟩),
  (93, ⟨Go.TypeDesc.slice 92, false, 1, 24, [.nils], false⟩),
  (104, ⟨TypeDesc.struct #[⟨ "Day", 3, 0, false, "", "", 0⟩, ⟨ "Height", 23, 1, false, "", "", 8⟩, ⟨ "Wind", 23, 3, false, "", "", 24⟩], true, 5, 40, [.int .i64 0, .int .i64 0, .int .i64 0, .int .i64 0, .int .i64 0], false⟩),
  (108, ⟨TypeDesc.struct #[⟨ "TdBeach", 26, 0, true, "", "", 0⟩, ⟨ "ship", 28, 6, false, "", "orlop/tide", 64⟩], true, 9, 88, [.int .i64 0, .int .i64 0, .int .i64 0, .int .i64 0, .int .i64 0, .nils, .int .i64 0, .int .i64 0, .int .i64 0], false⟩),
  (112, ⟨Go.TypeDesc.array 4 3, true, 4, 32, [.int .i64 0, .int .i64 0, .int .i64 0, .int .i64 0], false⟩),
  (113, ⟨Go.TypeDesc.func #[145] #[] false, false, 1, 8, [.nilf], false⟩),
  (114, ⟨Go.TypeDesc.func #[145] #[] false, false, 1, 8, [.nilf], false⟩),
  (116, ⟨Go.TypeDesc.array 4 23, true, 8, 64, [.int .i64 0, .int .i64 0, .int .i64 0, .int .i64 0, .int .i64 0, .int .i64 0, .int .i64 0, .int .i64 0], false⟩),
  (119, ⟨Go.TypeDesc.func #[112] #[3] false, false, 1, 8, [.nilf], false⟩),
  (121, ⟨Go.TypeDesc.int (Go.IntKind.u16), false, 1, 2, [.int .u16 0], false⟩),
  (125, ⟨TypeDesc.struct #[⟨ "WtShore", 32, 0, true, "", "", 0⟩, ⟨ "samples", 56, 3, false, "", "orlop/water", 56⟩, ⟨ "found", 3, 4, false, "", "orlop/water", 80⟩], true, 5, 88, [.nils, .nils, .int .i64 0, .nils, .int .i64 0], false⟩),
  (128, ⟨Go.TypeDesc.func #[3] #[4] false, false, 1, 8, [.nilf], false⟩),
  (139, ⟨TypeDesc.struct #[⟨ "beach", 108, 0, true, "", "orlop/tide", 0⟩, ⟨ "tide", 3, 9, false, "", "orlop/tide", 88⟩], true, 10, 96, [.int .i64 0, .int .i64 0, .int .i64 0, .int .i64 0, .int .i64 0, .nils, .int .i64 0, .int .i64 0, .int .i64 0, .int .i64 0], false⟩),
  (145, ⟨Go.TypeDesc.func #[112] #[4] false, false, 1, 8, [.nilf], false⟩),
  (146, ⟨Go.TypeDesc.func #[163] #[] false, false, 1, 8, [.nilf], false⟩),
  (147, ⟨Go.TypeDesc.func #[163] #[] false, false, 1, 8, [.nilf], false⟩),
  (150, ⟨Go.TypeDesc.int (Go.IntKind.u64), false, 1, 8, [.int .u64 0], false⟩),
  (151, ⟨Go.TypeDesc.map 153 3, false, 1, 8, [.nilm], false⟩),
  (153, ⟨TypeDesc.struct #[⟨ "yard", 3, 0, false, "", "orlop/water", 0⟩, ⟨ "kind", 3, 1, false, "", "orlop/water", 8⟩, ⟨ "tide", 3, 2, false, "", "orlop/water", 16⟩], true, 3, 24, [.int .i64 0, .int .i64 0, .int .i64 0], true⟩),
  (155, ⟨Go.TypeDesc.func #[92, 3] #[23] false, false, 1, 8, [.nilf], false⟩),
  (160, ⟨TypeDesc.struct #[⟨ "Span", 23, 0, true, "", "", 0⟩, ⟨ "lo", 3, 2, false, "", "orlop/tide", 16⟩, ⟨ "hi", 3, 3, false, "", "orlop/tide", 24⟩], true, 4, 32, [.int .i64 0, .int .i64 0, .int .i64 0, .int .i64 0], false⟩),
  (162, ⟨Go.TypeDesc.func #[55] #[9] false, false, 1, 8, [.nilf], false⟩),
  (163, ⟨Go.TypeDesc.func #[151] #[4] false, false, 1, 8, [.nilf], false⟩),
  (164, ⟨Go.TypeDesc.func #[179] #[] false, false, 1, 8, [.nilf], false⟩),
  (165, ⟨Go.TypeDesc.func #[179] #[] false, false, 1, 8, [.nilf], false⟩),
  (168, ⟨Go.TypeDesc.array 3 3, true, 3, 24, [.int .i64 0, .int .i64 0, .int .i64 0], false⟩),
  (172, ⟨Go.TypeDesc.int (Go.IntKind.u64), false, 1, 8, [.int .u64 0], false⟩),
  (174, ⟨Go.TypeDesc.slice 160, false, 1, 24, [.nils], false⟩),
  (176, ⟨Go.TypeDesc.func #[160] #[4] false, false, 1, 8, [.nilf], false⟩),
  (178, ⟨Go.TypeDesc.func #[55] #[4] false, false, 1, 8, [.nilf], false⟩),
  (179, ⟨Go.TypeDesc.func #[168] #[4] false, false, 1, 8, [.nilf], false⟩),
  (181, ⟨Go.TypeDesc.array 32 5, true, 32, 32, [.int .u8 0, .int .u8 0, .int .u8 0, .int .u8 0, .int .u8 0, .int .u8 0, .int .u8 0, .int .u8 0, .int .u8 0, .int .u8 0, .int .u8 0, .int .u8 0, .int .u8 0, .int .u8 0, .int .u8 0, .int .u8 0, .int .u8 0, .int .u8 0, .int .u8 0, .int .u8 0, .int .u8 0, .int .u8 0, .int .u8 0, .int .u8 0, .int .u8 0, .int .u8 0, .int .u8 0, .int .u8 0, .int .u8 0, .int .u8 0, .int .u8 0, .int .u8 0], false⟩),
  (182, ⟨Go.TypeDesc.array 64 5, true, 64, 64, [.int .u8 0, .int .u8 0, .int .u8 0, .int .u8 0, .int .u8 0, .int .u8 0, .int .u8 0, .int .u8 0, .int .u8 0, .int .u8 0, .int .u8 0, .int .u8 0, .int .u8 0, .int .u8 0, .int .u8 0, .int .u8 0, .int .u8 0, .int .u8 0, .int .u8 0, .int .u8 0, .int .u8 0, .int .u8 0, .int .u8 0, .int .u8 0, .int .u8 0, .int .u8 0, .int .u8 0, .int .u8 0, .int .u8 0, .int .u8 0, .int .u8 0, .int .u8 0, .int .u8 0, .int .u8 0, .int .u8 0, .int .u8 0, .int .u8 0, .int .u8 0, .int .u8 0, .int .u8 0, .int .u8 0, .int .u8 0, .int .u8 0, .int .u8 0, .int .u8 0, .int .u8 0, .int .u8 0, .int .u8 0, .int .u8 0, .int .u8 0, .int .u8 0, .int .u8 0, .int .u8 0, .int .u8 0, .int .u8 0, .int .u8 0, .int .u8 0, .int .u8 0, .int .u8 0, .int .u8 0, .int .u8 0, .int .u8 0, .int .u8 0, .int .u8 0], false⟩)
]

def Tryz.tt : Nat → Option TI := lookT Tryz.tl

theorem Tryz.tok : TOK Tryz.prog Tryz.tt :=
  (TOK.cons (TIok.of Tryz.underlying3 rfl (i := Tryz.t3) (by kernel_rfl) rfl rfl rfl rfl rfl (by kernel_rfl) (by intro h; cases h))
  (TOK.cons (TIok.of Tryz.underlying4 rfl (i := Tryz.t4) (by kernel_rfl) rfl rfl rfl rfl rfl (by kernel_rfl) (by intro h; cases h))
  (TOK.cons (TIok.of Tryz.underlying5 rfl (i := Tryz.t5) (by kernel_rfl) rfl rfl rfl rfl rfl (by kernel_rfl) (by intro h; cases h))
  (TOK.cons (TIok.of Tryz.underlying9 rfl (i := Tryz.t9) (by kernel_rfl) rfl rfl rfl rfl rfl (by kernel_rfl) (by intro h; cases h))
  (TOK.cons (TIok.of Tryz.underlying21 rfl (i := Tryz.t21) (by kernel_rfl) rfl rfl rfl rfl rfl (by kernel_rfl) (by intro h; cases h))
  (TOK.cons (TIok.of Tryz.underlying23 rfl (i := Tryz.t23) (by kernel_rfl) rfl rfl rfl rfl rfl (by kernel_rfl) (fun _ => eqs_struct Tryz.underlying23 Tryz.stoodInHeld23 Tryz.eqGuardType23 (by kernel_rfl) rfl))
  (TOK.cons (TIok.of Tryz.underlying24 rfl (i := Tryz.t24) (by kernel_rfl) rfl rfl rfl rfl rfl (by kernel_rfl) (by intro h; cases h))
  (TOK.cons (TIok.of Tryz.underlying26 rfl (i := Tryz.t26) (by kernel_rfl) rfl rfl rfl rfl rfl (by kernel_rfl) (by intro h; cases h))
  (TOK.cons (TIok.of Tryz.underlying28 rfl (i := Tryz.t28) (by kernel_rfl) rfl rfl rfl rfl rfl (by kernel_rfl) (by intro h; cases h))
  (TOK.cons (TIok.of Tryz.underlying29 rfl (i := Tryz.t29) (by kernel_rfl) rfl rfl rfl rfl rfl (by kernel_rfl) (by intro h; cases h))
  (TOK.cons (TIok.of Tryz.underlying30 rfl (i := Tryz.t30) (by kernel_rfl) rfl rfl rfl rfl rfl (by kernel_rfl) (by intro h; cases h))
  (TOK.cons (TIok.of Tryz.underlying32 rfl (i := Tryz.t32) (by kernel_rfl) rfl rfl rfl rfl rfl (by kernel_rfl) (by intro h; cases h))
  (TOK.cons (TIok.of Tryz.underlying33 rfl (i := Tryz.t33) (by kernel_rfl) rfl rfl rfl rfl rfl (by kernel_rfl) (by intro h; cases h))
  (TOK.cons (TIok.of Tryz.underlying35 rfl (i := Tryz.t35) (by kernel_rfl) rfl rfl rfl rfl rfl (by kernel_rfl) (by intro h; cases h))
  (TOK.cons (TIok.of Tryz.underlying36 rfl (i := Tryz.t36) (by kernel_rfl) rfl rfl rfl rfl rfl (by kernel_rfl) (by intro h; cases h))
  (TOK.cons (TIok.of Tryz.underlying38 rfl (i := Tryz.t38) (by kernel_rfl) rfl rfl rfl rfl rfl (by kernel_rfl) (by intro h; cases h))
  (TOK.cons (TIok.of Tryz.underlying40 rfl (i := Tryz.t40) (by kernel_rfl) rfl rfl rfl rfl rfl (by kernel_rfl) (by intro h; cases h))
  (TOK.cons (TIok.of Tryz.underlying42 rfl (i := Tryz.t42) (by kernel_rfl) rfl rfl rfl rfl rfl (by kernel_rfl) (by intro h; cases h))
  (TOK.cons (TIok.of Tryz.underlying43 rfl (i := Tryz.t43) (by kernel_rfl) rfl rfl rfl rfl rfl (by kernel_rfl) (by intro h; cases h))
  (TOK.cons (TIok.of Tryz.underlying50 rfl (i := Tryz.t50) (by kernel_rfl) rfl rfl rfl rfl rfl (by kernel_rfl) (fun _ => eqs_struct Tryz.underlying50 Tryz.stoodInHeld50 Tryz.eqGuardType50 (by kernel_rfl) rfl))
  (TOK.cons (TIok.of Tryz.underlying55 rfl (i := Tryz.t55) (by kernel_rfl) rfl rfl rfl rfl rfl (by kernel_rfl) (by intro h; cases h))
  (TOK.cons (TIok.of Tryz.underlying56 rfl (i := Tryz.t56) (by kernel_rfl) rfl rfl rfl rfl rfl (by kernel_rfl) (by intro h; cases h))
  (TOK.cons (TIok.of Tryz.underlying58 rfl (i := Tryz.t58) (by kernel_rfl) rfl rfl rfl rfl rfl (by kernel_rfl) (by intro h; cases h))
  (TOK.cons (TIok.of Tryz.underlying60 rfl (i := Tryz.t60) (by kernel_rfl) rfl rfl rfl rfl rfl (by kernel_rfl) (by intro h; cases h))
  (TOK.cons (TIok.of Tryz.underlying67 rfl (i := Tryz.t67) (by kernel_rfl) rfl rfl rfl rfl rfl (by kernel_rfl) (fun _ => eqs_struct Tryz.underlying67 Tryz.stoodInHeld67 Tryz.eqGuardType67 (by kernel_rfl) rfl))
  (TOK.cons (TIok.of Tryz.underlying69 rfl (i := Tryz.t69) (by kernel_rfl) rfl rfl rfl rfl rfl (by kernel_rfl) (by intro h; cases h))
  (TOK.cons (TIok.of Tryz.underlying76 rfl (i := Tryz.t76) (by kernel_rfl) rfl rfl rfl rfl rfl (by kernel_rfl) (by intro h; cases h))
  (TOK.cons (TIok.of Tryz.underlying79 rfl (i := Tryz.t79) (by kernel_rfl) rfl rfl rfl rfl rfl (by kernel_rfl) (by intro h; cases h))
  (TOK.cons (TIok.of Tryz.underlying92 rfl (i := Tryz.t92) (by kernel_rfl) rfl rfl rfl rfl rfl (by kernel_rfl) (fun _ => eqs_struct Tryz.underlying92 Tryz.stoodInHeld92 Tryz.eqGuardType92 (by kernel_rfl) rfl))
  (TOK.cons (TIok.of Tryz.underlying93 rfl (i := Tryz.t93) (by kernel_rfl) rfl rfl rfl rfl rfl (by kernel_rfl) (by intro h; cases h))
  (TOK.cons (TIok.of Tryz.underlying104 rfl (i := Tryz.t104) (by kernel_rfl) rfl rfl rfl rfl rfl (by kernel_rfl) (by intro h; cases h))
  (TOK.cons (TIok.of Tryz.underlying108 rfl (i := Tryz.t108) (by kernel_rfl) rfl rfl rfl rfl rfl (by kernel_rfl) (by intro h; cases h))
  (TOK.cons (TIok.of Tryz.underlying112 rfl (i := Tryz.t112) (by kernel_rfl) rfl rfl rfl rfl rfl (by kernel_rfl) (by intro h; cases h))
  (TOK.cons (TIok.of Tryz.underlying113 rfl (i := Tryz.t113) (by kernel_rfl) rfl rfl rfl rfl rfl (by kernel_rfl) (by intro h; cases h))
  (TOK.cons (TIok.of Tryz.underlying114 rfl (i := Tryz.t114) (by kernel_rfl) rfl rfl rfl rfl rfl (by kernel_rfl) (by intro h; cases h))
  (TOK.cons (TIok.of Tryz.underlying116 rfl (i := Tryz.t116) (by kernel_rfl) rfl rfl rfl rfl rfl (by kernel_rfl) (by intro h; cases h))
  (TOK.cons (TIok.of Tryz.underlying119 rfl (i := Tryz.t119) (by kernel_rfl) rfl rfl rfl rfl rfl (by kernel_rfl) (by intro h; cases h))
  (TOK.cons (TIok.of Tryz.underlying121 rfl (i := Tryz.t121) (by kernel_rfl) rfl rfl rfl rfl rfl (by kernel_rfl) (by intro h; cases h))
  (TOK.cons (TIok.of Tryz.underlying125 rfl (i := Tryz.t125) (by kernel_rfl) rfl rfl rfl rfl rfl (by kernel_rfl) (by intro h; cases h))
  (TOK.cons (TIok.of Tryz.underlying128 rfl (i := Tryz.t128) (by kernel_rfl) rfl rfl rfl rfl rfl (by kernel_rfl) (by intro h; cases h))
  (TOK.cons (TIok.of Tryz.underlying139 rfl (i := Tryz.t139) (by kernel_rfl) rfl rfl rfl rfl rfl (by kernel_rfl) (by intro h; cases h))
  (TOK.cons (TIok.of Tryz.underlying145 rfl (i := Tryz.t145) (by kernel_rfl) rfl rfl rfl rfl rfl (by kernel_rfl) (by intro h; cases h))
  (TOK.cons (TIok.of Tryz.underlying146 rfl (i := Tryz.t146) (by kernel_rfl) rfl rfl rfl rfl rfl (by kernel_rfl) (by intro h; cases h))
  (TOK.cons (TIok.of Tryz.underlying147 rfl (i := Tryz.t147) (by kernel_rfl) rfl rfl rfl rfl rfl (by kernel_rfl) (by intro h; cases h))
  (TOK.cons (TIok.of Tryz.underlying150 rfl (i := Tryz.t150) (by kernel_rfl) rfl rfl rfl rfl rfl (by kernel_rfl) (by intro h; cases h))
  (TOK.cons (TIok.of Tryz.underlying151 rfl (i := Tryz.t151) (by kernel_rfl) rfl rfl rfl rfl rfl (by kernel_rfl) (by intro h; cases h))
  (TOK.cons (TIok.of Tryz.underlying153 rfl (i := Tryz.t153) (by kernel_rfl) rfl rfl rfl rfl rfl (by kernel_rfl) (fun _ => eqs_struct Tryz.underlying153 Tryz.stoodInHeld153 Tryz.eqGuardType153 (by kernel_rfl) rfl))
  (TOK.cons (TIok.of Tryz.underlying155 rfl (i := Tryz.t155) (by kernel_rfl) rfl rfl rfl rfl rfl (by kernel_rfl) (by intro h; cases h))
  (TOK.cons (TIok.of Tryz.underlying160 rfl (i := Tryz.t160) (by kernel_rfl) rfl rfl rfl rfl rfl (by kernel_rfl) (by intro h; cases h))
  (TOK.cons (TIok.of Tryz.underlying162 rfl (i := Tryz.t162) (by kernel_rfl) rfl rfl rfl rfl rfl (by kernel_rfl) (by intro h; cases h))
  (TOK.cons (TIok.of Tryz.underlying163 rfl (i := Tryz.t163) (by kernel_rfl) rfl rfl rfl rfl rfl (by kernel_rfl) (by intro h; cases h))
  (TOK.cons (TIok.of Tryz.underlying164 rfl (i := Tryz.t164) (by kernel_rfl) rfl rfl rfl rfl rfl (by kernel_rfl) (by intro h; cases h))
  (TOK.cons (TIok.of Tryz.underlying165 rfl (i := Tryz.t165) (by kernel_rfl) rfl rfl rfl rfl rfl (by kernel_rfl) (by intro h; cases h))
  (TOK.cons (TIok.of Tryz.underlying168 rfl (i := Tryz.t168) (by kernel_rfl) rfl rfl rfl rfl rfl (by kernel_rfl) (by intro h; cases h))
  (TOK.cons (TIok.of Tryz.underlying172 rfl (i := Tryz.t172) (by kernel_rfl) rfl rfl rfl rfl rfl (by kernel_rfl) (by intro h; cases h))
  (TOK.cons (TIok.of Tryz.underlying174 rfl (i := Tryz.t174) (by kernel_rfl) rfl rfl rfl rfl rfl (by kernel_rfl) (by intro h; cases h))
  (TOK.cons (TIok.of Tryz.underlying176 rfl (i := Tryz.t176) (by kernel_rfl) rfl rfl rfl rfl rfl (by kernel_rfl) (by intro h; cases h))
  (TOK.cons (TIok.of Tryz.underlying178 rfl (i := Tryz.t178) (by kernel_rfl) rfl rfl rfl rfl rfl (by kernel_rfl) (by intro h; cases h))
  (TOK.cons (TIok.of Tryz.underlying179 rfl (i := Tryz.t179) (by kernel_rfl) rfl rfl rfl rfl rfl (by kernel_rfl) (by intro h; cases h))
  (TOK.cons (TIok.of Tryz.underlying181 rfl (i := Tryz.t181) (by kernel_rfl) rfl rfl rfl rfl rfl (by kernel_rfl) (by intro h; cases h))
  (TOK.cons (TIok.of Tryz.underlying182 rfl (i := Tryz.t182) (by kernel_rfl) rfl rfl rfl rfl rfl (by kernel_rfl) (by intro h; cases h))
  TOK.nil)))))))))))))))))))))))))))))))))))))))))))))))))))))))))))))

theorem Tryz.mixed : Tryz.prog.follows .mixedOrders = true := by kernel_rfl

end Go.Proofs
namespace Go.Proofs.Top
open Go.V Go.Proofs

/-- The table of the library that the code reads. -/
def tab64 : List Int := [0, 1, 56, 2, 57, 49, 28, 3, 61, 58, 42, 50, 38, 29, 17, 4, 62, 47, 59, 36, 45, 43, 51, 22, 53, 39, 33, 30, 24, 18, 12, 5, 63, 55, 48, 27, 60, 41, 37, 16, 46, 35, 44, 21, 52, 32, 23, 11, 54, 26, 40, 15, 34, 20, 31, 10, 25, 14, 19, 9, 13, 8, 7, 6]
instance glb : Glb := ⟨fun g off => match g with
  | 1 => (match tab64[off]? with | some n => some (.u8, n) | none => none)
  | _ => none⟩

abbrev DN := Den Tryz.prog
abbrev IT := IterDen Tryz.prog
/-- Functions that are handed boxes; that hand back a new box. -/
abbrev shW : Kinds := ⟨fun k => Nat.beq k 111, fun k => match Nat.beq k 97 with | true => true | false => Nat.beq k 90⟩
abbrev ishW : Nat → Bool := fun _ => false

theorem mk {f : FuncId} {fn : Func} (hf : Tryz.prog.funcs[f]? = some fn) (he : Enters Tryz.prog f) (hb : bodyOK fn = true) {args : List D} {d : D} (hn : Nat.ble args.length fn.ntmps = true) (h : Body Tryz.tt (CD Tryz.prog shW) (ItD Tryz.prog ishW) fn args d) : DN f args d :=
  den_of Tryz.tok Tryz.mixed hf he hb hn h

end Go.Proofs.Top

namespace Go.Proofs.Water
open Go.V Go.Proofs Go.Proofs.Top

structure Sp where
  lo : Int
  hi : Int
deriving DecidableEq
def Sp.enc (s : Sp) : List D := [.int .i64 s.lo, .int .i64 s.hi]

structure Yd where
  name : ByteArray
  at' : Int
  kinds : Int
def Yd.enc (y : Yd) : List D := [.str y.name, .int .i64 y.at', .int .i64 y.kinds]

structure Smp where
  place : Int
  tide : Int
  kind : Int
  found : Bool
deriving DecidableEq
def Smp.enc (x : Smp) : List D := [.int .i64 x.place, .int .i64 x.tide, .int .i64 x.kind, .bool x.found]

structure Sh where
  yards : List Yd
  drifts : List Sp
  spread : Int
def Sh.enc (s : Sh) : List D := [.list 3 (s.yards.map Yd.enc), .list 2 (s.drifts.map Sp.enc), .int .i64 s.spread]
/-- A shore that is looked at. -/
def Sh.encS (s : Sh) (l : List Smp) (found : Int) : List D := [.list 3 (s.yards.map Yd.enc), .list 2 (s.drifts.map Sp.enc), .int .i64 s.spread, .list 4 (l.map Smp.enc), .int .i64 found]

def encI (n : Int) : List D := [.int .i64 n]
theorem encI_get {l : List Int} {i : Nat} (h : i < l.length) : (l.map encI)[((i : Int)).toNat]? = some [.int .i64 l[i]] := by simp [h, encI]
theorem encI_len (l : List Int) : (l.map encI).length = l.length := List.length_map ..

end Go.Proofs.Water

namespace Go.Proofs.Water
open Go.V Go.Proofs Go.Proofs.Top

def findI {α : Type} (p : α → Bool) : List α → Int → Int
  | [], _ => -1
  | b :: r, i => match p b with | true => i | false => findI p r (i + 1)

theorem findI_any {α : Type} (p : α → Bool) : ∀ (bs : List α) (i : Int), 0 ≤ i → (decide (findI p bs i ≥ 0)) = bs.any p
  | [], i, _ => rfl
  | b :: r, i, hi => by
    cases hb : p b with
    | true => simp [findI, hb, hi]
    | false =>
      have := findI_any p r (i + 1) (by omega)
      simp only [findI, hb, List.any_cons, Bool.false_or]
      exact this

def outB (lo hi n : Int) : Bool := decide (n < lo) || decide (n > hi)

theorem den89 (lo hi n : Int) : DN 89 [.int .i64 n, .ro [.int .i64 lo], .ro [.int .i64 hi]] (.bool (outB lo hi n)) := by
  refine mk Tryz.func89 Tryz.call89 rfl rfl ?_
  refine ⟨fun h => ?_, fun h => ?_⟩
  · show some (D.bool _) = some (D.bool _)
    simp [outB, h]
  · show some (D.bool _) = some (D.bool _)
    simp [outB, h]

theorem den101 (bs : List Int) (lo hi : Int) (hl : bs.length < 1000) : DN 101 [.list 1 (bs.map encI), .clo (.func 89) [] [.ro [.int .i64 lo], .ro [.int .i64 hi]]] (.int .i64 (findI (outB lo hi) bs 0)) := by
  refine mk Tryz.func101 Tryz.call101 rfl rfl ?_
  refine ⟨[0, 1, 7, 8], 0, [], fun σ => ∃ i : Nat, i ≤ bs.length ∧ findI (outB lo hi) bs 0 = findI (outB lo hi) (bs.drop i) i ∧ σ = ⟨[(0, .list 1 (bs.map encI)), (1, .clo (.func 89) [] [.ro [.int .i64 lo], .ro [.int .i64 hi]]), (7, .int .i64 (bs.map encI).length), (8, .int .i64 i)], [], .non⟩, fun σ => (1000 - slotI 8 σ).toNat, rfl, ⟨rfl, rfl⟩, ⟨0, Nat.zero_le _, rfl, rfl⟩, ?_⟩
  rintro σ ⟨i, hi', hf, rfl⟩
  refine ⟨fun h1 => ?_, fun h1 => ?_⟩
  · have h1 := of_decide_eq_true h1
    rw [List.length_map] at h1
    have hi' : i < bs.length := by omega
    have hrow : (bs.map encI)[((i : Int)).toNat]? = some (encI bs[i]) := by simp [hi']
    have hdrop : bs.drop i = bs[i] :: bs.drop (i + 1) := List.drop_eq_getElem_cons hi'
    refine ⟨by omega, _, hrow, ?_⟩
    refine ⟨_, rfl, _, den89 lo hi bs[i], ?_⟩
    refine ⟨fun h2 => ?_, fun h2 => ?_⟩
    · show some (D.int .i64 (i : Int)) = some (D.int .i64 (findI (outB lo hi) bs 0))
      rw [hf, hdrop, findI, h2]
    · refine ⟨_, wrap64 (by omega) (by omega), ?_⟩
      refine ⟨⟨rfl, rfl⟩, ⟨i + 1, hi', ?_, rfl⟩, ?_⟩
      · rw [hf, hdrop, findI, h2]; rfl
      · show (1000 - ((i : Int) + 1)).toNat < (1000 - (i : Int)).toNat
        omega
  · have h1 := of_decide_eq_false h1
    rw [List.length_map] at h1
    show some (D.int .i64 (-1)) = some (D.int .i64 (findI (outB lo hi) bs 0))
    rw [hf, List.drop_of_length_le (by omega)]
    rfl

theorem den88 (bs : List Int) (lo hi : Int) (hl : bs.length < 1000) : DN 88 [.list 1 (bs.map encI), .clo (.func 89) [] [.ro [.int .i64 lo], .ro [.int .i64 hi]]] (.bool (bs.any (outB lo hi))) := by
  refine mk Tryz.func88 Tryz.call88 rfl rfl ?_
  refine ⟨_, rfl, _, den101 bs lo hi hl, ?_⟩
  show some (D.bool _) = some (D.bool _)
  rw [← findI_any (outB lo hi) bs 0 (Int.le_refl 0)]

theorem den74 (bs : List Int) (lo hi : Int) (hl : bs.length < 1000) : DN 74 [.int .i64 lo, .int .i64 hi, .list 1 (bs.map encI)] (.bool (bs.any (outB lo hi))) := by
  refine mk Tryz.func74 Tryz.call74 rfl rfl ?_
  exact ⟨_, rfl, _, den88 bs lo hi hl, rfl⟩

def inR (n lo hi : Int) : Bool := decide (n ≥ lo) && decide (n ≤ hi)

theorem den24 (n lo hi : Int) : DN 24 [.int .i64 n, .int .i64 lo, .int .i64 hi] (.bool (inR n lo hi)) := by
  refine mk Tryz.func24 Tryz.call24 rfl rfl ?_
  refine ⟨fun h => ?_, fun h => ?_⟩
  · show some (D.bool _) = some (D.bool _)
    simp [inR, h]
  · show some (D.bool _) = some (D.bool _)
    simp [inR, h]

theorem den84 (n lo hi : Int) : DN 84 [.int .i64 n, .int .i64 lo, .int .i64 hi] (.bool (inR n lo hi)) := by
  refine mk Tryz.func84 Tryz.call84 rfl rfl ?_
  refine ⟨fun h => ?_, fun h => ?_⟩
  · show some (D.bool _) = some (D.bool _)
    simp [inR, h]
  · show some (D.bool _) = some (D.bool _)
    simp [inR, h]

def outS (lo hi : Int) (b : Sp) : Bool := !(inR b.lo lo hi) || !(inR b.hi lo hi)
def badS (b : Sp) : Bool := decide (b.lo > b.hi)
def spreadE (lo hi : Int) (bs : List Sp) : Int := match bs.any (outS lo hi) with | true => 7 | false => match bs.any badS with | true => 2 | false => 0
/-- The same from the middle on. -/
def spreadA (lo hi : Int) (acc : Bool) (bs : List Sp) : Int := match bs.any (outS lo hi) with | true => 7 | false => match acc || bs.any badS with | true => 2 | false => 0

theorem spreadA_out {lo hi : Int} {acc : Bool} {b : Sp} {r : List Sp} (h : outS lo hi b = true) : spreadA lo hi acc (b :: r) = 7 := by simp [spreadA, h]
theorem spreadA_in {lo hi : Int} {acc : Bool} {b : Sp} {r : List Sp} (h : outS lo hi b = false) : spreadA lo hi acc (b :: r) = spreadA lo hi (acc || badS b) r := by
  simp [spreadA, h, Bool.or_assoc]

theorem den64 (bs : List Sp) (lo hi : Int) (hl : bs.length < 1000) : DN 64 [.list 2 (bs.map Sp.enc), .int .i64 lo, .int .i64 hi] (.int .i64 (spreadE lo hi bs)) := by
  refine mk Tryz.func64 Tryz.call64 rfl rfl ?_
  refine ⟨[0, 1, 2, 7, 8], 0, [], fun σ => ∃ (i : Nat) (acc : Bool) (v : D), i ≤ bs.length ∧ spreadE lo hi bs = spreadA lo hi acc (bs.drop i) ∧ (v = .bool acc ∨ (v = .ff ∧ acc = false) ∨ (v = .tt ∧ acc = true)) ∧
      σ = ⟨[(0, .list 2 (bs.map Sp.enc)), (1, .int .i64 lo), (2, .int .i64 hi), (7, v), (8, .int .i64 i)], [], .non⟩, fun σ => (1000 - slotI 8 σ).toNat, rfl, ⟨rfl, rfl⟩, ⟨0, false, .ff, Nat.zero_le _, rfl, .inr (.inl ⟨rfl, rfl⟩), rfl⟩, ?_⟩
  rintro σ ⟨i, acc, v, hi', hf, hv, rfl⟩
  refine ⟨fun h1 => ?_, fun h1 => ?_⟩
  · have h1 := of_decide_eq_true h1
    rw [List.length_map] at h1
    have hi' : i < bs.length := by omega
    have hrow : (bs.map Sp.enc)[((i : Int)).toNat]? = some (bs[i].enc) := by simp [hi']
    have hdrop : bs.drop i = bs[i] :: bs.drop (i + 1) := List.drop_eq_getElem_cons hi'
    rw [hdrop] at hf
    refine ⟨by omega, _, hrow, ?_⟩
    refine ⟨_, rfl, _, den84 _ _ _, ?_⟩
    refine ⟨fun h2 => ?_, fun h2 => ?_⟩
    · have : outS lo hi bs[i] = true := by unfold outS; rw [h2]; rfl
      show some (D.int .i64 7) = some (D.int .i64 (spreadE lo hi bs))
      rw [hf, spreadA_out this]
    · refine ⟨by omega, _, hrow, ?_⟩
      refine ⟨_, rfl, _, den84 _ _ _, ?_⟩
      refine ⟨fun h3 => ?_, fun h3 => ?_⟩
      · have : outS lo hi bs[i] = true := by unfold outS; rw [h2, h3]; rfl
        show some (D.int .i64 7) = some (D.int .i64 (spreadE lo hi bs))
        rw [hf, spreadA_out this]
      · have hin : outS lo hi bs[i] = false := by unfold outS; rw [h2, h3]; rfl
        rw [spreadA_in hin] at hf
        rcases hv with rfl | ⟨rfl, rfl⟩ | ⟨rfl, rfl⟩
        · refine Or.inl ⟨rfl, ?_⟩
          refine ⟨fun h4 => ?_, fun h4 => ?_⟩
          · refine ⟨_, wrap64 (by omega) (by omega), ?_⟩
            exact ⟨⟨rfl, rfl⟩, ⟨i + 1, _, .tt, hi', hf, .inr (.inr ⟨rfl, by rw [h4]; rfl⟩), rfl⟩, by show (1000 - ((i : Int) + 1)).toNat < (1000 - (i : Int)).toNat; omega⟩
          · refine ⟨by omega, _, hrow, ?_⟩
            refine ⟨by omega, _, hrow, ?_⟩
            refine ⟨_, wrap64 (by omega) (by omega), ?_⟩
            exact ⟨⟨rfl, rfl⟩, ⟨i + 1, _, _, hi', hf, .inl (by rw [h4]; rfl), rfl⟩, by show (1000 - ((i : Int) + 1)).toNat < (1000 - (i : Int)).toNat; omega⟩
        · refine Or.inl ⟨rfl, ?_⟩
          refine ⟨by omega, _, hrow, ?_⟩
          refine ⟨by omega, _, hrow, ?_⟩
          refine ⟨_, wrap64 (by omega) (by omega), ?_⟩
          exact ⟨⟨rfl, rfl⟩, ⟨i + 1, _, _, hi', hf, .inl rfl, rfl⟩, by show (1000 - ((i : Int) + 1)).toNat < (1000 - (i : Int)).toNat; omega⟩
        · refine Or.inl ⟨rfl, ?_⟩
          refine ⟨_, wrap64 (by omega) (by omega), ?_⟩
          exact ⟨⟨rfl, rfl⟩, ⟨i + 1, _, .tt, hi', hf, .inr (.inr ⟨rfl, rfl⟩), rfl⟩, by show (1000 - ((i : Int) + 1)).toNat < (1000 - (i : Int)).toNat; omega⟩
  · have h1 := of_decide_eq_false h1
    rw [List.length_map] at h1
    have hn : bs.drop i = [] := List.drop_of_length_le (by omega)
    rw [hn] at hf
    rcases hv with rfl | ⟨rfl, rfl⟩ | ⟨rfl, rfl⟩
    · refine ⟨fun h4 => ?_, fun h4 => ?_⟩
      · show some (D.int .i64 2) = some (D.int .i64 (spreadE lo hi bs))
        rw [hf, h4]; rfl
      · show some (D.int .i64 0) = some (D.int .i64 (spreadE lo hi bs))
        rw [hf, h4]; rfl
    · show some (D.int .i64 0) = some (D.int .i64 (spreadE lo hi bs))
      rw [hf]; rfl
    · show some (D.int .i64 2) = some (D.int .i64 (spreadE lo hi bs))
      rw [hf]; rfl

theorem den20 (b : Sp) (lo hi : Int) : DN 20 [.agg b.enc, .int .i64 lo, .int .i64 hi] (.int .i64 (spreadE lo hi [b])) := by
  refine mk Tryz.func20 Tryz.call20 rfl rfl ?_
  exact ⟨_, rfl, _, den64 [b] lo hi (by simp), rfl⟩

end Go.Proofs.Water

namespace Go.Proofs.Water
open Go.V Go.Proofs Go.Proofs.Top

def letterB (c : Int) : Bool := decide (c ≥ 97) && decide (c ≤ 122)
def digitB (c : Int) : Bool := decide (c ≥ 48) && decide (c ≤ 57)
def nameC (i : Nat) (c : Int) : Bool := letterB c || (digitB c && !(i == 0))
def nameFrom (s : ByteArray) : Nat → Nat → Bool
  | 0, _ => true
  | f + 1, i => match s[i]? with | some c => nameC i c.toNat && nameFrom s f (i + 1) | none => true
def nameB (s : ByteArray) : Bool := nameFrom s s.size 0 && (decide (1 ≤ s.size) && decide (s.size ≤ 16))

/-- What the rune says of the byte. -/
theorem rune_byte (s : ByteArray) (pos c wd : Nat) (h : pos < s.size) (hd : Utf8.decode s pos = (c, wd)) : ∃ b : UInt8, s[pos]? = some b ∧ ((c = b.toNat ∧ wd = 1) ∨ (128 ≤ c ∧ 128 ≤ b.toNat)) := by
  refine ⟨s[pos]'h, by simp [h], ?_⟩
  by_cases ha : (s[pos]'h).toNat < 128
  · rw [decode_ascii s pos h ha] at hd
    cases hd
    exact .inl ⟨rfl, rfl⟩
  · have := decode_high s pos h (by omega)
    rw [hd] at this
    exact .inr ⟨this.1, by omega⟩

theorem nameC_high (i : Nat) (c : Int) (h : 128 ≤ c) : nameC i c = false := by
  have h1 : ¬ c ≤ 122 := by omega
  have h2 : ¬ c ≤ 57 := by omega
  simp [nameC, letterB, digitB, h1, h2]

theorem str_empty (s : ByteArray) : (s.toList == (⟨#[]⟩ : ByteArray).toList) = decide (s.size = 0) := by
  have h1 : (⟨#[]⟩ : ByteArray).toList = [] := by rw [ByteArray.toList_eq]
  have h2 : s.toList = s.data.toList := ByteArray.toList_eq s
  rw [h1, h2]
  obtain ⟨⟨l⟩⟩ := s
  cases l with
  | nil => rfl
  | cons a l => simp [ByteArray.size]

theorem den107 (s : ByteArray) : DN 107 [.str s] (.bool (nameB s)) := by
  refine mk Tryz.func107 Tryz.call107 rfl rfl ?_
  refine ⟨[0, 8], 1, [], fun σ => ∃ (pos f : Nat), pos ≤ s.size ∧ s.size = pos + f ∧ nameFrom s s.size 0 = nameFrom s f pos ∧ σ = ⟨[(0, .str s), (8, .sit 0)], [.siter false s pos], .non⟩,
    fun σ => s.size - (match σ.boxes with | [.siter _ _ p] => p | _ => 0), rfl, ⟨rfl, rfl⟩, ⟨0, s.size, Nat.zero_le _, (Nat.zero_add _).symm, rfl, rfl⟩, ?_⟩
  rintro σ ⟨pos, f, hp, hf, hn, rfl⟩
  refine ⟨fun h => ?_, fun h => ?_⟩
  · obtain ⟨c, wd, hd⟩ : ∃ c wd, Utf8.decode s pos = (c, wd) := ⟨_, _, rfl⟩
    obtain ⟨b, hb, hcb⟩ := rune_byte s pos c wd h hd
    refine ⟨c, wd, hd, ?_⟩
    obtain ⟨g, rfl⟩ : ∃ g, f = g + 1 := ⟨f - 1, by omega⟩
    have hn' : nameFrom s s.size 0 = (nameC pos b.toNat && nameFrom s g (pos + 1)) := by rw [hn, nameFrom, hb]
    have bad : nameC pos c = false → nameB s = false := fun hc => by
      have : nameC pos b.toNat = false := by
        rcases hcb with ⟨h1, _⟩ | ⟨_, h1⟩
        · rw [← h1]; exact hc
        · exact nameC_high _ _ (by omega)
      unfold nameB
      rw [hn', this]; rfl
    have good : nameC pos c = true → (nameFrom s s.size 0 = nameFrom s g (pos + 1)) ∧ wd = 1 := fun hc => by
      rcases hcb with ⟨h1, h2⟩ | ⟨h1, _⟩
      · rw [hn', ← h1, hc]; exact ⟨rfl, h2⟩
      · rw [nameC_high _ _ (by omega)] at hc; cases hc
    have go : (nameFrom s s.size 0 = nameFrom s g (pos + 1)) ∧ wd = 1 → (∃ (pos' f : Nat), pos' ≤ s.size ∧ s.size = pos' + f ∧ nameFrom s s.size 0 = nameFrom s f pos' ∧ (⟨[(0, .str s), (8, .sit 0)], [.siter false s (pos + wd)], .non⟩ : St) = ⟨[(0, .str s), (8, .sit 0)], [.siter false s pos'], .non⟩) ∧ s.size - (pos + wd) < s.size - pos := by
      rintro ⟨h1, rfl⟩
      exact ⟨⟨pos + 1, g, by omega, by omega, h1, rfl⟩, by omega⟩
    have hres : nameB s = false → some (D.bool false) = some (D.bool (nameB s)) := fun h => by rw [h]
    have e0 : (((pos : Int)) == 0) = (pos == 0) := by
      cases pos <;> simp <;> omega
    have neg : ∀ {x : Bool}, (!x) = true → x = false := fun {x} h => by cases x <;> trivial
    have neg' : ∀ {x : Bool}, (!x) = false → x = true := fun {x} h => by cases x <;> trivial
    have cases' : ∀ x1 x2 x3 x4 x5 : Bool, decide ((c : Int) ≥ 97) = x1 → decide ((c : Int) ≤ 122) = x2 → decide ((c : Int) ≥ 48) = x3 → decide ((c : Int) ≤ 57) = x4 → (((pos : Int)) == 0) = x5 → nameC pos c = ((x1 && x2) || ((x3 && x4) && !x5)) := by
      rintro _ _ _ _ _ rfl rfl rfl rfl rfl
      rw [e0]
      rfl
    refine ⟨fun h1 => ?_, fun h1 => ?_⟩
    · refine ⟨fun h2 => ?_, fun h2 => ?_⟩
      · refine ⟨fun h3 => ?_, fun h3 => ?_⟩
        · refine ⟨fun h4 => ?_, fun h4 => ?_⟩
          · exact hres (bad (by rw [cases' _ _ _ _ _ h1 (neg h3) h2 (neg h4) rfl]; rfl))
          · refine ⟨fun h5 => ?_, fun h5 => ?_⟩
            · exact hres (bad (by rw [cases' _ _ _ _ _ h1 (neg h3) h2 (neg' h4) h5]; rfl))
            · exact ⟨⟨rfl, rfl⟩, go (good (by rw [cases' _ _ _ _ _ h1 (neg h3) h2 (neg' h4) h5]; rfl))⟩
        · exact ⟨⟨rfl, rfl⟩, go (good (by rw [cases' _ _ _ _ _ h1 (neg' h3) h2 rfl rfl]; rfl))⟩
      · have h1 := of_decide_eq_true h1
        have h2 := of_decide_eq_false h2
        omega
    · refine ⟨fun h2 => ?_, fun h2 => ?_⟩
      · refine ⟨fun h4 => ?_, fun h4 => ?_⟩
        · exact hres (bad (by rw [cases' _ _ _ _ _ h1 rfl h2 (neg h4) rfl]; rfl))
        · refine ⟨fun h5 => ?_, fun h5 => ?_⟩
          · exact hres (bad (by rw [cases' _ _ _ _ _ h1 rfl h2 (neg' h4) h5]; rfl))
          · exact ⟨⟨rfl, rfl⟩, go (good (by rw [cases' _ _ _ _ _ h1 rfl h2 (neg' h4) h5]; rfl))⟩
      · exact hres (bad (by rw [cases' _ _ _ _ _ h1 rfl h2 rfl rfl]; rfl))
  · have hf0 : f = 0 := by omega
    subst hf0
    have hn : nameFrom s s.size 0 = true := hn
    have e1 : (s.toList == (⟨#[]⟩ : ByteArray).toList) = decide (s.size = 0) := str_empty s
    refine ⟨fun h1 => ?_, fun h1 => ?_⟩
    · show some (D.bool (decide ((s.size : Int) ≤ 16))) = some (D.bool _)
      have h1 : (!(s.toList == (⟨#[]⟩ : ByteArray).toList)) = true := h1
      rw [e1] at h1
      have h2 : decide (1 ≤ s.size) = true := by
        apply decide_eq_true
        have : ¬ s.size = 0 := by simpa using h1
        omega
      have h3 : decide ((s.size : Int) ≤ 16) = decide (s.size ≤ 16) := by
        apply decide_eq_decide.2; omega
      rw [nameB, hn, h2, h3]; rfl
    · show some (D.bool false) = some (D.bool _)
      have h1 : (!(s.toList == (⟨#[]⟩ : ByteArray).toList)) = false := h1
      rw [e1] at h1
      have h2 : decide (1 ≤ s.size) = false := by
        apply decide_eq_false
        have : s.size = 0 := by simpa using h1
        omega
      rw [nameB, hn, h2]; rfl

end Go.Proofs.Water

namespace Go.Proofs.Water
open Go.V Go.Proofs Go.Proofs.Top

def sameS (a b : ByteArray) : Bool := a.toList == b.toList
def nameF : D := .clo (.func 94) [] []

theorem den94 (x : Yd) : DN 94 [.agg x.enc] (.str x.name) := mk Tryz.func94 Tryz.call94 rfl rfl rfl

theorem den109 (x : Yd) (s : ByteArray) : DN 109 [.agg x.enc, .ro [nameF], .ro [.str s]] (.bool (sameS x.name s)) := by
  refine mk Tryz.func109 Tryz.call109 rfl rfl ?_
  refine Or.inl ⟨by kernel_rfl, ?_⟩
  exact ⟨_, rfl, _, den94 x, rfl⟩

theorem den115 (bs : List Yd) (s : ByteArray) (hl : bs.length < 1000) : DN 115 [.list 3 (bs.map Yd.enc), .clo (.func 109) [] [.ro [nameF], .ro [.str s]]] (.int .i64 (findI (fun x => sameS x.name s) bs 0)) := by
  refine mk Tryz.func115 Tryz.call115 rfl rfl ?_
  refine ⟨[0, 1, 7, 8], 0, [], fun σ => ∃ i : Nat, i ≤ bs.length ∧ findI (fun x : Yd => sameS x.name s) bs 0 = findI (fun x : Yd => sameS x.name s) (bs.drop i) i ∧ σ = ⟨[(0, .list 3 (bs.map Yd.enc)), (1, .clo (.func 109) [] [.ro [nameF], .ro [.str s]]), (7, .int .i64 (bs.map Yd.enc).length), (8, .int .i64 i)], [], .non⟩, fun σ => (1000 - slotI 8 σ).toNat, rfl, ⟨rfl, rfl⟩, ⟨0, Nat.zero_le _, rfl, rfl⟩, ?_⟩
  rintro σ ⟨i, hi, hf, rfl⟩
  refine ⟨fun h1 => ?_, fun h1 => ?_⟩
  · have h1 := of_decide_eq_true h1
    rw [List.length_map] at h1
    have hi' : i < bs.length := by omega
    have hrow : (bs.map Yd.enc)[((i : Int)).toNat]? = some (bs[i].enc) := by simp [hi']
    have hdrop : bs.drop i = bs[i] :: bs.drop (i + 1) := List.drop_eq_getElem_cons hi'
    refine ⟨by omega, _, hrow, ?_⟩
    refine ⟨_, rfl, _, den109 bs[i] s, ?_⟩
    refine ⟨fun h2 => ?_, fun h2 => ?_⟩
    · show some (D.int .i64 (i : Int)) = some (D.int .i64 (findI (fun x : Yd => sameS x.name s) bs 0))
      rw [hf, hdrop, findI, h2]
    · refine ⟨_, wrap64 (by omega) (by omega), ?_⟩
      refine ⟨⟨rfl, rfl⟩, ⟨i + 1, hi', ?_, rfl⟩, ?_⟩
      · rw [hf, hdrop, findI, h2]; rfl
      · show (1000 - ((i : Int) + 1)).toNat < (1000 - (i : Int)).toNat
        omega
  · have h1 := of_decide_eq_false h1
    rw [List.length_map] at h1
    show some (D.int .i64 (-1)) = some (D.int .i64 (findI (fun x : Yd => sameS x.name s) bs 0))
    rw [hf, List.drop_of_length_le (by omega)]
    rfl

theorem den108 (bs : List Yd) (s : ByteArray) (hl : bs.length < 1000) : DN 108 [.list 3 (bs.map Yd.enc), .clo (.func 109) [] [.ro [nameF], .ro [.str s]]] (.bool (bs.any fun x => sameS x.name s)) := by
  refine mk Tryz.func108 Tryz.call108 rfl rfl ?_
  refine ⟨_, rfl, _, den115 bs s hl, ?_⟩
  show some (D.bool _) = some (D.bool _)
  rw [← findI_any (fun x : Yd => sameS x.name s) bs 0 (Int.le_refl 0)]

/-- The error of a name behind others. -/
def freshE (ts : List Yd) (s : ByteArray) : Int := match nameB s with | false => 6 | true => match ts.any fun x => sameS x.name s with | true => 5 | false => 0

theorem den93 (ts : List Yd) (x : Yd) (hl : ts.length < 999) : DN 93 [.list 3 ((ts ++ [x]).map Yd.enc), nameF] (.int .i64 (freshE ts x.name)) := by
  refine mk Tryz.func93 Tryz.call93 rfl rfl ?_
  have hlen : (((ts ++ [x]).map Yd.enc).length : Int) = ts.length + 1 := by simp
  refine ⟨(ts.length : Int), ?_, ?_⟩
  · show IntKind.i64.wrap ((((ts ++ [x]).map Yd.enc).length : Int) - 1) = _
    rw [hlen, wrap64 (by omega) (by omega)]; omega
  refine Or.inl ⟨by kernel_rfl, ?_⟩
  refine ⟨by omega, x.enc, by simp, ?_⟩
  refine ⟨_, rfl, _, den94 x, ?_⟩
  refine ⟨_, rfl, _, den107 x.name, ?_⟩
  refine ⟨fun h1 => ?_, fun h1 => ?_⟩
  · have h1 : nameB x.name = false := by simpa using h1
    show some (D.int .i64 6) = some (D.int .i64 (freshE ts x.name))
    rw [freshE, h1]
  · have h1 : nameB x.name = true := by simpa using h1
    refine ⟨⟨by omega, by rw [hlen]; omega⟩, ts.map Yd.enc, by simp, ?_⟩
    refine ⟨_, rfl, _, den108 ts x.name (by omega), ?_⟩
    refine ⟨fun h2 => ?_, fun h2 => ?_⟩
    · show some (D.int .i64 5) = some (D.int .i64 (freshE ts x.name))
      rw [freshE, h1, h2]
    · show some (D.int .i64 0) = some (D.int .i64 (freshE ts x.name))
      rw [freshE, h1, h2]

end Go.Proofs.Water

namespace Go.Proofs.Water
open Go.V Go.Proofs Go.Proofs.Top

theorem byte_lt (b : UInt8) : (b.toNat : Int) < 256 := by
  have := b.toNat_lt
  omega

theorem den65 (s : ByteArray) : DN 65 [.str s] (.bool (nameB s)) := by
  refine mk Tryz.func65 Tryz.call65 rfl rfl ?_
  have hbad : nameB s = false → some (D.bool false) = some (D.bool (nameB s)) := fun h => by rw [h]
  refine ⟨_, rfl, _, den84 s.size 1 16, ?_⟩
  refine ⟨fun h1 => ?_, fun h1 => ?_⟩
  · have h1 : (!(inR s.size 1 16)) = true := h1
    refine hbad ?_
    have : (decide (1 ≤ s.size) && decide (s.size ≤ 16)) = false := by
      simp [inR] at h1 ⊢; omega
    rw [nameB, this, Bool.and_false]
  have h1 : (!(inR s.size 1 16)) = false := h1
  have hsz : 1 ≤ s.size ∧ s.size ≤ 16 := by simp [inR] at h1; omega
  obtain ⟨n, hn⟩ : ∃ n, s.size = n + 1 := ⟨s.size - 1, by omega⟩
  have hsz2 : (decide (1 ≤ s.size) && decide (s.size ≤ 16)) = true := by simp; omega
  have hname : nameB s = nameFrom s s.size 0 := by rw [nameB, hsz2, Bool.and_true]
  have hb : s[0]? = some (s[0]'(by omega)) := by simp
  obtain ⟨b, hb'⟩ : ∃ b, s[0]'(by omega) = b := ⟨_, rfl⟩
  rw [hb'] at hb
  have hfst : nameFrom s s.size 0 = (nameC 0 b.toNat && nameFrom s n 1) := by rw [hn, nameFrom, hb]
  have hC0 : nameC 0 b.toNat = letterB b.toNat := by simp [nameC]
  refine ⟨by decide, b, hb, ?_⟩
  refine ⟨fun h2 => ?_, fun h2 => ?_⟩
  · have h2 : (b.toNat : Int) < 97 := of_decide_eq_true h2
    refine hbad ?_
    have : letterB b.toNat = false := by simp [letterB]; omega
    rw [hname, hfst, hC0, this]; rfl
  have h2 : ¬ (b.toNat : Int) < 97 := of_decide_eq_false h2
  refine ⟨by decide, b, hb, ?_⟩
  refine ⟨fun h3 => ?_, fun h3 => ?_⟩
  · have h3 : (b.toNat : Int) > 122 := of_decide_eq_true h3
    refine hbad ?_
    have : letterB b.toNat = false := by simp [letterB]; omega
    rw [hname, hfst, hC0, this]; rfl
  have h3 : ¬ (b.toNat : Int) > 122 := of_decide_eq_false h3
  have hl0 : letterB b.toNat = true := by simp [letterB]; omega
  have hst : nameB s = nameFrom s n 1 := by rw [hname, hfst, hC0, hl0]; rfl
  refine ⟨[0, 3], 0, [], fun σ => ∃ i f : Nat, 1 ≤ i ∧ i + f = s.size ∧ nameB s = nameFrom s f i ∧ σ = ⟨[(0, .str s), (3, .int .i64 i)], [], .non⟩, fun σ => (1000 - slotI 3 σ).toNat, rfl, ⟨rfl, rfl⟩, ⟨1, n, Nat.le_refl _, by omega, hst, rfl⟩, ?_⟩
  rintro σ ⟨i, f, hi, hif, hnm, rfl⟩
  refine ⟨fun h4 => ?_, fun h4 => ?_⟩
  · have h4 : (i : Int) < s.size := of_decide_eq_true h4
    have hi' : i < s.size := by omega
    obtain ⟨f, rfl⟩ : ∃ f', f = f' + 1 := ⟨f - 1, by omega⟩
    obtain ⟨c, hc⟩ : ∃ c, s[i]'hi' = c := ⟨_, rfl⟩
    have hg : s[((i : Int)).toNat]? = some c := by rw [Int.toNat_natCast, ← hc]; simp [hi']
    have hgi : s[i]? = some c := hg
    rw [nameFrom, hgi] at hnm
    have hnm : nameB s = (nameC i c.toNat && nameFrom s f (i + 1)) := hnm
    have hCi : nameC i c.toNat = (letterB c.toNat || digitB c.toNat) := by
      have : (i == 0) = false := by simp; omega
      simp [nameC, this]
    have bad : nameC i c.toNat = false → some (D.bool false) = some (D.bool (nameB s)) := fun h => hbad (by rw [hnm, h]; rfl)
    have good : nameC i c.toNat = true → (∃ i' f' : Nat, 1 ≤ i' ∧ i' + f' = s.size ∧ nameB s = nameFrom s f' i' ∧ (⟨[(0, .str s), (3, .int .i64 ((i : Int) + 1))], [], .non⟩ : St) = ⟨[(0, .str s), (3, .int .i64 i')], [], .non⟩) ∧ (1000 - ((i : Int) + 1)).toNat < (1000 - (i : Int)).toNat := fun h =>
      ⟨⟨i + 1, f, by omega, by omega, by rw [hnm, h]; rfl, rfl⟩, by omega⟩
    have neg : ∀ {x : Bool}, (!x) = true → x = false := fun {x} h => by cases x <;> trivial
    have neg' : ∀ {x : Bool}, (!x) = false → x = true := fun {x} h => by cases x <;> trivial
    have cs : ∀ x1 x2 x3 x4 : Bool, decide ((c.toNat : Int) ≥ 97) = x1 → decide ((c.toNat : Int) ≤ 122) = x2 → decide ((c.toNat : Int) ≥ 48) = x3 → decide ((c.toNat : Int) ≤ 57) = x4 → nameC i c.toNat = ((x1 && x2) || (x3 && x4)) := by
      rintro _ _ _ _ rfl rfl rfl rfl
      rw [hCi]; rfl
    refine Or.inl ⟨by kernel_rfl, ?_⟩
    refine ⟨by omega, c, hg, ?_⟩
    refine ⟨fun g1 => ?_, fun g1 => ?_⟩
    · refine ⟨by omega, c, hg, ?_⟩
      refine ⟨by omega, c, hg, ?_⟩
      refine ⟨fun g3 => ?_, fun g3 => ?_⟩
      · refine ⟨by omega, c, hg, ?_⟩
        refine ⟨fun g2 => ?_, fun g2 => ?_⟩
        · refine ⟨fun g4 => ?_, fun g4 => ?_⟩
          · exact bad (by rw [cs _ _ _ _ g1 (neg g2) g3 (neg g4)]; rfl)
          · refine ⟨_, wrap64 (by omega) (by omega), ?_⟩
            exact ⟨⟨rfl, rfl⟩, good (by rw [cs _ _ _ _ g1 (neg g2) g3 (neg' g4)]; rfl)⟩
        · refine ⟨_, wrap64 (by omega) (by omega), ?_⟩
          exact ⟨⟨rfl, rfl⟩, good (by rw [cs _ _ _ _ g1 (neg' g2) g3 rfl]; rfl)⟩
      · have g1 := of_decide_eq_true g1
        have g3 := of_decide_eq_false g3
        omega
    · refine ⟨by omega, c, hg, ?_⟩
      refine ⟨fun g3 => ?_, fun g3 => ?_⟩
      · refine ⟨by omega, c, hg, ?_⟩
        refine ⟨fun g4 => ?_, fun g4 => ?_⟩
        · exact bad (by rw [cs _ _ _ _ g1 rfl g3 (neg g4)]; rfl)
        · refine ⟨_, wrap64 (by omega) (by omega), ?_⟩
          exact ⟨⟨rfl, rfl⟩, good (by rw [cs _ _ _ _ g1 rfl g3 (neg' g4)]; rfl)⟩
      · exact bad (by rw [cs _ _ _ _ g1 rfl g3 rfl]; rfl)
  · have h4 : ¬ (i : Int) < s.size := of_decide_eq_false h4
    have hf0 : f = 0 := by omega
    subst hf0
    show some (D.bool true) = some (D.bool (nameB s))
    rw [hnm]; rfl

def encS (s : ByteArray) : List D := [.str s]
theorem den66 (l : List ByteArray) (s : ByteArray) (hl : l.length < 1000) : DN 66 [.list 1 (l.map encS), .str s] (.int .i64 (findI (fun x => sameS x s) l 0)) := by
  refine mk Tryz.func66 Tryz.call66 rfl rfl ?_
  refine ⟨[0, 1, 5], 0, [], fun σ => ∃ i : Nat, i ≤ l.length ∧ findI (fun x => sameS x s) l 0 = findI (fun x => sameS x s) (l.drop i) i ∧ σ = ⟨[(0, .list 1 (l.map encS)), (1, .str s), (5, .int .i64 i)], [], .non⟩, fun σ => (1000 - slotI 5 σ).toNat, rfl, ⟨rfl, rfl⟩, ⟨0, Nat.zero_le _, rfl, rfl⟩, ?_⟩
  rintro σ ⟨i, hi, hf, rfl⟩
  refine ⟨fun h1 => ?_, fun h1 => ?_⟩
  · have h1 := of_decide_eq_true h1
    rw [List.length_map] at h1
    have hi' : i < l.length := by omega
    have hrow : (l.map encS)[((i : Int)).toNat]? = some (encS l[i]) := by simp [hi']
    have hdrop : l.drop i = l[i] :: l.drop (i + 1) := List.drop_eq_getElem_cons hi'
    refine ⟨by omega, _, hrow, ?_⟩
    refine ⟨fun h2 => ?_, fun h2 => ?_⟩
    · have h2 : sameS l[i] s = true := h2
      show some (D.int .i64 (i : Int)) = some (D.int .i64 (findI (fun x => sameS x s) l 0))
      rw [hf, hdrop, findI, h2]
    · have h2 : sameS l[i] s = false := h2
      refine ⟨_, wrap64 (by omega) (by omega), ?_⟩
      refine ⟨⟨rfl, rfl⟩, ⟨i + 1, hi', ?_, rfl⟩, ?_⟩
      · rw [hf, hdrop, findI, h2]; rfl
      · show (1000 - ((i : Int) + 1)).toNat < (1000 - (i : Int)).toNat
        omega
  · have h1 := of_decide_eq_false h1
    rw [List.length_map] at h1
    show some (D.int .i64 (-1)) = some (D.int .i64 (findI (fun x => sameS x s) l 0))
    rw [hf, List.drop_of_length_le (by omega)]
    rfl

theorem den25 (ts : List Yd) (s : ByteArray) (hl : ts.length < 1000) : DN 25 [.str s, .list 1 ((ts.map (·.name)).map encS)] (.int .i64 (freshE ts s)) := by
  refine mk Tryz.func25 Tryz.call25 rfl rfl ?_
  have hany := findI_any (fun x => sameS x s) (ts.map (·.name)) 0 (Int.le_refl 0)
  rw [List.any_map] at hany
  refine ⟨_, rfl, _, den65 s, ?_⟩
  refine ⟨fun h1 => ?_, fun h1 => ?_⟩
  · have h1 : nameB s = false := by simpa using h1
    show some (D.int .i64 6) = some (D.int .i64 (freshE ts s))
    rw [freshE, h1]
  have h1 : nameB s = true := by simpa using h1
  refine ⟨_, rfl, _, den66 (ts.map (·.name)) s (by simpa using hl), ?_⟩
  refine ⟨fun h2 => ?_, fun h2 => ?_⟩
  · have h2 : (ts.any fun x => sameS x.name s) = true := hany.symm.trans h2
    show some (D.int .i64 5) = some (D.int .i64 (freshE ts s))
    rw [freshE, h1, h2]
  · have h2 : (ts.any fun x => sameS x.name s) = false := hany.symm.trans h2
    show some (D.int .i64 0) = some (D.int .i64 (freshE ts s))
    rw [freshE, h1, h2]

end Go.Proofs.Water

namespace Go.Proofs.Water
open Go.V Go.Proofs Go.Proofs.Top

/-! ### Sets -/

theorem bv_nat {a : Nat} (ha : a < 2 ^ 62) : (BitVec.ofInt 64 (a : Int)).toNat = a := by
  rw [BitVec.ofInt_natCast, BitVec.toNat_ofNat]
  exact Nat.mod_eq_of_lt (by omega)
theorem bits_and {a b : Nat} (ha : a < 2 ^ 62) (hb : b < 2 ^ 62) : bits .and .i64 a b = ((a &&& b : Nat) : Int) := by
  have h1 : a &&& b ≤ a := Nat.and_le_left
  show IntKind.i64.wrap (((BitVec.ofInt 64 (a : Int) &&& BitVec.ofInt 64 (b : Int)).toNat : Nat) : Int) = _
  rw [BitVec.toNat_and, bv_nat ha, bv_nat hb]
  exact wrap64 (by omega) (by omega)
theorem or_lt {a b n : Nat} (ha : a < 2 ^ n) (hb : b < 2 ^ n) : a ||| b < 2 ^ n := Nat.or_lt_two_pow ha hb
theorem bits_or {a b : Nat} (ha : a < 2 ^ 62) (hb : b < 2 ^ 62) : bits .or .i64 a b = ((a ||| b : Nat) : Int) := by
  have h1 := or_lt ha hb
  show IntKind.i64.wrap (((BitVec.ofInt 64 (a : Int) ||| BitVec.ofInt 64 (b : Int)).toNat : Nat) : Int) = _
  rw [BitVec.toNat_or, bv_nat ha, bv_nat hb]
  exact wrap64 (by omega) (by omega)
/-- One set without another one. -/
def diff (a b : Nat) : Nat := a ^^^ (a &&& b)
theorem diff_bit (a b i : Nat) : (diff a b).testBit i = (a.testBit i && !(b.testBit i)) := by
  unfold diff
  rw [Nat.testBit_xor, Nat.testBit_and]
  cases a.testBit i <;> cases b.testBit i <;> rfl
theorem diff_lt {a b n : Nat} (ha : a < 2 ^ n) : diff a b < 2 ^ n := by
  unfold diff
  exact Nat.xor_lt_two_pow ha (Nat.lt_of_le_of_lt Nat.and_le_left ha)
theorem bits_andNot {a b : Nat} (ha : a < 2 ^ 62) (hb : b < 2 ^ 62) : bits .andNot .i64 a b = ((diff a b : Nat) : Int) := by
  have h2 : (BitVec.ofInt 64 (a : Int) &&& ~~~(BitVec.ofInt 64 (b : Int))).toNat = diff a b := by
    apply Nat.eq_of_testBit_eq
    intro i
    rw [diff_bit, BitVec.toNat_and, Nat.testBit_and, bv_nat ha]
    rcases Nat.lt_or_ge i 64 with hi | hi
    · congr 1
      rw [BitVec.testBit_toNat, BitVec.getLsbD_not, ← BitVec.testBit_toNat, bv_nat hb]
      simp [hi]
    · have h3 : a.testBit i = false := Nat.testBit_lt_two_pow (Nat.lt_of_lt_of_le ha (Nat.pow_le_pow_right (by decide) (by omega)))
      simp [h3]
  have h1 : diff a b < 2 ^ 62 := diff_lt ha
  show IntKind.i64.wrap (((BitVec.ofInt 64 (a : Int) &&& ~~~(BitVec.ofInt 64 (b : Int))).toNat : Nat) : Int) = _
  rw [h2]
  exact wrap64 (by omega) (by omega)

/-- The numbers below n of which p holds. -/
def setOf : Nat → (Nat → Bool) → Nat
  | 0, _ => 0
  | n + 1, p => setOf n p + if p n then 2 ^ n else 0
theorem setOf_lt (p : Nat → Bool) : ∀ n, setOf n p < 2 ^ n
  | 0 => Nat.zero_lt_one
  | n + 1 => by
    have := setOf_lt p n
    have h2 : 2 ^ (n + 1) = 2 ^ n + 2 ^ n := by rw [Nat.pow_succ]; omega
    unfold setOf
    split <;> omega
theorem setOf_bit (p : Nat → Bool) : ∀ n i, (setOf n p).testBit i = (decide (i < n) && p i)
  | 0, i => by simp [setOf]
  | n + 1, i => by
    have hlt := setOf_lt p n
    have ih := setOf_bit p n i
    unfold setOf
    cases hp : p n with
    | false =>
      simp only [Bool.false_eq_true, if_false, Nat.add_zero, ih]
      by_cases h : i = n
      · subst h; simp [hp]
      · have : decide (i < n + 1) = decide (i < n) := by apply Bool.eq_iff_iff.2; simp; omega
        rw [this]
    | true =>
      simp only [if_true]
      have e : setOf n p + 2 ^ n = 2 ^ n * 1 + setOf n p := by omega
      rw [e, Nat.testBit_two_pow_mul_add _ hlt]
      by_cases h : i < n
      · rw [if_pos h, ih]
        have h2 : i < n + 1 := by omega
        simp [h, h2]
      · rw [if_neg h]
        by_cases h2 : i = n
        · subst h2; simp [hp]
        · have h3 : Nat.testBit 1 (i - n) = false := by
            cases h4 : Nat.testBit 1 (i - n) with
            | false => rfl
            | true => have := Nat.testBit_one_eq_true_iff_self_eq_zero.1 h4; omega
          have h5 : ¬ i < n + 1 := by omega
          rw [h3]; simp [h5]
theorem setOf_self {a n : Nat} (h : a < 2 ^ n) : setOf n a.testBit = a := by
  apply Nat.eq_of_testBit_eq
  intro i
  rw [setOf_bit]
  by_cases hi : i < n
  · simp [hi]
  · have : a.testBit i = false := Nat.testBit_lt_two_pow (Nat.lt_of_lt_of_le h (Nat.pow_le_pow_right (by decide) (by omega)))
    simp [hi, this]
theorem setOf_congr {n : Nat} {p q : Nat → Bool} (h : ∀ i, i < n → p i = q i) : setOf n p = setOf n q := by
  apply Nat.eq_of_testBit_eq
  intro i
  rw [setOf_bit, setOf_bit]
  by_cases hi : i < n
  · simp [hi, h i hi]
  · simp [hi]
theorem pow_bit {n m : Nat} : (2 ^ n).testBit m = decide (m = n) := by
  rw [Nat.testBit_two_pow]
  apply Bool.eq_iff_iff.2; simp; exact eq_comm

/-! ### Small functions -/

theorem den73 (lo hi : Int) : DN 73 [.int .i64 lo, .int .i64 hi] (.agg [.int .i64 lo, .int .i64 hi]) := by
  refine mk Tryz.func73 Tryz.call73 rfl rfl ?_
  rfl

theorem den26 (n : Nat) (hn : n ≤ 40) : DN 26 [.int .i64 n] (.int .i64 ((2 ^ n : Nat) : Int)) := by
  refine mk Tryz.func26 Tryz.call26 rfl rfl ?_
  refine ⟨[0, 3, 4], 0, [], fun σ => ∃ i : Nat, i ≤ n ∧ σ = ⟨[(0, .int .i64 n), (3, .int .i64 ((2 ^ i : Nat) : Int)), (4, .int .i64 i)], [], .non⟩, fun σ => (1000 - slotI 4 σ).toNat, rfl, ⟨rfl, rfl⟩, ⟨0, Nat.zero_le _, rfl⟩, ?_⟩
  rintro σ ⟨i, hi, rfl⟩
  refine ⟨fun h1 => ?_, fun h1 => ?_⟩
  · have h1 : (i : Int) < n := of_decide_eq_true h1
    have hp : 2 ^ i < 2 ^ 41 := Nat.pow_lt_pow_right (by decide) (by omega)
    have hs : 2 ^ (i + 1) = 2 * 2 ^ i := by rw [Nat.pow_succ]; omega
    refine ⟨((2 ^ (i + 1) : Nat) : Int), ?_, ?_⟩
    · rw [hs]
      show IntKind.i64.wrap (2 * ((2 ^ i : Nat) : Int)) = _
      rw [wrap64 (by omega) (by omega)]; rfl
    refine ⟨_, wrap64 (by omega) (by omega), ?_⟩
    exact ⟨⟨rfl, rfl⟩, ⟨i + 1, by omega, rfl⟩, by show (1000 - ((i : Int) + 1)).toNat < (1000 - (i : Int)).toNat; omega⟩
  · have h1 : ¬ (i : Int) < n := of_decide_eq_false h1
    have : i = n := by omega
    subst this
    rfl

theorem den55 (a n : Nat) (ha : a < 2 ^ 62) (hn : n ≤ 40) : DN 55 [.int .i64 a, .int .i64 n] (.bool (a.testBit n)) := by
  refine mk Tryz.func55 Tryz.call55 rfl rfl ?_
  have hp : 0 < 2 ^ n := Nat.two_pow_pos n
  refine ⟨_, rfl, _, den26 n hn, ?_⟩
  have hne : ((2 ^ n : Nat) : Int) ≠ 0 := by omega
  refine ⟨hne, ((a / 2 ^ n : Nat) : Int), ?_, ?_⟩
  · have h1 : a / 2 ^ n ≤ a := Nat.div_le_self _ _
    have h2 : (a : Int).tdiv ((2 ^ n : Nat) : Int) = ((a / 2 ^ n : Nat) : Int) := by rw [← Int.ofNat_tdiv]
    have h3 : ∀ q : Nat, q ≤ a → IntKind.i64.wrap (q : Int) = q := fun q hq => wrap64 (by omega) (by omega)
    exact (congrArg IntKind.i64.wrap h2).trans (h3 _ h1)
  refine ⟨by decide, ((a / 2 ^ n % 2 : Nat) : Int), ?_, ?_⟩
  · rfl
  have e : (((a / 2 ^ n % 2 : Nat) : Int) == 1) = a.testBit n := by
    rw [Nat.testBit_eq_decide_div_mod_eq]
    obtain ⟨q, hq⟩ : ∃ q, a / 2 ^ n % 2 = q := ⟨_, rfl⟩
    rw [hq]
    apply Bool.eq_iff_iff.2
    simp
    omega
  show some (D.bool _) = some (D.bool _)
  rw [← e]

end Go.Proofs.Water

namespace Go.Proofs.Water
open Go.V Go.Proofs Go.Proofs.Top

def hasB (l : List Int) (n : Int) : Bool := l.any fun x => x == n
def withinB (a b : List Int) : Bool := a.all fun x => hasB b x
theorem den36 (l m : List Int) (hl : l.length < 1000000) : DN 36 [.list 1 (l.map encI), .list 1 (m.map encI)] (.bool (decide (l = m))) := by
  refine mk Tryz.func36 Tryz.call36 rfl rfl ?_
  refine ⟨[0, 1, 5, 6], 0, [], fun σ => ∃ (i : Nat) (same : Bool), i ≤ l.length ∧ (same = true → l.length = m.length ∧ l.take i = m.take i) ∧ (same = false → l ≠ m) ∧
    σ = ⟨[(0, .list 1 (l.map encI)), (1, .list 1 (m.map encI)), (5, .bool same), (6, .int .i64 i)], [], .non⟩, fun σ => ((l.length : Int) - slotI 6 σ).toNat, rfl, ⟨rfl, rfl⟩, ⟨0, _, Nat.zero_le _, ?_, ?_, rfl⟩, ?_⟩
  · intro h
    have h : (((l.map encI).length : Int) == ((m.map encI).length : Int)) = true := h
    rw [encI_len, encI_len] at h
    simp at h
    exact ⟨by omega, by simp⟩
  · intro h e
    have h : (((l.map encI).length : Int) == ((m.map encI).length : Int)) = false := h
    rw [encI_len, encI_len, e] at h
    simp at h
  rintro σ ⟨i, same, hi, hs1, hs2, rfl⟩
  have exit : (same = true → i = l.length) → some (D.bool same) = some (D.bool (decide (l = m))) := by
    intro h
    cases same with
    | false => simp [hs2 rfl]
    | true =>
      obtain ⟨h1, h2⟩ := hs1 rfl
      rw [h rfl, List.take_length, h1, List.take_length] at h2
      simp [h2]
  refine ⟨fun h1 => ?_, fun h1 => ?_⟩
  · have h1 := of_decide_eq_true h1
    rw [encI_len] at h1
    have hi' : i < l.length := by omega
    refine ⟨fun h2 => ?_, fun h2 => ?_⟩
    · obtain ⟨h3, h4⟩ := hs1 h2
      have hi2 : i < m.length := by omega
      refine Or.inl ⟨by kernel_rfl, ?_⟩
      refine ⟨by omega, _, encI_get hi', ?_⟩
      refine ⟨by omega, _, encI_get hi2, ?_⟩
      refine ⟨_, wrap64 (by omega) (by omega), ?_⟩
      refine ⟨⟨rfl, rfl⟩, ⟨i + 1, _, hi', ?_, ?_, rfl⟩, ?_⟩
      · intro h
        have h : l[i] = m[i] := by simpa using h
        exact ⟨h3, by rw [List.take_succ_eq_append_getElem hi', List.take_succ_eq_append_getElem hi2, h4, h]⟩
      · intro h e
        have h : l[i] ≠ m[i] := by simpa using h
        subst e; exact h rfl
      · show ((l.length : Int) - ((i : Int) + 1)).toNat < ((l.length : Int) - (i : Int)).toNat
        omega
    · exact exit (by intro h; rw [h2] at h; cases h)
  · have h1 := of_decide_eq_false h1
    rw [encI_len] at h1
    exact exit fun _ => by omega

def amongE (x : Sp) (n : Int) : Int := x.lo + n.tmod (x.hi - x.lo + 1)

theorem tmod_range {n k : Int} (hn : 0 ≤ n) (hk : 0 < k) : 0 ≤ n.tmod k ∧ n.tmod k < k :=
  ⟨Int.tmod_nonneg k hn, Int.tmod_lt_of_pos n hk⟩

theorem among_in {x : Sp} (hx : x.lo ≤ x.hi) {n : Int} (hn : 0 ≤ n) : x.lo ≤ amongE x n ∧ amongE x n ≤ x.hi := by
  have := tmod_range hn (k := x.hi - x.lo + 1) (by omega)
  unfold amongE
  omega

theorem den52 (x : Sp) (n : Int) (hx : x.lo ≤ x.hi) (hs : -1000000 ≤ x.lo ∧ x.hi ≤ 1000000) (hn : 0 ≤ n) : DN 52 [.agg x.enc, .int .i64 n] (.int .i64 (amongE x n)) := by
  refine mk Tryz.func52 Tryz.call52 rfl rfl ?_
  have h1 := among_in hx hn
  refine Or.inl ⟨by kernel_rfl, ?_⟩
  refine ⟨x.hi - x.lo, wrap64 (by omega) (by omega), ?_⟩
  refine ⟨x.hi - x.lo + 1, wrap64 (by omega) (by omega), ?_⟩
  refine ⟨by omega, _, rfl, ?_⟩
  refine ⟨amongE x n, ?_, ?_⟩
  · have : x.lo + n.tmod (x.hi - x.lo + 1) = amongE x n := rfl
    rw [this]
    exact wrap64 (by omega) (by omega)
  · rfl

def enc16 (v : Int) : List D := [.int .u16 v]

def enc8 (v : Int) : List D := [.int .u8 v]

def turnE (l : List Int) (n : Int) : Int := match l[(n.tmod l.length).toNat]? with | some v => v | none => 0

def inL (l : List Int) (b : Int) : Prop := ∀ v ∈ l, 0 ≤ v ∧ v < b

theorem turn_in {l : List Int} {b : Int} (h : inL l b) (hb : 0 < b) (n : Int) : 0 ≤ turnE l n ∧ turnE l n < b := by
  unfold turnE
  cases hv : l[(n.tmod l.length).toNat]? with
  | none => exact ⟨Int.le_refl 0, hb⟩
  | some v => exact h v (List.mem_of_getElem? hv)

theorem den53 (l : List Int) (n : Int) (hl : inL l 65536) (hn : 0 ≤ n) : DN 53 [.list 1 (l.map enc16), .int .i64 n] (.int .i64 (turnE l n)) := by
  refine mk Tryz.func53 Tryz.call53 rfl rfl ?_
  have hlen : ((l.map enc16).length : Int) = l.length := by simp
  refine ⟨fun h1 => ?_, fun h1 => ?_⟩
  · have h1 : (((l.map enc16).length : Int) == 0) = true := h1
    rw [hlen] at h1
    have h1 : l.length = 0 := by simpa using h1
    have : l = [] := List.eq_nil_of_length_eq_zero h1
    subst this
    show some (D.int .i64 0) = some (D.int .i64 (turnE [] n))
    rfl
  · have h1 : (((l.map enc16).length : Int) == 0) = false := h1
    rw [hlen] at h1
    have h1 : ¬ l.length = 0 := by simpa using h1
    have hr := tmod_range hn (k := l.length) (by omega)
    have hi : (n.tmod l.length).toNat < l.length := by omega
    have hget : l[(n.tmod l.length).toNat]? = some (turnE l n) := by
      unfold turnE
      rw [List.getElem?_eq_getElem hi]
    have hv := turn_in hl (by decide) n
    refine ⟨by rw [hlen]; omega, n.tmod l.length, by rw [hlen], ?_⟩
    refine ⟨hr.1, enc16 (turnE l n), by rw [List.getElem?_map, hget]; rfl, ?_⟩
    exact ⟨_, wrap64 (by omega) (by omega), rfl⟩

end Go.Proofs.Water

namespace Go.Proofs.Water
open Go.V Go.Proofs Go.Proofs.Top

/-! ### Trailing zeros, ones -/

/-- Where the code looks for the number of trailing zeros. -/
def tz1 (x : Int) : Int := IntKind.u64.wrap (0 - x)
def tz2 (x : Int) : Int := bits .and .u64 x (tz1 x)
def tz3 (x : Int) : Int := IntKind.u64.wrap (tz2 x * 285870213051353865)
def tz4 (x : Int) : Int := (tz3 x).fdiv (2 ^ (min (58 : Int).toNat IntKind.u64.bits))
/-- The lowest element. -/
def tz (x : Nat) : Nat := if x.testBit 0 then 0 else if x.testBit 1 then 1 else if x.testBit 2 then 2 else if x.testBit 3 then 3 else 4
theorem tz_lt (x : Nat) : tz x < 5 := by unfold tz; split <;> (try split) <;> (try split) <;> (try split) <;> decide
theorem tz_ok : ∀ x : Nat, x < 32 → 0 < x → (0 ≤ tz4 x ∧ tz4 x < 64) ∧ tab64[(tz4 x).toNat]? = some (tz x : Int) := by decide +kernel

theorem den99 (x : Nat) (hx : x < 32) (h0 : 0 < x) : DN 99 [.int .u64 x] (.int .i64 (tz x)) := by
  refine mk Tryz.func99 Tryz.call99 rfl rfl ?_
  obtain ⟨h1, h2⟩ := tz_ok x hx h0
  have h3 := tz_lt x
  obtain ⟨r1, e1⟩ : ∃ r, tz1 x = r := ⟨_, rfl⟩
  obtain ⟨r2, e2⟩ : ∃ r, tz2 x = r := ⟨_, rfl⟩
  obtain ⟨r3, e3⟩ : ∃ r, tz3 x = r := ⟨_, rfl⟩
  obtain ⟨r4, e4⟩ : ∃ r, tz4 x = r := ⟨_, rfl⟩
  have f2 : bits .and .u64 (x : Int) r1 = r2 := by rw [← e1, ← e2]; rfl
  have f3 : IntKind.u64.wrap (r2 * 285870213051353865) = r3 := by rw [← e2, ← e3]; rfl
  have f4 : r3.fdiv (2 ^ (min (58 : Int).toNat IntKind.u64.bits)) = r4 := by rw [← e3, ← e4]; rfl
  have f1 : IntKind.u64.wrap (0 - (x : Int)) = r1 := e1
  rw [e4] at h1 h2
  clear e1 e2 e3 e4
  refine ⟨fun h => ?_, fun _ => ?_⟩
  · have h : ((x : Int) == 0) = true := h
    simp at h; omega
  refine ⟨r1, f1, ?_⟩
  refine ⟨r2, f2, ?_⟩
  refine ⟨r3, f3, ?_⟩
  refine ⟨by decide, r4, f4, ?_⟩
  refine ⟨h1, r4.toNat, Nat.mul_one _, ?_⟩
  refine ⟨.u8, tz x, ?_, ?_⟩
  · show (match tab64[0 + r4.toNat]? with | some n => some (IntKind.u8, n) | none => none) = _
    rw [Nat.zero_add, h2]
  · exact ⟨_, wrap64 (by omega) (by omega), rfl⟩

theorem den82 (x : Nat) (hx : x < 32) (h0 : 0 < x) : DN 82 [.int .u64 x] (.int .i64 (tz x)) := by
  refine mk Tryz.func82 Tryz.call82 rfl rfl ?_
  exact ⟨_, rfl, _, den99 x hx h0, rfl⟩

def o1 (x : Int) : Int := (x).fdiv (2 ^ (min (1 : Int).toNat IntKind.u64.bits))
def o2 (x : Int) : Int := bits .and .u64 (o1 x) 6148914691236517205
def o3 (x : Int) : Int := bits .and .u64 (x) 6148914691236517205
def o4 (x : Int) : Int := IntKind.u64.wrap (o2 x + o3 x)
def o5 (x : Int) : Int := (o4 x).fdiv (2 ^ (min (2 : Int).toNat IntKind.u64.bits))
def o6 (x : Int) : Int := bits .and .u64 (o5 x) 3689348814741910323
def o7 (x : Int) : Int := bits .and .u64 (o4 x) 3689348814741910323
def o8 (x : Int) : Int := IntKind.u64.wrap (o6 x + o7 x)
def o9 (x : Int) : Int := (o8 x).fdiv (2 ^ (min (4 : Int).toNat IntKind.u64.bits))
def o10 (x : Int) : Int := IntKind.u64.wrap (o9 x + o8 x)
def o11 (x : Int) : Int := bits .and .u64 (o10 x) 1085102592571150095
def o12 (x : Int) : Int := (o11 x).fdiv (2 ^ (min (8 : Int).toNat IntKind.u64.bits))
def o13 (x : Int) : Int := IntKind.u64.wrap (o11 x + o12 x)
def o14 (x : Int) : Int := (o13 x).fdiv (2 ^ (min (16 : Int).toNat IntKind.u64.bits))
def o15 (x : Int) : Int := IntKind.u64.wrap (o13 x + o14 x)
def o16 (x : Int) : Int := (o15 x).fdiv (2 ^ (min (32 : Int).toNat IntKind.u64.bits))
def o17 (x : Int) : Int := IntKind.u64.wrap (o15 x + o16 x)
def o18 (x : Int) : Int := IntKind.i64.wrap (o17 x)
def o19 (x : Int) : Int := bits .and .i64 (o18 x) 127
/-- The elements of a set. -/
def yardsL (x : Nat) : List Nat := (List.range 5).filter fun i => x.testBit i
theorem ones_ok : ∀ x : Nat, x < 32 → o19 x = (yardsL x).length := by decide +kernel

theorem den103 (x : Nat) (hx : x < 32) : DN 103 [.int .u64 x] (.int .i64 (yardsL x).length) := by
  refine mk Tryz.func103 Tryz.call103 rfl rfl ?_
  have h := ones_ok x hx
  obtain ⟨r1, e1⟩ : ∃ r, o1 x = r := ⟨_, rfl⟩
  obtain ⟨r2, e2⟩ : ∃ r, o2 x = r := ⟨_, rfl⟩
  obtain ⟨r3, e3⟩ : ∃ r, o3 x = r := ⟨_, rfl⟩
  obtain ⟨r4, e4⟩ : ∃ r, o4 x = r := ⟨_, rfl⟩
  obtain ⟨r5, e5⟩ : ∃ r, o5 x = r := ⟨_, rfl⟩
  obtain ⟨r6, e6⟩ : ∃ r, o6 x = r := ⟨_, rfl⟩
  obtain ⟨r7, e7⟩ : ∃ r, o7 x = r := ⟨_, rfl⟩
  obtain ⟨r8, e8⟩ : ∃ r, o8 x = r := ⟨_, rfl⟩
  obtain ⟨r9, e9⟩ : ∃ r, o9 x = r := ⟨_, rfl⟩
  obtain ⟨r10, e10⟩ : ∃ r, o10 x = r := ⟨_, rfl⟩
  obtain ⟨r11, e11⟩ : ∃ r, o11 x = r := ⟨_, rfl⟩
  obtain ⟨r12, e12⟩ : ∃ r, o12 x = r := ⟨_, rfl⟩
  obtain ⟨r13, e13⟩ : ∃ r, o13 x = r := ⟨_, rfl⟩
  obtain ⟨r14, e14⟩ : ∃ r, o14 x = r := ⟨_, rfl⟩
  obtain ⟨r15, e15⟩ : ∃ r, o15 x = r := ⟨_, rfl⟩
  obtain ⟨r16, e16⟩ : ∃ r, o16 x = r := ⟨_, rfl⟩
  obtain ⟨r17, e17⟩ : ∃ r, o17 x = r := ⟨_, rfl⟩
  obtain ⟨r18, e18⟩ : ∃ r, o18 x = r := ⟨_, rfl⟩
  obtain ⟨r19, e19⟩ : ∃ r, o19 x = r := ⟨_, rfl⟩
  have f1 : ((x : Int)).fdiv (2 ^ (min (1 : Int).toNat IntKind.u64.bits)) = r1 := by rw [← e1]; rfl
  have f2 : bits .and .u64 (r1) 6148914691236517205 = r2 := by rw [← e1, ← e2]; rfl
  have f3 : bits .and .u64 ((x : Int)) 6148914691236517205 = r3 := by rw [← e3]; rfl
  have f4 : IntKind.u64.wrap (r2 + r3) = r4 := by rw [← e2, ← e3, ← e4]; rfl
  have f5 : (r4).fdiv (2 ^ (min (2 : Int).toNat IntKind.u64.bits)) = r5 := by rw [← e4, ← e5]; rfl
  have f6 : bits .and .u64 (r5) 3689348814741910323 = r6 := by rw [← e5, ← e6]; rfl
  have f7 : bits .and .u64 (r4) 3689348814741910323 = r7 := by rw [← e4, ← e7]; rfl
  have f8 : IntKind.u64.wrap (r6 + r7) = r8 := by rw [← e6, ← e7, ← e8]; rfl
  have f9 : (r8).fdiv (2 ^ (min (4 : Int).toNat IntKind.u64.bits)) = r9 := by rw [← e8, ← e9]; rfl
  have f10 : IntKind.u64.wrap (r9 + r8) = r10 := by rw [← e8, ← e9, ← e10]; rfl
  have f11 : bits .and .u64 (r10) 1085102592571150095 = r11 := by rw [← e10, ← e11]; rfl
  have f12 : (r11).fdiv (2 ^ (min (8 : Int).toNat IntKind.u64.bits)) = r12 := by rw [← e11, ← e12]; rfl
  have f13 : IntKind.u64.wrap (r11 + r12) = r13 := by rw [← e11, ← e12, ← e13]; rfl
  have f14 : (r13).fdiv (2 ^ (min (16 : Int).toNat IntKind.u64.bits)) = r14 := by rw [← e13, ← e14]; rfl
  have f15 : IntKind.u64.wrap (r13 + r14) = r15 := by rw [← e13, ← e14, ← e15]; rfl
  have f16 : (r15).fdiv (2 ^ (min (32 : Int).toNat IntKind.u64.bits)) = r16 := by rw [← e15, ← e16]; rfl
  have f17 : IntKind.u64.wrap (r15 + r16) = r17 := by rw [← e15, ← e16, ← e17]; rfl
  have f18 : IntKind.i64.wrap (r17) = r18 := by rw [← e17, ← e18]; rfl
  have f19 : bits .and .i64 (r18) 127 = r19 := by rw [← e18, ← e19]; rfl
  rw [e19] at h
  clear e1 e2 e3 e4 e5 e6 e7 e8 e9 e10 e11 e12 e13 e14 e15 e16 e17 e18 e19
  refine ⟨by decide, r1, f1, ?_⟩
  refine ⟨r2, f2, ?_⟩
  refine ⟨r3, f3, ?_⟩
  refine ⟨r4, f4, ?_⟩
  refine ⟨by decide, r5, f5, ?_⟩
  refine ⟨r6, f6, ?_⟩
  refine ⟨r7, f7, ?_⟩
  refine ⟨r8, f8, ?_⟩
  refine ⟨by decide, r9, f9, ?_⟩
  refine ⟨r10, f10, ?_⟩
  refine ⟨r11, f11, ?_⟩
  refine ⟨by decide, r12, f12, ?_⟩
  refine ⟨r13, f13, ?_⟩
  refine ⟨by decide, r14, f14, ?_⟩
  refine ⟨r15, f15, ?_⟩
  refine ⟨by decide, r16, f16, ?_⟩
  refine ⟨r17, f17, ?_⟩
  refine ⟨r18, f18, ?_⟩
  refine ⟨r19, f19, ?_⟩
  show some (D.int .i64 r19) = some (D.int .i64 _)
  rw [h]

theorem den91 (x : Nat) (hx : x < 32) : DN 91 [.int .u64 x] (.int .i64 (yardsL x).length) := by
  refine mk Tryz.func91 Tryz.call91 rfl rfl ?_
  exact ⟨_, rfl, _, den103 x hx, rfl⟩

end Go.Proofs.Water

namespace Go.Proofs.Water
open Go.V Go.Proofs Go.Proofs.Top

def yardsZ (x : Nat) : List Int := (yardsL x).map fun n : Nat => (n : Int)
theorem yardsZ_len (x : Nat) : (yardsZ x).length = (yardsL x).length := List.length_map ..
theorem yardsL_le (x : Nat) : (yardsL x).length ≤ 5 := List.length_filter_le _ _
theorem yardsZ_mem {x : Nat} {n : Int} : n ∈ yardsZ x ↔ ∃ i : Nat, i < 5 ∧ x.testBit i = true ∧ n = i := by
  simp only [yardsZ, yardsL, List.mem_map, List.mem_filter, List.mem_range]
  constructor
  · rintro ⟨i, ⟨h1, h2⟩, rfl⟩; exact ⟨i, h1, h2, rfl⟩
  · rintro ⟨i, h1, h2, rfl⟩; exact ⟨i, ⟨h1, h2⟩, rfl⟩

theorem yardsZ_step : ∀ r : Nat, r < 32 → 0 < r → yardsZ r = (tz r : Int) :: yardsZ (r &&& (r - 1)) ∧ (r &&& (r - 1)) < r := by decide +kernel

theorem den60 (x : Nat) (hx : x < 32) : DN 60 [.int .i64 x] (.list 1 ((yardsZ x).map encI)) := by
  refine mk Tryz.func60 Tryz.call60 rfl rfl ?_
  refine ⟨[0, 2], 0, [(.slot 2, 1)], fun σ => ∃ (r g : Nat) (acc : List Int), r < 32 ∧ acc ++ yardsZ r = yardsZ x ∧
    σ = ⟨[(0, .int .i64 r), (2, .sl 0 g 0 (acc.map encI).length)], [.rows false g 1 (acc.map encI)], .non⟩, fun σ => (slotI 0 σ).toNat, rfl, ⟨rfl, rfl⟩, ⟨x, 0, [], hx, rfl, rfl⟩, ?_⟩
  rintro σ ⟨r, g, acc, hr, hacc, rfl⟩
  have hlen : acc.length ≤ 5 := by
    have h1 := congrArg List.length hacc
    have h2 := yardsL_le x
    rw [List.length_append, yardsZ_len x] at h1
    omega
  refine ⟨fun h1 => ?_, fun h1 => ?_⟩
  · have h1 : ((r : Int) != 0) = true := h1
    have h0 : 0 < r := by simp at h1; omega
    obtain ⟨h2, h3⟩ := yardsZ_step r hr h0
    have hcat : acc.map encI ++ [[D.int .i64 (tz r)]] = (acc ++ [(tz r : Int)]).map encI := by simp [encI]
    refine ⟨(r : Int), ?_, ?_⟩
    · simp only [IntKind.wrap, IntKind.signed, IntKind.bits]
      simp; omega
    refine ⟨_, rfl, _, den82 r hr h0, ?_⟩
    refine ⟨trivial, iff' (by rw [beq_self]; rfl) ⟨rfl, ?_, _, hcat, ?_⟩⟩
    · rw [encI_len]; show (_ + 1) * 8 ≤ mostBytes; unfold mostBytes; omega
    refine ⟨((r - 1 : Nat) : Int), ?_, ?_⟩
    · have : (r : Int) - 1 = ((r - 1 : Nat) : Int) := by omega
      exact (congrArg IntKind.i64.wrap this).trans (wrap64 (by omega) (by omega))
    refine ⟨((r &&& (r - 1) : Nat) : Int), bits_and (by omega) (by omega), ?_⟩
    refine ⟨⟨rfl, rfl⟩, ⟨r &&& (r - 1), g + 1, acc ++ [(tz r : Int)], by omega, ?_, ?_⟩, ?_⟩
    · rw [List.append_assoc, ← hacc, h2]; rfl
    · rfl
    · show (((r &&& (r - 1) : Nat) : Int)).toNat < ((r : Nat) : Int).toNat
      omega
  · have h1 : ((r : Int) != 0) = false := h1
    obtain rfl : r = 0 := by simp at h1; omega
    have : acc = yardsZ x := by rw [← hacc]; simp [yardsZ, yardsL]
    subst this
    show reify [.rows false g 1 ((yardsZ x).map encI)] 8 (.sl 0 g 0 ((yardsZ x).map encI).length) = _
    exact reify_sl rfl rfl

/-! ### Lists compared -/

def cmpI (a b : Int) : Int := if a < b then -1 else if b < a then 1 else 0
def cmpL : List Int → List Int → Int
  | [], [] => 0
  | [], _ :: _ => -1
  | _ :: _, [] => 1
  | a :: r, b :: s => if cmpI a b = 0 then cmpL r s else cmpI a b

theorem den113 (a : Int) : DN 113 [.int .i64 a] (.bool false) := by
  refine mk Tryz.func113 Tryz.call113 rfl rfl ?_
  show some (D.bool (a != a)) = some (D.bool false)
  simp

theorem den100 (a b : Int) : DN 100 [.int .i64 a, .int .i64 b] (.int .i64 (cmpI a b)) := by
  refine mk Tryz.func100 Tryz.call100 rfl rfl ?_
  refine ⟨_, rfl, _, den113 a, ?_⟩
  refine ⟨_, rfl, _, den113 b, ?_⟩
  refine ⟨fun h => (by cases h), fun _ => ?_⟩
  refine ⟨fun h => (by cases h), fun _ => ?_⟩
  refine ⟨fun h => ?_, fun h => ?_⟩
  · have h : a < b := of_decide_eq_true h
    show some (D.int .i64 (-1)) = some (D.int .i64 (cmpI a b))
    rw [cmpI, if_pos h]
  · have h : ¬ a < b := of_decide_eq_false h
    refine ⟨fun h2 => ?_, fun h2 => ?_⟩
    · have h2 : a > b := of_decide_eq_true h2
      show some (D.int .i64 1) = some (D.int .i64 (cmpI a b))
      rw [cmpI, if_neg h, if_pos h2]
    · have h2 : ¬ a > b := of_decide_eq_false h2
      show some (D.int .i64 0) = some (D.int .i64 (cmpI a b))
      rw [cmpI, if_neg h, if_neg h2]

theorem den83 (a b : List Int) (ha : a.length < 1000) (_ : b.length < 1000) : DN 83 [.list 1 (a.map encI), .list 1 (b.map encI)] (.int .i64 (cmpL a b)) := by
  refine mk Tryz.func83 Tryz.call83 rfl rfl ?_
  refine ⟨[0, 1, 9, 10, 11], 0, [], fun σ => ∃ i : Nat, i ≤ a.length ∧ i ≤ b.length ∧ cmpL a b = cmpL (a.drop i) (b.drop i) ∧
    σ = ⟨[(0, .list 1 (a.map encI)), (1, .list 1 (b.map encI)), (9, .list 1 (a.map encI)), (10, .int .i64 (a.map encI).length), (11, .int .i64 i)], [], .non⟩, fun σ => (1000 - slotI 11 σ).toNat, rfl, ⟨rfl, rfl⟩, ⟨0, Nat.zero_le _, Nat.zero_le _, rfl, rfl⟩, ?_⟩
  rintro σ ⟨i, hi, hi2, hf, rfl⟩
  refine ⟨fun h1 => ?_, fun h1 => ?_⟩
  · have h1 := of_decide_eq_true h1
    rw [encI_len] at h1
    have hi' : i < a.length := by omega
    have hda : a.drop i = a[i] :: a.drop (i + 1) := List.drop_eq_getElem_cons hi'
    refine ⟨by omega, _, encI_get hi', ?_⟩
    refine ⟨fun h2 => ?_, fun h2 => ?_⟩
    · have h2 : (i : Int) ≥ (b.map encI).length := of_decide_eq_true h2
      rw [encI_len] at h2
      have hdb : b.drop i = [] := List.drop_of_length_le (by omega)
      show some (D.int .i64 1) = some (D.int .i64 (cmpL a b))
      rw [hf, hda, hdb]; rfl
    · have h2 : ¬ (i : Int) ≥ (b.map encI).length := of_decide_eq_false h2
      rw [encI_len] at h2
      have hi3 : i < b.length := by omega
      have hdb : b.drop i = b[i] :: b.drop (i + 1) := List.drop_eq_getElem_cons hi3
      rw [hda, hdb] at hf
      refine ⟨by omega, _, encI_get hi3, ?_⟩
      refine ⟨_, rfl, _, den100 a[i] b[i], ?_⟩
      refine ⟨fun h3 => ?_, fun h3 => ?_⟩
      · have h3 : (cmpI a[i] b[i] != 0) = true := h3
        have h3 : ¬ cmpI a[i] b[i] = 0 := by simpa using h3
        show some (D.int .i64 (cmpI a[i] b[i])) = some (D.int .i64 (cmpL a b))
        rw [hf]
        unfold cmpL
        rw [if_neg h3]
      · have h3 : (cmpI a[i] b[i] != 0) = false := h3
        have h3 : cmpI a[i] b[i] = 0 := by simpa using h3
        refine ⟨_, wrap64 (by omega) (by omega), ?_⟩
        refine ⟨⟨rfl, rfl⟩, ⟨i + 1, hi', hi3, ?_, rfl⟩, by show (1000 - ((i : Int) + 1)).toNat < (1000 - (i : Int)).toNat; omega⟩
        rw [hf]
        conv => lhs; unfold cmpL
        rw [if_pos h3]
  · have h1 := of_decide_eq_false h1
    rw [encI_len] at h1
    have hda : a.drop i = [] := List.drop_of_length_le (by omega)
    refine ⟨fun h2 => ?_, fun h2 => ?_⟩
    · have h2 : ((a.map encI).length : Int) < (b.map encI).length := of_decide_eq_true h2
      rw [encI_len, encI_len] at h2
      have hdb : b.drop i = b[i] :: b.drop (i + 1) := List.drop_eq_getElem_cons (by omega)
      show some (D.int .i64 (-1)) = some (D.int .i64 (cmpL a b))
      rw [hf, hda, hdb]; rfl
    · have h2 : ¬ ((a.map encI).length : Int) < (b.map encI).length := of_decide_eq_false h2
      rw [encI_len, encI_len] at h2
      have hdb : b.drop i = [] := List.drop_of_length_le (by omega)
      show some (D.int .i64 0) = some (D.int .i64 (cmpL a b))
      rw [hf, hda, hdb]; rfl

end Go.Proofs.Water

namespace Go.Proofs.Water
open Go.V Go.Proofs Go.Proofs.Top

/-- A list is shorter than another one, or as long and before it. -/
def befB (a b : List Int) : Bool := if a.length = b.length then decide (cmpL a b < 0) else decide (a.length < b.length)

theorem smp_len (l : List Smp) : (l.map Smp.enc).length = l.length := List.length_map ..

theorem den90 (l : List Smp) (hl : l.length < 1000) : DenN Tryz.prog 90 [.list 4 (l.map Smp.enc)] (.rows false 0 4 (l.map Smp.enc)) := by
  refine denN_of_Y ?_ ?_
  · show (l.map Smp.enc).all plainAll = true
    rw [List.all_map]
    exact List.all_eq_true.2 fun x _ => rfl
  refine denY_of (sh := shW) (ish := ishW) Tryz.tok Tryz.mixed Tryz.func90 Tryz.call90 rfl rfl ?_
  intro b hb
  refine ⟨fun h => ?_, fun _ => ?_⟩
  · exact ⟨_, rfl, .inr ⟨rfl, 4, by rw [hb h]⟩⟩
  refine ⟨trivial, ?_, ?_⟩
  · rw [smp_len]; show _ * 32 ≤ mostBytes; unfold mostBytes; omega
  exact ⟨_, rfl, .inl ⟨1, rfl, rfl⟩⟩

end Go.Proofs.Water

namespace Go.Proofs.Water
open Go.V Go.Proofs Go.Proofs.Top

def yardE (pre : List Yd) (x : Yd) : Int := match freshE pre x.name == 0 with
  | true => match [x.at'].any (outB 0 100) || [x.kinds].any (outB 0 3) with | true => 7 | false => 0
  | false => freshE pre x.name
def yardsE : List Yd → List Yd → Int → Option (Int × Int)
  | _, [], _ => none
  | pre, x :: r, i => match yardE pre x != 0 with
    | true => some (i, yardE pre x)
    | false => yardsE (pre ++ [x]) r (i + 1)
def driftsE : List Sp → Int → Option (Int × Int)
  | [], _ => none
  | b :: r, i => match [b.lo, b.hi].any (outB (-10) 10) with
    | true => some (i, 7)
    | false => match [b.hi].any (outB b.lo (b.lo + 6)) with
      | true => some (i, 2)
      | false => driftsE r (i + 1)
def Sh.badL (s : Sh) : Bool := [(s.yards.length : Int)].any (outB 1 5) || [(s.drifts.length : Int)].any (outB 1 3)
def Sh.check2 (s : Sh) : Int × Int × Int := match driftsE s.drifts 0 with
  | some r => (3, r)
  | none => (0, 0, 0)
def Sh.check1 (s : Sh) : Int × Int × Int := match yardsE [] s.yards 0 with
  | some r => (2, r)
  | none => s.check2
def Sh.check (s : Sh) : Int × Int × Int := match s.badL with
  | true => (1, 0, 3)
  | false => match [s.spread].any (outB 0 10) with
    | true => (1, 0, 7)
    | false => s.check1
def tup3 (p : Int × Int × Int) : D := .tup [.int .i64 p.1, .int .i64 p.2.1, .int .i64 p.2.2]

theorem yd_len (l : List Yd) : ((l.map Yd.enc).length : Int) = l.length := by simp
theorem sp_len (l : List Sp) : ((l.map Sp.enc).length : Int) = l.length := by simp

theorem den80 (s : Sh) : DN 80 [.agg s.enc] (tup3 s.check) := by
  refine mk Tryz.func80 Tryz.call80 rfl rfl ?_
  have fin : ∀ {p q : Int × Int × Int}, p = q → some (tup3 p) = some (tup3 q) := fun h => by rw [h]
  have hL : s.badL = true → s.check = (1, 0, 3) := fun h => by rw [Sh.check, h]
  refine ⟨_, rfl, _, den74 [((s.yards.map Yd.enc).length : Int)] 1 5 (by simp), ?_⟩
  refine ⟨fun h1 => ?_, fun h1 => ?_⟩
  · have h1 : [(s.yards.length : Int)].any (outB 1 5) = true := by rw [← yd_len]; exact h1
    exact fin (hL (by rw [Sh.badL, h1]; rfl)).symm
  have h1 : [(s.yards.length : Int)].any (outB 1 5) = false := by rw [← yd_len]; exact h1
  refine ⟨_, rfl, _, den74 [((s.drifts.map Sp.enc).length : Int)] 1 3 (by simp), ?_⟩
  refine ⟨fun h2 => ?_, fun h2 => ?_⟩
  · have h2 : [(s.drifts.length : Int)].any (outB 1 3) = true := by rw [← sp_len]; exact h2
    exact fin (hL (by rw [Sh.badL, h1, h2]; rfl)).symm
  have h2 : [(s.drifts.length : Int)].any (outB 1 3) = false := by rw [← sp_len]; exact h2
  have hL0 : s.badL = false := by rw [Sh.badL, h1, h2]; rfl
  have hyl : s.yards.length ≤ 5 := by simp [outB] at h1; omega
  have hdl : s.drifts.length ≤ 3 := by simp [outB] at h2; omega
  refine ⟨_, rfl, _, den74 [s.spread] 0 10 (by simp), ?_⟩
  refine ⟨fun h3 => ?_, fun h3 => ?_⟩
  · exact fin (p := (1, 0, 7)) (by rw [Sh.check, hL0, h3])
  have hC : s.check = s.check1 := by rw [Sh.check, hL0, h3]
  have hF : ∀ r, yardsE [] s.yards 0 = some r → s.check = (2, r) := fun r h => by rw [hC, Sh.check1, h]
  have hF0 : yardsE [] s.yards 0 = none → s.check = s.check2 := fun h => by rw [hC, Sh.check1, h]
  refine ⟨[1, 28, 29, 30], 1, [], fun σ => ∃ (i : Nat), i ≤ s.yards.length ∧ yardsE [] s.yards 0 = yardsE (s.yards.take i) (s.yards.drop i) i ∧
      σ = ⟨[(1, .loc 0 0), (28, .list 3 (s.yards.map Yd.enc)), (29, .int .i64 (s.yards.map Yd.enc).length), (30, .int .i64 i)], [.flat false s.enc], .non⟩, fun σ => (1000 - slotI 30 σ).toNat, rfl, ⟨rfl, rfl⟩, ⟨0, Nat.zero_le _, rfl, rfl⟩, ?_⟩
  rintro σ ⟨i, hi', hf, rfl⟩
  refine ⟨fun h1 => ?_, fun h1 => ?_⟩
  · have h1 := of_decide_eq_true h1
    rw [yd_len] at h1
    have hi' : i < s.yards.length := by omega
    have hrow : (s.yards.map Yd.enc)[((i : Int)).toNat]? = some (s.yards[i].enc) := by simp [hi']
    have hdrop : s.yards.drop i = s.yards[i] :: s.yards.drop (i + 1) := List.drop_eq_getElem_cons hi'
    have htake : s.yards.take (i + 1) = s.yards.take i ++ [s.yards[i]] := by simp
    rw [hdrop, yardsE] at hf
    refine ⟨by omega, _, hrow, ?_⟩
    refine ⟨_, wrap64 (by omega) (by omega), ?_⟩
    refine ⟨⟨by omega, by rw [yd_len]; omega⟩, (s.yards.take i ++ [s.yards[i]]).map Yd.enc, ?_, ?_⟩
    · rw [← htake, List.map_take]
      congr 1
    refine ⟨_, rfl, _, den93 (s.yards.take i) s.yards[i] (by rw [List.length_take]; omega), ?_⟩
    have next : yardE (s.yards.take i) s.yards[i] = 0 → yardsE [] s.yards 0 = yardsE (s.yards.take (i + 1)) (s.yards.drop (i + 1)) ((i : Int) + 1) := fun h => by
      rw [hf, h, htake]; rfl
    have bad : yardE (s.yards.take i) s.yards[i] ≠ 0 → s.check = (2, (i : Int), yardE (s.yards.take i) s.yards[i]) := fun h => by
      refine hF _ ?_
      have : (yardE (s.yards.take i) s.yards[i] != 0) = true := by simpa using h
      rw [hf, this]
    refine ⟨fun h2 => ?_, fun h2 => ?_⟩
    · have h2 : (freshE (s.yards.take i) s.yards[i].name == 0) = true := h2
      have h0 : freshE (s.yards.take i) s.yards[i].name = 0 := by simpa using h2
      have b7 : ([s.yards[i].at'].any (outB 0 100) || [s.yards[i].kinds].any (outB 0 3)) = true → s.check = (2, (i : Int), 7) := fun h => by
        have ht : yardE (s.yards.take i) s.yards[i] = 7 := by rw [yardE, h2, h]
        have hb := bad (by rw [ht]; decide)
        rw [ht] at hb
        exact hb
      refine ⟨_, rfl, _, den74 [s.yards[i].at'] 0 100 (by simp), ?_⟩
      refine ⟨fun h3 => ?_, fun h3 => ?_⟩
      · have hb := b7 (by rw [h3]; rfl)
        exact ⟨fun _ => fin hb.symm, fun h4 => absurd h4 (by decide)⟩
      · refine ⟨_, rfl, _, den74 [s.yards[i].kinds] 0 3 (by simp), ?_⟩
        refine ⟨fun h4 => ?_, fun h4 => ?_⟩
        · have hb := b7 (by rw [h3, h4]; rfl)
          exact ⟨fun _ => fin hb.symm, fun h4 => absurd h4 (by decide)⟩
        · have ht : yardE (s.yards.take i) s.yards[i] = 0 := by rw [yardE, h2, h3, h4]; rfl
          refine ⟨fun h5 => ?_, fun h5 => ?_⟩
          · have h5 : (freshE (s.yards.take i) s.yards[i].name != 0) = true := h5
            rw [h0] at h5; cases h5
          refine ⟨_, wrap64 (by omega) (by omega), ?_⟩
          exact ⟨⟨rfl, rfl⟩, ⟨i + 1, hi', next ht, rfl⟩, by show (1000 - ((i : Int) + 1)).toNat < (1000 - (i : Int)).toNat; omega⟩
    · have h2 : (freshE (s.yards.take i) s.yards[i].name == 0) = false := h2
      have h0 : ¬ freshE (s.yards.take i) s.yards[i].name = 0 := by simpa using h2
      have ht : yardE (s.yards.take i) s.yards[i] = freshE (s.yards.take i) s.yards[i].name := by rw [yardE, h2]
      have hb := bad (by rw [ht]; exact h0)
      rw [ht] at hb
      exact ⟨fun _ => fin hb.symm, fun h4 => absurd (by simpa using h4) h0⟩
  have h1 := of_decide_eq_false h1
  rw [yd_len] at h1
  have hn : s.yards.drop i = [] := List.drop_of_length_le (by omega)
  rw [hn] at hf
  have hE := hF0 hf
  have hG : ∀ r, driftsE s.drifts 0 = some r → s.check = (3, r) := fun r h => by rw [hE, Sh.check2, h]
  have hG0 : driftsE s.drifts 0 = none → s.check = (0, 0, 0) := fun h => by rw [hE, Sh.check2, h]
  clear hf hn h1 hi'
  refine ⟨[1, 61, 62, 63], 1, [], fun σ => ∃ (i : Nat), i ≤ s.drifts.length ∧ driftsE s.drifts 0 = driftsE (s.drifts.drop i) i ∧
      σ = ⟨[(1, .loc 0 0), (61, .list 2 (s.drifts.map Sp.enc)), (62, .int .i64 (s.drifts.map Sp.enc).length), (63, .int .i64 i)], [.flat false s.enc], .non⟩, fun σ => (1000 - slotI 63 σ).toNat, rfl, ⟨rfl, rfl⟩, ⟨0, Nat.zero_le _, rfl, rfl⟩, ?_⟩
  rintro σ ⟨i, hi', hf, rfl⟩
  refine ⟨fun h1 => ?_, fun h1 => ?_⟩
  · have h1 := of_decide_eq_true h1
    rw [sp_len] at h1
    have hi' : i < s.drifts.length := by omega
    have hrow : (s.drifts.map Sp.enc)[((i : Int)).toNat]? = some (s.drifts[i].enc) := by simp [hi']
    have hdrop : s.drifts.drop i = s.drifts[i] :: s.drifts.drop (i + 1) := List.drop_eq_getElem_cons hi'
    rw [hdrop, driftsE] at hf
    refine ⟨by omega, _, hrow, ?_⟩
    refine ⟨_, rfl, _, den74 [s.drifts[i].lo, s.drifts[i].hi] (-10) 10 (by simp), ?_⟩
    refine ⟨fun h2 => ?_, fun h2 => ?_⟩
    · rw [h2] at hf
      exact fin (hG _ hf).symm
    have hr : -10 ≤ s.drifts[i].lo ∧ s.drifts[i].lo ≤ 10 := by simp [outB] at h2; omega
    rw [h2] at hf
    refine ⟨s.drifts[i].lo + 6, wrap64 (by omega) (by omega), ?_⟩
    refine ⟨_, rfl, _, den74 [s.drifts[i].hi] s.drifts[i].lo (s.drifts[i].lo + 6) (by simp), ?_⟩
    refine ⟨fun h3 => ?_, fun h3 => ?_⟩
    · rw [h3] at hf
      exact fin (hG _ hf).symm
    rw [h3] at hf
    refine ⟨_, wrap64 (by omega) (by omega), ?_⟩
    exact ⟨⟨rfl, rfl⟩, ⟨i + 1, hi', hf, rfl⟩, by show (1000 - ((i : Int) + 1)).toNat < (1000 - (i : Int)).toNat; omega⟩
  have h1 := of_decide_eq_false h1
  rw [sp_len] at h1
  have hn : s.drifts.drop i = [] := List.drop_of_length_le (by omega)
  rw [hn] at hf
  exact fin (hG0 hf).symm

end Go.Proofs.Water

namespace Go.Proofs.Water
open Go.V Go.Proofs Go.Proofs.Top

theorem not_inR (n lo hi : Int) : (!(inR n lo hi)) = outB lo hi n := by
  unfold inR outB
  by_cases h1 : n < lo
  · have : ¬ n ≥ lo := by omega
    simp [h1, this]
  · have : n ≥ lo := by omega
    by_cases h2 : n > hi
    · have : ¬ n ≤ hi := by omega
      simp [h2, this]
    · have : n ≤ hi := by omega
      simp [h1, h2, this]; omega

theorem outS_any (lo hi : Int) (b : Sp) : outS lo hi b = [b.lo, b.hi].any (outB lo hi) := by
  unfold outS
  rw [not_inR, not_inR]
  simp

theorem spread1 (lo hi : Int) (b : Sp) : spreadE lo hi [b] = match [b.lo, b.hi].any (outB lo hi) with | true => 7 | false => match decide (b.lo > b.hi) with | true => 2 | false => 0 := by
  unfold spreadE
  simp only [List.any_cons, List.any_nil, Bool.or_false, outS_any]
  rfl

theorem any1 (n lo hi : Int) : (!(inR n lo hi)) = [n].any (outB lo hi) := by rw [not_inR]; simp

/-- The error of a drift, in the reference. -/
theorem drift_eq (b : Sp) : (match spreadE (-10) 10 [b] == 0 with | true => (match decide (b.hi > b.lo + 6) with | true => (2 : Int) | false => 0) | false => spreadE (-10) 10 [b]) =
    match [b.lo, b.hi].any (outB (-10) 10) with | true => 7 | false => match [b.hi].any (outB b.lo (b.lo + 6)) with | true => 2 | false => 0 := by
  rw [spread1]
  cases h1 : [b.lo, b.hi].any (outB (-10) 10) with
  | true => rfl
  | false =>
    simp only [List.any_cons, List.any_nil, Bool.or_false, outB]
    by_cases h2 : b.lo > b.hi
    · have h3 : b.hi < b.lo := h2
      simp [h2]
    · have h3 : ¬ b.hi < b.lo := h2
      by_cases h4 : b.hi > b.lo + 6
      · have h5 : b.lo + 6 < b.hi := h4
        simp [h2, h5]
      · have h5 : ¬ b.lo + 6 < b.hi := h4
        simp [h2, h5]

theorem den5 (s : Sh) : DN 5 [.agg s.enc] (tup3 s.check) := by
  refine mk Tryz.func5 Tryz.call5 rfl rfl ?_
  have fin : ∀ {p q : Int × Int × Int}, p = q → some (tup3 p) = some (tup3 q) := fun h => by rw [h]
  have hL : s.badL = true → s.check = (1, 0, 3) := fun h => by rw [Sh.check, h]
  refine ⟨_, rfl, _, den24 ((s.yards.map Yd.enc).length : Int) 1 5, ?_⟩
  have cv1 : ∀ b, (!(inR ((s.yards.map Yd.enc).length : Int) 1 5)) = b → [(s.yards.length : Int)].any (outB 1 5) = b := fun b h => by rw [← any1, ← yd_len]; exact h
  have cv2 : ∀ b, (!(inR ((s.drifts.map Sp.enc).length : Int) 1 3)) = b → [(s.drifts.length : Int)].any (outB 1 3) = b := fun b h => by rw [← any1, ← sp_len]; exact h
  have cv : ∀ n lo hi b, (!(inR n lo hi)) = b → [n].any (outB lo hi) = b := fun n lo hi b h => by rw [← any1]; exact h
  refine ⟨fun h1 => ?_, fun h1 => ?_⟩
  · have h1 := cv1 _ h1
    exact fin (hL (by rw [Sh.badL, h1]; rfl)).symm
  have h1 := cv1 _ h1
  refine ⟨_, rfl, _, den24 ((s.drifts.map Sp.enc).length : Int) 1 3, ?_⟩
  refine ⟨fun h2 => ?_, fun h2 => ?_⟩
  · have h2 := cv2 _ h2
    exact fin (hL (by rw [Sh.badL, h1, h2]; rfl)).symm
  have h2 := cv2 _ h2
  have hL0 : s.badL = false := by rw [Sh.badL, h1, h2]; rfl
  have hyl : s.yards.length ≤ 5 := by simp [outB] at h1; omega
  have hdl : s.drifts.length ≤ 3 := by simp [outB] at h2; omega
  refine ⟨_, rfl, _, den24 s.spread 0 10, ?_⟩
  refine ⟨fun h3 => ?_, fun h3 => ?_⟩
  · have h3 := cv _ _ _ _ h3
    exact fin (p := (1, 0, 7)) (by rw [Sh.check, hL0, h3])
  have h3 := cv _ _ _ _ h3
  have hC : s.check = s.check1 := by rw [Sh.check, hL0, h3]
  have hF : ∀ r, yardsE [] s.yards 0 = some r → s.check = (2, r) := fun r h => by rw [hC, Sh.check1, h]
  have hF0 : yardsE [] s.yards 0 = none → s.check = s.check2 := fun h => by rw [hC, Sh.check1, h]
  refine ⟨[1, 5, 6], 1, [(.slot 5, 1)], fun σ => ∃ (i g : Nat), i ≤ s.yards.length ∧ yardsE [] s.yards 0 = yardsE (s.yards.take i) (s.yards.drop i) i ∧
      σ = ⟨[(1, .loc 0 0), (5, .sl 1 g 0 (((s.yards.take i).map (·.name)).map encS).length), (6, .int .i64 i)], [.flat false s.enc, .rows false g 1 (((s.yards.take i).map (·.name)).map encS)], .non⟩, fun σ => (1000 - slotI 6 σ).toNat, rfl, ⟨rfl, rfl⟩, ⟨0, 0, Nat.zero_le _, rfl, rfl⟩, ?_⟩
  rintro σ ⟨i, g, hi', hf, rfl⟩
  refine ⟨fun h1 => ?_, fun h1 => ?_⟩
  · have h1 := of_decide_eq_true h1
    rw [yd_len] at h1
    have hi' : i < s.yards.length := by omega
    obtain ⟨x, hx⟩ : ∃ x, s.yards[i] = x := ⟨_, rfl⟩
    have hrow : (s.yards.map Yd.enc)[((i : Int)).toNat]? = some (x.enc) := by simp [hi', hx]
    have hdrop : s.yards.drop i = x :: s.yards.drop (i + 1) := by rw [← hx]; exact List.drop_eq_getElem_cons hi'
    have htake : s.yards.take (i + 1) = s.yards.take i ++ [x] := by rw [← hx]; simp
    rw [hdrop, yardsE] at hf
    have next : yardE (s.yards.take i) x = 0 → yardsE [] s.yards 0 = yardsE (s.yards.take (i + 1)) (s.yards.drop (i + 1)) ((i : Int) + 1) := fun h => by
      rw [hf, h, htake]; rfl
    have bad : yardE (s.yards.take i) x ≠ 0 → s.check = (2, (i : Int), yardE (s.yards.take i) x) := fun h => by
      refine hF _ ?_
      have : (yardE (s.yards.take i) x != 0) = true := by simpa using h
      rw [hf, this]
    have hcat : ((s.yards.take i).map (·.name)).map encS ++ [[D.str x.name]] = ((s.yards.take (i + 1)).map (·.name)).map encS := by rw [htake]; simp [encS]
    have hlt : (((s.yards.take i).map (·.name)).map encS).length ≤ 5 := by simp; omega
    obtain ⟨e, hee⟩ : ∃ e, freshE (s.yards.take i) x.name = e := ⟨_, rfl⟩
    have h47 := den25 (s.yards.take i) x.name (by rw [List.length_take]; omega)
    rw [hee] at h47
    refine ⟨by omega, _, hrow, ?_⟩
    refine ⟨_, mapO_cons rfl (mapO_cons (reify_sl rfl rfl) rfl), _, h47, ?_⟩
    refine ⟨trivial, iff' (by rw [beq_self]; rfl) ⟨rfl, ?_, _, hcat, ?_⟩⟩
    · show (_ + 1) * 16 ≤ mostBytes; unfold mostBytes; omega
    refine Or.inl ⟨by kernel_rfl, ?_⟩
    refine ⟨fun h2 => ?_, fun h2 => ?_⟩
    · have h0 : e = 0 := by simpa using h2
      subst h0
      have b7 : ([x.at'].any (outB 0 100) || [x.kinds].any (outB 0 3)) = true → s.check = (2, (i : Int), 7) := fun h => by
        have ht : yardE (s.yards.take i) x = 7 := by rw [yardE, hee, h]; rfl
        have hb := bad (by rw [ht]; decide)
        rw [ht] at hb
        exact hb
      refine ⟨_, rfl, _, den24 x.at' 0 100, ?_⟩
      refine ⟨fun h3 => ?_, fun h3 => ?_⟩
      · have h3 := cv _ _ _ _ h3
        have hb := b7 (by rw [h3]; rfl)
        exact ⟨fun _ => fin hb.symm, fun h4 => absurd h4 (by decide)⟩
      · have h3 := cv _ _ _ _ h3
        refine ⟨_, rfl, _, den26 2 (by decide), ?_⟩
        refine ⟨3, rfl, ?_⟩
        refine ⟨_, rfl, _, den24 x.kinds 0 3, ?_⟩
        refine ⟨fun h4 => ?_, fun h4 => ?_⟩
        · have h4 := cv _ _ _ _ h4
          have hb := b7 (by rw [h3, h4]; rfl)
          exact ⟨fun _ => fin hb.symm, fun h4 => absurd h4 (by decide)⟩
        · have h4 := cv _ _ _ _ h4
          have ht : yardE (s.yards.take i) x = 0 := by rw [yardE, hee, h3, h4]; rfl
          refine ⟨fun h5 => absurd h5 (by decide), fun _ => ?_⟩
          refine ⟨_, wrap64 (by omega) (by omega), ?_⟩
          exact ⟨⟨rfl, rfl⟩, ⟨i + 1, g + 1, hi', next ht, rfl⟩, by show (1000 - ((i : Int) + 1)).toNat < (1000 - (i : Int)).toNat; omega⟩
    · have h0 : ¬ e = 0 := by simpa using h2
      have ht : yardE (s.yards.take i) x = e := by
        have h2 : (e == 0) = false := h2
        rw [yardE, hee, h2]
      have hb := bad (by rw [ht]; exact h0)
      rw [ht] at hb
      exact ⟨fun _ => fin hb.symm, fun h4 => absurd (by simpa using h4) h0⟩
  have h1 := of_decide_eq_false h1
  rw [yd_len] at h1
  have hn : s.yards.drop i = [] := List.drop_of_length_le (by omega)
  rw [hn] at hf
  have hE := hF0 hf
  have hG : ∀ r, driftsE s.drifts 0 = some r → s.check = (3, r) := fun r h => by rw [hE, Sh.check2, h]
  have hG0 : driftsE s.drifts 0 = none → s.check = (0, 0, 0) := fun h => by rw [hE, Sh.check2, h]
  clear hf hn h1 hi'
  refine ⟨[1, 9], 1, [], fun σ => ∃ (i : Nat), i ≤ s.drifts.length ∧ driftsE s.drifts 0 = driftsE (s.drifts.drop i) i ∧
      σ = ⟨[(1, .loc 0 0), (9, .int .i64 i)], [.flat false s.enc], .non⟩, fun σ => (1000 - slotI 9 σ).toNat, rfl, ⟨rfl, rfl⟩, ⟨0, Nat.zero_le _, rfl, rfl⟩, ?_⟩
  rintro σ ⟨i, hi', hf, rfl⟩
  refine ⟨fun h1 => ?_, fun h1 => ?_⟩
  · have h1 := of_decide_eq_true h1
    rw [sp_len] at h1
    have hi' : i < s.drifts.length := by omega
    obtain ⟨x, hx⟩ : ∃ x, s.drifts[i] = x := ⟨_, rfl⟩
    have hrow : (s.drifts.map Sp.enc)[((i : Int)).toNat]? = some (x.enc) := by simp [hi', hx]
    have hdrop : s.drifts.drop i = x :: s.drifts.drop (i + 1) := by rw [← hx]; exact List.drop_eq_getElem_cons hi'
    have hde := drift_eq x
    rw [hdrop, driftsE] at hf
    have hsp := spread1 (-10) 10 x
    refine ⟨by omega, _, hrow, ?_⟩
    refine ⟨_, rfl, _, den20 x (-10) 10, ?_⟩
    have good : (match spreadE (-10) 10 [x] == 0 with | true => (match decide (x.hi > x.lo + 6) with | true => (2 : Int) | false => 0) | false => spreadE (-10) 10 [x]) = 0 → driftsE s.drifts 0 = driftsE (s.drifts.drop (i + 1)) ((i : Int) + 1) := fun h => by
      rw [hde] at h
      cases h5 : [x.lo, x.hi].any (outB (-10) 10) with
      | true => rw [h5] at h; cases h
      | false =>
        rw [h5] at h hf
        cases h6 : [x.hi].any (outB x.lo (x.lo + 6)) with
        | true => rw [h6] at h; cases h
        | false => rw [h6] at hf; exact hf
    have bad : ∀ e : Int, (match spreadE (-10) 10 [x] == 0 with | true => (match decide (x.hi > x.lo + 6) with | true => (2 : Int) | false => 0) | false => spreadE (-10) 10 [x]) = e → e ≠ 0 → s.check = (3, (i : Int), e) := fun e h h0 => by
      rw [hde] at h
      cases h5 : [x.lo, x.hi].any (outB (-10) 10) with
      | true => rw [h5] at h hf; rw [← h]; exact hG _ hf
      | false =>
        rw [h5] at h hf
        cases h6 : [x.hi].any (outB x.lo (x.lo + 6)) with
        | true => rw [h6] at h hf; rw [← h]; exact hG _ hf
        | false => rw [h6] at h; exact absurd h.symm h0
    have hr : spreadE (-10) 10 [x] = 0 → -10 ≤ x.lo ∧ x.lo ≤ 10 := fun h => by
      rw [hsp] at h
      cases h5 : [x.lo, x.hi].any (outB (-10) 10) with
      | true => rw [h5] at h; cases h
      | false => simp [outB] at h5; omega
    obtain ⟨e, hee⟩ : ∃ e, spreadE (-10) 10 [x] = e := ⟨_, rfl⟩
    rw [hee] at good bad hr ⊢
    refine Or.inl ⟨by kernel_rfl, ?_⟩
    refine ⟨fun h2 => ?_, fun h2 => ?_⟩
    · have h2 : e = 0 := by simpa using h2
      subst h2
      have hr := hr rfl
      refine ⟨by omega, _, hrow, ?_⟩
      refine ⟨by omega, _, hrow, ?_⟩
      refine ⟨x.lo + 6, wrap64 (by omega) (by omega), ?_⟩
      refine ⟨fun h3 => ?_, fun h3 => ?_⟩
      · have h3 : decide (x.hi > x.lo + 6) = true := h3
        rw [h3] at bad
        exact ⟨fun _ => fin (bad 2 rfl (by decide)).symm, fun h4 => absurd h4 (by decide)⟩
      · have h3 : decide (x.hi > x.lo + 6) = false := h3
        rw [h3] at good
        refine ⟨fun h5 => absurd h5 (by decide), fun _ => ?_⟩
        refine ⟨_, wrap64 (by omega) (by omega), ?_⟩
        exact ⟨⟨rfl, rfl⟩, ⟨i + 1, hi', good rfl, rfl⟩, by show (1000 - ((i : Int) + 1)).toNat < (1000 - (i : Int)).toNat; omega⟩
    · have h0 : ¬ e = 0 := by simpa using h2
      have h2 : (e == 0) = false := h2
      rw [h2] at bad
      exact ⟨fun _ => fin (bad e rfl h0).symm, fun h4 => absurd (by simpa using h4) h0⟩
  have h1 := of_decide_eq_false h1
  rw [sp_len] at h1
  have hn : s.drifts.drop i = [] := List.drop_of_length_le (by omega)
  rw [hn] at hf
  exact fin (hG0 hf).symm

end Go.Proofs.Water

namespace Go.Proofs.Water
open Go.V Go.Proofs Go.Proofs.Top

def Sh.err0 (s : Sh) : Int := s.check.2.2
/-- The error of a sample. -/
def Sh.smpE (s : Sh) (x : Smp) : Int := match [x.tide].any (outB 0 ((s.drifts.length : Int) - 1)) || [x.kind].any (outB 0 1) with
  | true => 4
  | false => match [x.place].any (outB 0 100) with | true => 7 | false => 0
def Sh.lstE (s : Sh) : List Smp → Int
  | [] => 0
  | x :: r => match s.smpE x != 0 with | true => s.smpE x | false => s.lstE r
def Sh.openE (s : Sh) (l : List Smp) : Int := match s.err0 != 0 with
  | true => s.err0
  | false => match decide ((l.length : Int) > 8) with | true => 3 | false => s.lstE l
/-- How many samples are right, from the first on. -/
def Sh.goodN (s : Sh) : List Smp → Nat
  | [] => 0
  | x :: r => match s.smpE x != 0 with | true => 0 | false => s.goodN r + 1
def foundAt (l : List Smp) (i : Nat) : Bool := match l[i]? with | some x => x.found | none => false
def zeroS : List D := [.list 0 [], .list 0 [], .int .i64 0, .list 0 [], .int .i64 0]
def Sh.opened (s : Sh) (l : List Smp) : List D := match s.err0 != 0 with
  | true => zeroS
  | false => match decide ((l.length : Int) > 8) with | true => zeroS | false => s.encS l ((setOf (s.goodN l) (foundAt l) : Nat) : Int)

/-- What a valid shore is. -/
structure Sh.Valid (s : Sh) : Prop where
  yl : 1 ≤ s.yards.length ∧ s.yards.length ≤ 5
  dl : 1 ≤ s.drifts.length ∧ s.drifts.length ≤ 3
  sp : 0 ≤ s.spread ∧ s.spread ≤ 10
  y : ∀ x ∈ s.yards, (0 ≤ x.at' ∧ x.at' ≤ 100) ∧ 0 ≤ x.kinds ∧ x.kinds ≤ 3
  d : ∀ b ∈ s.drifts, -10 ≤ b.lo ∧ b.lo ≤ b.hi ∧ b.hi ≤ 10 ∧ b.hi ≤ b.lo + 6

theorem freshE_cases (pre : List Yd) (n : ByteArray) : freshE pre n = 0 ∨ freshE pre n = 5 ∨ freshE pre n = 6 := by
  unfold freshE; split
  · exact .inr (.inr rfl)
  · split
    · exact .inr (.inl rfl)
    · exact .inl rfl
theorem yardE_zero {pre : List Yd} {x : Yd} (h : yardE pre x = 0) : (0 ≤ x.at' ∧ x.at' ≤ 100) ∧ 0 ≤ x.kinds ∧ x.kinds ≤ 3 := by
  unfold yardE at h
  split at h
  · split at h
    · cases h
    · rename_i h2
      simp [outB] at h2
      omega
  · rename_i h2
    simp at h2
    exact absurd h h2
theorem yardsE_none : ∀ {l pre : List Yd} {i : Int}, yardsE pre l i = none → ∀ x ∈ l, (0 ≤ x.at' ∧ x.at' ≤ 100) ∧ 0 ≤ x.kinds ∧ x.kinds ≤ 3
  | [], _, _, _, x, hx => by cases hx
  | y :: r, pre, i, h, x, hx => by
    rw [yardsE] at h
    split at h
    · cases h
    · rename_i h2
      rcases List.mem_cons.1 hx with rfl | hx
      · exact yardE_zero (by simpa using h2)
      · exact yardsE_none h x hx
theorem driftsE_none : ∀ {l : List Sp} {i : Int}, driftsE l i = none → ∀ b ∈ l, -10 ≤ b.lo ∧ b.lo ≤ b.hi ∧ b.hi ≤ 10 ∧ b.hi ≤ b.lo + 6
  | [], _, _, x, hx => by cases hx
  | y :: r, i, h, x, hx => by
    rw [driftsE] at h
    split at h
    · cases h
    · rename_i h2
      split at h
      · cases h
      · rename_i h3
        rcases List.mem_cons.1 hx with rfl | hx
        · simp [outB] at h2 h3
          omega
        · exact driftsE_none h x hx
theorem yardsE_ne : ∀ {l pre : List Yd} {i : Int} {p : Int × Int}, yardsE pre l i = some p → p.2 ≠ 0
  | [], _, _, _, h => by cases h
  | y :: r, pre, i, p, h => by
    rw [yardsE] at h
    split at h
    · rename_i h2
      cases h
      simpa using h2
    · exact yardsE_ne h
theorem driftsE_ne : ∀ {l : List Sp} {i : Int} {p : Int × Int}, driftsE l i = some p → p.2 ≠ 0
  | [], _, _, h => by cases h
  | y :: r, i, p, h => by
    rw [driftsE] at h
    split at h
    · cases h; show (7 : Int) ≠ 0; decide
    · split at h
      · cases h; show (2 : Int) ≠ 0; decide
      · exact driftsE_ne h
theorem valid_of {s : Sh} (h : s.err0 = 0) : s.Valid := by
  unfold Sh.err0 Sh.check at h
  split at h
  · cases h
  · rename_i h1
    split at h
    · cases h
    · rename_i h2
      unfold Sh.check1 at h
      split at h
      · rename_i r h3
        exact absurd h (yardsE_ne h3)
      · rename_i h3
        unfold Sh.check2 at h
        split at h
        · rename_i r h4
          exact absurd h (driftsE_ne h4)
        · rename_i h4
          simp [Sh.badL, outB] at h1 h2
          exact ⟨by omega, by omega, by omega, yardsE_none h3, driftsE_none h4⟩

theorem shl1 (i : Nat) (h : i ≤ 60) : IntKind.i64.wrap (1 * 2 ^ (min (i : Int).toNat IntKind.i64.bits)) = ((2 ^ i : Nat) : Int) := by
  have h1 : min (i : Int).toNat IntKind.i64.bits = i := by show min i 64 = i; omega
  have h2 : 2 ^ i < 2 ^ 61 := Nat.pow_lt_pow_right (by decide) (by omega)
  have h3 : (1 : Int) * 2 ^ i = ((2 ^ i : Nat) : Int) := by rw [Int.one_mul]; exact (Int.natCast_pow 2 i).symm
  rw [h1, h3]
  have h4 : ∀ q : Nat, q < 2 ^ 61 → IntKind.i64.wrap (q : Int) = q := fun q hq => wrap64 (by omega) (by omega)
  exact h4 _ h2
theorem pow_lt62 {i : Nat} (h : i ≤ 60) : 2 ^ i < 2 ^ 62 := Nat.pow_lt_pow_right (by decide) (by omega)
theorem setOf_lt62 {n : Nat} (p : Nat → Bool) (h : n ≤ 60) : setOf n p < 2 ^ 62 :=
  Nat.lt_of_lt_of_le (setOf_lt p n) (Nat.pow_le_pow_right (by decide) (by omega))
theorem setOf_or {n : Nat} {p : Nat → Bool} (h : p n = true) : setOf n p ||| 2 ^ n = setOf (n + 1) p := by
  apply Nat.eq_of_testBit_eq
  intro i
  rw [Nat.testBit_or, setOf_bit, setOf_bit, pow_bit]
  by_cases hi : i = n
  · subst hi; simp [h]
  · have : decide (i < n + 1) = decide (i < n) := by apply Bool.eq_iff_iff.2; simp; omega
    simp [hi, this]
theorem setOf_skip {n : Nat} {p : Nat → Bool} (h : p n = false) : setOf n p = setOf (n + 1) p := by
  show _ = setOf n p + if p n then 2 ^ n else 0
  rw [h]; rfl

theorem smp_lenI (l : List Smp) : ((l.map Smp.enc).length : Int) = l.length := by simp

set_option maxRecDepth 2000 in
theorem den56 (s : Sh) (l : List Smp) : DN 56 [.agg s.enc, .list 4 (l.map Smp.enc)] (.tup [.agg (s.opened l), .int .i64 (s.openE l)]) := by
  refine mk Tryz.func56 Tryz.call56 rfl rfl ?_
  have fin : ∀ {a b : List D} {c d : Int}, a = b → c = d → some (D.tup [.agg a, .int .i64 c]) = some (D.tup [.agg b, .int .i64 d]) := fun h h' => by rw [h, h']
  refine ⟨_, rfl, _, den80 s, ?_⟩
  refine ⟨fun h1 => ?_, fun h1 => ?_⟩
  · have h1 : (s.err0 != 0) = true := h1
    exact fin (by rw [Sh.opened, h1]; rfl) (by rw [Sh.openE, h1]; rfl)
  have h1 : (s.err0 != 0) = false := h1
  refine ⟨fun h2 => ?_, fun h2 => ?_⟩
  · have h2 : decide ((l.length : Int) > 8) = true := by rw [← smp_lenI]; exact h2
    exact fin (by rw [Sh.opened, h1, h2]; rfl) (by rw [Sh.openE, h1, h2])
  have h2 : decide ((l.length : Int) > 8) = false := by rw [← smp_lenI]; exact h2
  have hl : l.length ≤ 8 := by have := of_decide_eq_false h2; omega
  have hO : s.opened l = s.encS l ((setOf (s.goodN l) (foundAt l) : Nat) : Int) := by rw [Sh.opened, h1, h2]
  have hE : s.openE l = s.lstE l := by rw [Sh.openE, h1, h2]
  have hdl := (valid_of (by simpa using h1)).dl
  refine ⟨[2, 4, 25, 26, 27], 2, [], fun σ => ∃ i : Nat, i ≤ l.length ∧ s.lstE l = s.lstE (l.drop i) ∧ s.goodN l = i + s.goodN (l.drop i) ∧
    σ = ⟨[(2, .loc 0 0), (4, .loc 1 0), (25, .list 4 (l.map Smp.enc)), (26, .int .i64 (l.map Smp.enc).length), (27, .int .i64 i)], [.flat false s.enc, .flat false (s.encS l ((setOf i (foundAt l) : Nat) : Int))], .non⟩,
    fun σ => (1000 - slotI 27 σ).toNat, rfl, ⟨rfl, rfl⟩, ⟨0, Nat.zero_le _, rfl, by simp, rfl⟩, ?_⟩
  rintro σ ⟨i, hi, hf, hg, rfl⟩
  refine ⟨fun h3 => ?_, fun h3 => ?_⟩
  · have h3 := of_decide_eq_true h3
    rw [smp_lenI] at h3
    have hi' : i < l.length := by omega
    obtain ⟨x, hx⟩ : ∃ x, l[i] = x := ⟨_, rfl⟩
    have hrow : (l.map Smp.enc)[((i : Int)).toNat]? = some (x.enc) := by simp [hi', hx]
    have hdrop : l.drop i = x :: l.drop (i + 1) := by rw [← hx]; exact List.drop_eq_getElem_cons hi'
    have hfa : foundAt l i = x.found := by unfold foundAt; rw [List.getElem?_eq_getElem hi', hx]
    rw [hdrop] at hf hg
    rw [Sh.lstE] at hf
    rw [Sh.goodN] at hg
    have bad : ∀ e, s.smpE x = e → e ≠ 0 → s.opened l = s.encS l ((setOf i (foundAt l) : Nat) : Int) ∧ s.openE l = e := fun e h h0 => by
      have hne : (s.smpE x != 0) = true := by rw [h]; simpa using h0
      rw [hne] at hf hg
      exact ⟨by rw [hO, hg]; rfl, by rw [hE, hf]; exact h⟩
    have next : s.smpE x = 0 → s.lstE l = s.lstE (l.drop (i + 1)) ∧ s.goodN l = (i + 1) + s.goodN (l.drop (i + 1)) := fun h => by
      rw [h] at hf hg
      exact ⟨hf, by rw [hg]; show i + (s.goodN (l.drop (i + 1)) + 1) = _; omega⟩
    refine ⟨by omega, _, hrow, ?_⟩
    refine ⟨(s.drifts.length : Int) - 1, ?_, ?_⟩
    · show IntKind.i64.wrap (((s.drifts.map Sp.enc).length : Int) - 1) = _
      rw [sp_len]; exact wrap64 (by omega) (by omega)
    refine ⟨_, rfl, _, den74 [x.tide] 0 ((s.drifts.length : Int) - 1) (by simp), ?_⟩
    have b4 : ([x.tide].any (outB 0 ((s.drifts.length : Int) - 1)) || [x.kind].any (outB 0 1)) = true → s.opened l = s.encS l ((setOf i (foundAt l) : Nat) : Int) ∧ s.openE l = 4 := fun h => bad 4 (by rw [Sh.smpE, h]) (by decide)
    refine ⟨fun h4 => ?_, fun h4 => ?_⟩
    · obtain ⟨e1, e2⟩ := b4 (by rw [h4]; rfl)
      exact fin e1.symm e2.symm
    refine ⟨_, rfl, _, den74 [x.kind] 0 1 (by simp), ?_⟩
    refine ⟨fun h5 => ?_, fun h5 => ?_⟩
    · obtain ⟨e1, e2⟩ := b4 (by rw [h4, h5]; rfl)
      exact fin e1.symm e2.symm
    refine ⟨_, rfl, _, den74 [x.place] 0 100 (by simp), ?_⟩
    refine ⟨fun h6 => ?_, fun h6 => ?_⟩
    · obtain ⟨e1, e2⟩ := bad 7 (by rw [Sh.smpE, h4, h5, h6]; rfl) (by decide)
      exact fin e1.symm e2.symm
    obtain ⟨n1, n2⟩ := next (by rw [Sh.smpE, h4, h5, h6]; rfl)
    refine ⟨fun h7 => ?_, fun h7 => ?_⟩
    · have h7 : foundAt l i = true := by rw [hfa]; exact h7
      refine Or.inl ⟨by kernel_rfl, ?_⟩
      refine ⟨by omega, _, shl1 i (by omega), ?_⟩
      refine ⟨_, bits_or (setOf_lt62 _ (by omega)) (pow_lt62 (by omega)), ?_⟩
      rw [setOf_or h7]
      refine ⟨_, wrap64 (by omega) (by omega), ?_⟩
      exact ⟨⟨rfl, rfl⟩, ⟨i + 1, hi', n1, n2, rfl⟩, by show (1000 - ((i : Int) + 1)).toNat < (1000 - (i : Int)).toNat; omega⟩
    · have h7 : foundAt l i = false := by rw [hfa]; exact h7
      rw [setOf_skip h7]
      refine ⟨_, wrap64 (by omega) (by omega), ?_⟩
      exact ⟨⟨rfl, rfl⟩, ⟨i + 1, hi', n1, n2, rfl⟩, by show (1000 - ((i : Int) + 1)).toNat < (1000 - (i : Int)).toNat; omega⟩
  · have h3 := of_decide_eq_false h3
    rw [smp_lenI] at h3
    have hn : l.drop i = [] := List.drop_of_length_le (by omega)
    rw [hn] at hf hg
    exact fin (by rw [hO, hg]; rfl) (by rw [hE, hf]; rfl)

end Go.Proofs.Water
