/- The types of the program's code, told by abstract values; The checks of a beach and a ship; tide.Check; The reference's Check; The reference's Check; Small functions of tide and its reference. No condition. -/
import Derived.Test.YtjjolkfcahalkaaChecked
import Derived.Test.YtjjolkfcahalkaaPackVF

namespace Go.Proofs
open Go.V

def Try.tl : List (Nat × TI) := [
  (3, ⟨Go.TypeDesc.int (Go.IntKind.i64), false, 1, 8, [.int .i64 0], false⟩),
  (4, ⟨Go.TypeDesc.bool, false, 1, 1, [.ff], false⟩),
  (5, ⟨Go.TypeDesc.int (Go.IntKind.u8), false, 1, 1, [.int .u8 0], false⟩),
  (21, ⟨Go.TypeDesc.int (Go.IntKind.i32), false, 1, 4, [.int .i32 0], false⟩),
  (23, ⟨TypeDesc.struct #[⟨ "Lo", 3, 0, false, "", "", 0⟩, ⟨ "Hi", 3, 1, false, "", "", 8⟩], true, 2, 16, [.int .i64 0, .int .i64 0], true⟩),
  (24, ⟨Go.TypeDesc.slice 67, false, 1, 24, [.nils], false⟩),
  (26, ⟨TypeDesc.struct #[⟨ "Slope", 23, 0, false, "", "", 0⟩, ⟨ "Marks", 23, 2, false, "", "", 16⟩, ⟨ "Bite", 3, 4, false, "", "", 32⟩, ⟨ "Tides", 24, 5, false, "", "", 40⟩], true, 6, 64, [.int .i64 0, .int .i64 0, .int .i64 0, .int .i64 0, .int .i64 0, .nils], false⟩),
  (28, ⟨TypeDesc.struct #[⟨ "Draft", 23, 0, false, "", "", 0⟩, ⟨ "Sink", 3, 2, false, "", "", 16⟩], true, 3, 24, [.int .i64 0, .int .i64 0, .int .i64 0], false⟩),
  (29, ⟨Go.TypeDesc.array 2 3, true, 2, 16, [.int .i64 0, .int .i64 0], false⟩),
  (30, ⟨Go.TypeDesc.int (Go.IntKind.i64), false, 1, 8, [.int .i64 0], false⟩),
  (35, ⟨Go.TypeDesc.slice 3, false, 1, 24, [.nils], false⟩),
  (45, ⟨TypeDesc.struct #[⟨ "Slope", 3, 0, false, "", "", 0⟩, ⟨ "Draft", 3, 1, false, "", "", 8⟩, ⟨ "Height", 3, 2, false, "", "", 16⟩, ⟨ "Wind", 3, 3, false, "", "", 24⟩], true, 4, 32, [.int .i64 0, .int .i64 0, .int .i64 0, .int .i64 0], true⟩),
  (49, ⟨TypeDesc.struct #[⟨ "Tide", 3, 0, false, "", "", 0⟩, ⟨ "Ballast", 3, 1, false, "", "", 8⟩], true, 2, 16, [.int .i64 0, .int .i64 0], true⟩),
  (50, ⟨Go.TypeDesc.slice 49, false, 1, 24, [.nils], false⟩),
  (52, ⟨TypeDesc.struct #[⟨ "Run", 49, 0, false, "", "", 0⟩, ⟨ "Pulls", 50, 2, false, "", "", 16⟩, ⟨ "Target", 3, 3, false, "", "", 40⟩], true, 4, 48, [.int .i64 0, .int .i64 0, .nils, .int .i64 0], false⟩),
  (59, ⟨Go.TypeDesc.slice 72, false, 1, 24, [.nils], false⟩),
  (61, ⟨TypeDesc.struct #[⟨ "Tide", 5, 0, false, "", "", 0⟩, ⟨ "Ballast", 5, 1, false, "", "", 1⟩, ⟨ "Truth", 59, 2, false, "", "", 8⟩], true, 3, 32, [.int .u8 0, .int .u8 0, .nils], false⟩),
  (67, ⟨TypeDesc.struct #[⟨ "Day", 3, 0, false, "", "", 0⟩, ⟨ "Height", 23, 1, false, "", "", 8⟩, ⟨ "Wind", 23, 3, false, "", "", 24⟩], true, 5, 40, [.int .i64 0, .int .i64 0, .int .i64 0, .int .i64 0, .int .i64 0], false⟩),
  (69, ⟨Go.TypeDesc.array 2 5, true, 2, 2, [.int .u8 0, .int .u8 0], false⟩),
  (72, ⟨Go.TypeDesc.int (Go.IntKind.u16), false, 1, 2, [.int .u16 0], false⟩),
  (73, ⟨Go.TypeDesc.array 4 72, true, 4, 8, [.int .u16 0, .int .u16 0, .int .u16 0, .int .u16 0], false⟩),
  (76, ⟨TypeDesc.struct #[⟨ "Plan", 59, 0, false, "", "", 0⟩, ⟨ "Truth", 59, 1, false, "", "", 24⟩, ⟨ "Target", 21, 2, false, "", "", 48⟩], true, 3, 56, [.nils, .nils, .int .i32 0], false⟩),
  (81, ⟨TypeDesc.struct #[⟨ "Plan", 59, 0, false, "", "", 0⟩, ⟨ "Which", 5, 1, false, "", "", 24⟩, ⟨ "By", 5, 2, false, "", "", 25⟩], true, 3, 32, [.nils, .int .u8 0, .int .u8 0], false⟩),
  (87, ⟨TypeDesc.struct #[⟨ "Span", 23, 0, true, "", "", 0⟩, ⟨ "lo", 3, 2, false, "", "orlop/tide", 16⟩, ⟨ "hi", 3, 3, false, "", "orlop/tide", 24⟩], true, 4, 32, [.int .i64 0, .int .i64 0, .int .i64 0, .int .i64 0], false⟩),
  (92, ⟨Go.TypeDesc.slice 30, false, 1, 24, [.nils], false⟩),
  (96, ⟨TypeDesc.struct #[⟨ "TdBeach", 26, 0, true, "", "", 0⟩, ⟨ "ship", 28, 6, false, "", "orlop/tide", 64⟩], true, 9, 88, [.int .i64 0, .int .i64 0, .int .i64 0, .int .i64 0, .int .i64 0, .nils, .int .i64 0, .int .i64 0, .int .i64 0], false⟩),
  (100, ⟨Go.TypeDesc.array 4 3, true, 4, 32, [.int .i64 0, .int .i64 0, .int .i64 0, .int .i64 0], false⟩),
  (101, ⟨Go.TypeDesc.func #[131] #[] false, false, 1, 8, [.nilf], false⟩),
  (102, ⟨Go.TypeDesc.func #[131] #[] false, false, 1, 8, [.nilf], false⟩),
  (104, ⟨Go.TypeDesc.array 4 23, true, 8, 64, [.int .i64 0, .int .i64 0, .int .i64 0, .int .i64 0, .int .i64 0, .int .i64 0, .int .i64 0, .int .i64 0], false⟩),
  (107, ⟨Go.TypeDesc.func #[100] #[3] false, false, 1, 8, [.nilf], false⟩),
  (112, ⟨TypeDesc.struct #[⟨ "Slope", 23, 0, false, "", "", 0⟩, ⟨ "Draft", 23, 2, false, "", "", 16⟩, ⟨ "Height", 23, 4, false, "", "", 32⟩, ⟨ "Wind", 23, 6, false, "", "", 48⟩], true, 8, 64, [.int .i64 0, .int .i64 0, .int .i64 0, .int .i64 0, .int .i64 0, .int .i64 0, .int .i64 0, .int .i64 0], false⟩),
  (117, ⟨Go.TypeDesc.func #[3] #[4] false, false, 1, 8, [.nilf], false⟩),
  (119, ⟨TypeDesc.struct #[⟨ "beach", 96, 0, true, "", "orlop/tide", 0⟩, ⟨ "tide", 3, 9, false, "", "orlop/tide", 88⟩], true, 10, 96, [.int .i64 0, .int .i64 0, .int .i64 0, .int .i64 0, .int .i64 0, .nils, .int .i64 0, .int .i64 0, .int .i64 0, .int .i64 0], false⟩),
  (126, ⟨Go.TypeDesc.slice 87, false, 1, 24, [.nils], false⟩),
  (128, ⟨Go.TypeDesc.func #[87] #[4] false, false, 1, 8, [.nilf], false⟩),
  (130, ⟨Go.TypeDesc.slice 23, false, 1, 24, [.nils], false⟩),
  (131, ⟨Go.TypeDesc.func #[100] #[4] false, false, 1, 8, [.nilf], false⟩),
  (133, ⟨Go.TypeDesc.func #[49, 3] #[23] false, false, 1, 8, [.nilf], false⟩)
]

def Try.tt : Nat → Option TI := lookT Try.tl

theorem Try.tok : TOK Try.prog Try.tt :=
  (TOK.cons (TIok.of Try.underlying3 rfl (i := Try.t3) (by kernel_rfl) rfl rfl rfl rfl rfl (by kernel_rfl) (by intro h; cases h))
  (TOK.cons (TIok.of Try.underlying4 rfl (i := Try.t4) (by kernel_rfl) rfl rfl rfl rfl rfl (by kernel_rfl) (by intro h; cases h))
  (TOK.cons (TIok.of Try.underlying5 rfl (i := Try.t5) (by kernel_rfl) rfl rfl rfl rfl rfl (by kernel_rfl) (by intro h; cases h))
  (TOK.cons (TIok.of Try.underlying21 rfl (i := Try.t21) (by kernel_rfl) rfl rfl rfl rfl rfl (by kernel_rfl) (by intro h; cases h))
  (TOK.cons (TIok.of Try.underlying23 rfl (i := Try.t23) (by kernel_rfl) rfl rfl rfl rfl rfl (by kernel_rfl) (fun _ => eqs_struct Try.underlying23 Try.stoodInHeld23 Try.eqGuardType23 (by kernel_rfl) rfl))
  (TOK.cons (TIok.of Try.underlying24 rfl (i := Try.t24) (by kernel_rfl) rfl rfl rfl rfl rfl (by kernel_rfl) (by intro h; cases h))
  (TOK.cons (TIok.of Try.underlying26 rfl (i := Try.t26) (by kernel_rfl) rfl rfl rfl rfl rfl (by kernel_rfl) (by intro h; cases h))
  (TOK.cons (TIok.of Try.underlying28 rfl (i := Try.t28) (by kernel_rfl) rfl rfl rfl rfl rfl (by kernel_rfl) (by intro h; cases h))
  (TOK.cons (TIok.of Try.underlying29 rfl (i := Try.t29) (by kernel_rfl) rfl rfl rfl rfl rfl (by kernel_rfl) (by intro h; cases h))
  (TOK.cons (TIok.of Try.underlying30 rfl (i := Try.t30) (by kernel_rfl) rfl rfl rfl rfl rfl (by kernel_rfl) (by intro h; cases h))
  (TOK.cons (TIok.of Try.underlying35 rfl (i := Try.t35) (by kernel_rfl) rfl rfl rfl rfl rfl (by kernel_rfl) (by intro h; cases h))
  (TOK.cons (TIok.of Try.underlying45 rfl (i := Try.t45) (by kernel_rfl) rfl rfl rfl rfl rfl (by kernel_rfl) (fun _ => eqs_struct Try.underlying45 Try.stoodInHeld45 Try.eqGuardType45 (by kernel_rfl) rfl))
  (TOK.cons (TIok.of Try.underlying49 rfl (i := Try.t49) (by kernel_rfl) rfl rfl rfl rfl rfl (by kernel_rfl) (fun _ => eqs_struct Try.underlying49 Try.stoodInHeld49 Try.eqGuardType49 (by kernel_rfl) rfl))
  (TOK.cons (TIok.of Try.underlying50 rfl (i := Try.t50) (by kernel_rfl) rfl rfl rfl rfl rfl (by kernel_rfl) (by intro h; cases h))
  (TOK.cons (TIok.of Try.underlying52 rfl (i := Try.t52) (by kernel_rfl) rfl rfl rfl rfl rfl (by kernel_rfl) (by intro h; cases h))
  (TOK.cons (TIok.of Try.underlying59 rfl (i := Try.t59) (by kernel_rfl) rfl rfl rfl rfl rfl (by kernel_rfl) (by intro h; cases h))
  (TOK.cons (TIok.of Try.underlying61 rfl (i := Try.t61) (by kernel_rfl) rfl rfl rfl rfl rfl (by kernel_rfl) (by intro h; cases h))
  (TOK.cons (TIok.of Try.underlying67 rfl (i := Try.t67) (by kernel_rfl) rfl rfl rfl rfl rfl (by kernel_rfl) (by intro h; cases h))
  (TOK.cons (TIok.of Try.underlying69 rfl (i := Try.t69) (by kernel_rfl) rfl rfl rfl rfl rfl (by kernel_rfl) (by intro h; cases h))
  (TOK.cons (TIok.of Try.underlying72 rfl (i := Try.t72) (by kernel_rfl) rfl rfl rfl rfl rfl (by kernel_rfl) (by intro h; cases h))
  (TOK.cons (TIok.of Try.underlying73 rfl (i := Try.t73) (by kernel_rfl) rfl rfl rfl rfl rfl (by kernel_rfl) (by intro h; cases h))
  (TOK.cons (TIok.of Try.underlying76 rfl (i := Try.t76) (by kernel_rfl) rfl rfl rfl rfl rfl (by kernel_rfl) (by intro h; cases h))
  (TOK.cons (TIok.of Try.underlying81 rfl (i := Try.t81) (by kernel_rfl) rfl rfl rfl rfl rfl (by kernel_rfl) (by intro h; cases h))
  (TOK.cons (TIok.of Try.underlying87 rfl (i := Try.t87) (by kernel_rfl) rfl rfl rfl rfl rfl (by kernel_rfl) (by intro h; cases h))
  (TOK.cons (TIok.of Try.underlying92 rfl (i := Try.t92) (by kernel_rfl) rfl rfl rfl rfl rfl (by kernel_rfl) (by intro h; cases h))
  (TOK.cons (TIok.of Try.underlying96 rfl (i := Try.t96) (by kernel_rfl) rfl rfl rfl rfl rfl (by kernel_rfl) (by intro h; cases h))
  (TOK.cons (TIok.of Try.underlying100 rfl (i := Try.t100) (by kernel_rfl) rfl rfl rfl rfl rfl (by kernel_rfl) (by intro h; cases h))
  (TOK.cons (TIok.of Try.underlying101 rfl (i := Try.t101) (by kernel_rfl) rfl rfl rfl rfl rfl (by kernel_rfl) (by intro h; cases h))
  (TOK.cons (TIok.of Try.underlying102 rfl (i := Try.t102) (by kernel_rfl) rfl rfl rfl rfl rfl (by kernel_rfl) (by intro h; cases h))
  (TOK.cons (TIok.of Try.underlying104 rfl (i := Try.t104) (by kernel_rfl) rfl rfl rfl rfl rfl (by kernel_rfl) (by intro h; cases h))
  (TOK.cons (TIok.of Try.underlying107 rfl (i := Try.t107) (by kernel_rfl) rfl rfl rfl rfl rfl (by kernel_rfl) (by intro h; cases h))
  (TOK.cons (TIok.of Try.underlying112 rfl (i := Try.t112) (by kernel_rfl) rfl rfl rfl rfl rfl (by kernel_rfl) (by intro h; cases h))
  (TOK.cons (TIok.of Try.underlying117 rfl (i := Try.t117) (by kernel_rfl) rfl rfl rfl rfl rfl (by kernel_rfl) (by intro h; cases h))
  (TOK.cons (TIok.of Try.underlying119 rfl (i := Try.t119) (by kernel_rfl) rfl rfl rfl rfl rfl (by kernel_rfl) (by intro h; cases h))
  (TOK.cons (TIok.of Try.underlying126 rfl (i := Try.t126) (by kernel_rfl) rfl rfl rfl rfl rfl (by kernel_rfl) (by intro h; cases h))
  (TOK.cons (TIok.of Try.underlying128 rfl (i := Try.t128) (by kernel_rfl) rfl rfl rfl rfl rfl (by kernel_rfl) (by intro h; cases h))
  (TOK.cons (TIok.of Try.underlying130 rfl (i := Try.t130) (by kernel_rfl) rfl rfl rfl rfl rfl (by kernel_rfl) (by intro h; cases h))
  (TOK.cons (TIok.of Try.underlying131 rfl (i := Try.t131) (by kernel_rfl) rfl rfl rfl rfl rfl (by kernel_rfl) (by intro h; cases h))
  (TOK.cons (TIok.of Try.underlying133 rfl (i := Try.t133) (by kernel_rfl) rfl rfl rfl rfl rfl (by kernel_rfl) (by intro h; cases h))
  TOK.nil)))))))))))))))))))))))))))))))))))))))

theorem Try.mixed : Try.prog.follows .mixedOrders = true := by kernel_rfl

end Go.Proofs

namespace Go.Proofs.Tide
open Go.V Go.Proofs

abbrev DN := Den Try.prog
abbrev IT := IterDen Try.prog

theorem mk {f : FuncId} {fn : Func} (hf : Try.prog.funcs[f]? = some fn) (he : Enters Try.prog f) (hb : bodyOK fn = true) {args : List D} {d : D} (hn : Nat.ble args.length fn.ntmps = true) (h : Body Try.tt DN IT fn args d) : DN f args d :=
  den_of Try.tok Try.mixed hf he hb hn h

structure Bd where
  lo : Int
  hi : Int
  l : Int
  h : Int

def Bd.enc (b : Bd) : List D := [.int .i64 b.lo, .int .i64 b.hi, .int .i64 b.l, .int .i64 b.h]

def Bd.out (b : Bd) : Bool := decide (min b.lo b.hi < b.l) || decide (max b.lo b.hi > b.h)
def Bd.bad (b : Bd) : Bool := decide (b.lo > b.hi)

theorem den72 (b : Bd) : DN 72 [.agg b.enc] (.bool b.out) := by
  refine mk Try.func72 Try.call72 rfl rfl ?_
  refine ⟨fun h1 => ?_, fun h1 => ?_⟩
  · show some (D.bool _) = some (D.bool _)
    simp [Bd.out, h1]
  · show some (D.bool _) = some (D.bool _)
    simp [Bd.out, h1]

theorem den73 (b : Bd) : DN 73 [.agg b.enc] (.bool b.bad) := by
  refine mk Try.func73 Try.call73 rfl rfl ?_
  rfl

def findI (p : Bd → Bool) : List Bd → Int → Int
  | [], _ => -1
  | b :: r, i => match p b with | true => i | false => findI p r (i + 1)

theorem den82 {k : Nat} {p : Bd → Bool} (bs : List Bd) (hp : ∀ b ∈ bs, DN k [.agg b.enc] (.bool (p b))) (hl : bs.length < 1000) : DN 82 [.list 4 (bs.map Bd.enc), .clo (.func k) [] []] (.int .i64 (findI p bs 0)) := by
  refine mk Try.func82 Try.call82 rfl rfl ?_
  refine ⟨[0, 1, 7, 8], 0, [], fun σ => ∃ i : Nat, i ≤ bs.length ∧ findI p bs 0 = findI p (bs.drop i) i ∧ σ = ⟨[(0, .list 4 (bs.map Bd.enc)), (1, .clo (.func k) [] []), (7, .int .i64 (bs.map Bd.enc).length), (8, .int .i64 i)], [], .non⟩, fun σ => (1000 - slotI 8 σ).toNat, rfl, ⟨rfl, rfl⟩, ⟨0, Nat.zero_le _, rfl, rfl⟩, ?_⟩
  rintro σ ⟨i, hi, hf, rfl⟩
  refine ⟨fun h1 => ?_, fun h1 => ?_⟩
  · have h1 := of_decide_eq_true h1
    rw [List.length_map] at h1
    have hi' : i < bs.length := by omega
    have hrow : (bs.map Bd.enc)[((i : Int)).toNat]? = some (bs[i].enc) := by simp [hi']
    have hdrop : bs.drop i = bs[i] :: bs.drop (i + 1) := List.drop_eq_getElem_cons hi'
    refine ⟨by omega, _, hrow, ?_⟩
    refine ⟨_, rfl, _, hp bs[i] (List.getElem_mem hi'), ?_⟩
    refine ⟨fun h2 => ?_, fun h2 => ?_⟩
    · show some (D.int .i64 (i : Int)) = some (D.int .i64 (findI p bs 0))
      rw [hf, hdrop, findI, h2]
    · refine ⟨_, wrap64 (by omega) (by omega), ?_⟩
      refine ⟨⟨rfl, rfl⟩, ⟨i + 1, hi', ?_, rfl⟩, ?_⟩
      · rw [hf, hdrop, findI, h2]; rfl
      · show (1000 - ((i : Int) + 1)).toNat < (1000 - (i : Int)).toNat
        omega
  · have h1 := of_decide_eq_false h1
    rw [List.length_map] at h1
    show some (D.int .i64 (-1)) = some (D.int .i64 (findI p bs 0))
    rw [hf, List.drop_of_length_le (by omega)]
    rfl

theorem findI_any (p : Bd → Bool) : ∀ (bs : List Bd) (i : Int), 0 ≤ i → (decide (findI p bs i ≥ 0)) = bs.any p
  | [], i, _ => rfl
  | b :: r, i, hi => by
    cases hb : p b with
    | true => simp [findI, hb, hi]
    | false =>
      have := findI_any p r (i + 1) (by omega)
      simp only [findI, hb, List.any_cons, Bool.false_or]
      exact this

theorem den71 {k : Nat} {p : Bd → Bool} (bs : List Bd) (hp : ∀ b ∈ bs, DN k [.agg b.enc] (.bool (p b))) (hl : bs.length < 1000) : DN 71 [.list 4 (bs.map Bd.enc), .clo (.func k) [] []] (.bool (bs.any p)) := by
  refine mk Try.func71 Try.call71 rfl rfl ?_
  refine ⟨_, rfl, _, den82 bs hp hl, ?_⟩
  show some (D.bool _) = some (D.bool _)
  rw [← findI_any p bs 0 (Int.le_refl 0)]

/-- The error of some spans: 7 is ErrRange, 2 is ErrArg. -/
def strangeE (bs : List Bd) : Int := match bs.any Bd.out with | true => 7 | false => match bs.any Bd.bad with | true => 2 | false => 0

theorem den45 (bs : List Bd) (hl : bs.length < 1000) : DN 45 [.list 4 (bs.map Bd.enc)] (.int .i64 (strangeE bs)) := by
  refine mk Try.func45 Try.call45 rfl rfl ?_
  refine ⟨_, rfl, _, den71 bs (fun b _ => den72 b) hl, ?_⟩
  refine ⟨fun h1 => ?_, fun h1 => ?_⟩
  · show some (D.int .i64 7) = some (D.int .i64 (strangeE bs))
    unfold strangeE; rw [h1]
  · refine ⟨_, rfl, _, den71 bs (fun b _ => den73 b) hl, ?_⟩
    refine ⟨fun h2 => ?_, fun h2 => ?_⟩
    · show some (D.int .i64 2) = some (D.int .i64 (strangeE bs))
      unfold strangeE; rw [h1, h2]
    · show some (D.int .i64 0) = some (D.int .i64 (strangeE bs))
      unfold strangeE; rw [h1, h2]

theorem den46 (n : Int) : DN 46 [.int .i64 n] (.agg [.int .i64 n, .int .i64 n]) := mk Try.func46 Try.call46 rfl rfl rfl

end Go.Proofs.Tide

namespace Go.Proofs.Tide
open Go.V Go.Proofs

structure Sp where
  lo : Int
  hi : Int
structure Ti where
  day : Int
  height : Sp
  wind : Sp
structure Be where
  slope : Sp
  marks : Sp
  bite : Int
  tides : List Ti
structure Sh where
  draft : Sp
  sink : Int

def Sp.enc (s : Sp) : List D := [.int .i64 s.lo, .int .i64 s.hi]
def Ti.enc (t : Ti) : List D := [.int .i64 t.day, .int .i64 t.height.lo, .int .i64 t.height.hi, .int .i64 t.wind.lo, .int .i64 t.wind.hi]
def Be.enc (b : Be) : List D := [.int .i64 b.slope.lo, .int .i64 b.slope.hi, .int .i64 b.marks.lo, .int .i64 b.marks.hi, .int .i64 b.bite, .list 5 (b.tides.map Ti.enc)]
def Sh.enc (s : Sh) : List D := [.int .i64 s.draft.lo, .int .i64 s.draft.hi, .int .i64 s.sink]

def Sp.bd (s : Sp) (l h : Int) : Bd := ⟨s.lo, s.hi, l, h⟩

def err1 (b : Be) : Int := strangeE [b.slope.bd 1 200, b.marks.bd (-2000000) 2000000, ⟨b.bite, b.bite, 0, 200⟩]
def err3 (s : Sh) : Int := strangeE [s.draft.bd 0 1500, ⟨s.sink, s.sink, 0, 50⟩]
def errT (t : Ti) : Int := strangeE [⟨t.day, t.day, 0, 40000⟩, t.height.bd 0 1500, t.wind.bd (-200) 200]
def dayAt (l : List Ti) (i : Nat) : Int := match l[i]? with | some t => t.day | none => 0
/-- The error of the i-th tide. -/
def errAt (l : List Ti) (i : Nat) : Int :=
  match l[i]? with
  | none => 0
  | some t => if errT t = 0 then (if 0 < i ∧ t.day < dayAt l (i - 1) then 2 else 0) else errT t
def badFrom (l : List Ti) : Nat → Nat → Option (Nat × Int)
  | 0, _ => none
  | n + 1, i => if errAt l i = 0 then badFrom l n (i + 1) else some (i, errAt l i)
/-- What Check returns. -/
def checkR (b : Be) (s : Sh) : Int × Int × Int :=
  if err1 b ≠ 0 then (1, 0, err1 b)
  else if (b.tides.length : Int) < 1 ∨ (b.tides.length : Int) > 12 then (2, 0, 3)
  else match badFrom b.tides b.tides.length 0 with
    | some (i, e) => (2, i, e)
    | none => if err3 s ≠ 0 then (3, 0, err3 s) else (0, 0, 0)
def trip (x : Int × Int × Int) : D := .tup [.int .i64 x.1, .int .i64 x.2.1, .int .i64 x.2.2]

theorem badFrom_step {l : List Ti} {i : Nat} (hi : i < l.length) : badFrom l (l.length - i) i = if errAt l i = 0 then badFrom l (l.length - (i + 1)) (i + 1) else some (i, errAt l i) := by
  rw [show l.length - i = (l.length - (i + 1)) + 1 by omega]
  rfl

theorem den16 (b : Be) (s : Sh) : DN 16 [.agg b.enc, .agg s.enc] (trip (checkR b s)) := by
  refine mk Try.func16 Try.call16 rfl rfl ?_
  refine Or.inl ⟨by kernel_rfl, ?_⟩
  refine ⟨_, rfl, _, den46 _, ?_⟩
  refine ⟨_, rfl, _, den45 [b.slope.bd 1 200, b.marks.bd (-2000000) 2000000, ⟨b.bite, b.bite, 0, 200⟩] (by simp), ?_⟩
  refine ⟨fun h1 => ?_, fun h1 => ?_⟩
  · show some (trip (1, 0, err1 b)) = some (trip _)
    have h1 : (err1 b != 0) = true := h1
    have h1 : err1 b ≠ 0 := by simpa using h1
    unfold checkR; rw [if_pos h1]
  have h1 : ¬ err1 b ≠ 0 := by
    have : (err1 b != 0) = false := h1
    simpa using this
  refine ⟨fun h2 => ?_, fun h2 => ?_⟩
  · have h2 := of_decide_eq_true h2
    rw [List.length_map] at h2
    show some (trip (2, 0, 3)) = some (trip _)
    unfold checkR; rw [if_neg h1, if_pos (.inl h2)]
  have h2 := of_decide_eq_false h2
  rw [List.length_map] at h2
  refine ⟨fun h3 => ?_, fun h3 => ?_⟩
  · have h3 := of_decide_eq_true h3
    rw [List.length_map] at h3
    show some (trip (2, 0, 3)) = some (trip _)
    unfold checkR; rw [if_neg h1, if_pos (.inr h3)]
  have h3 := of_decide_eq_false h3
  rw [List.length_map] at h3
  have h23 : ¬ ((b.tides.length : Int) < 1 ∨ (b.tides.length : Int) > 12) := fun h => h.elim h2 h3
  refine ⟨[2, 3, 35, 36, 37], 2, [], fun σ => ∃ i : Nat, i ≤ b.tides.length ∧ badFrom b.tides b.tides.length 0 = badFrom b.tides (b.tides.length - i) i ∧
    σ = ⟨[(2, .loc 0 0), (3, .loc 1 0), (35, .list 5 (b.tides.map Ti.enc)), (36, .int .i64 (b.tides.map Ti.enc).length), (37, .int .i64 i)], [.flat false b.enc, .flat false s.enc], .non⟩, fun σ => (1000 - slotI 37 σ).toNat, rfl, ⟨rfl, rfl⟩, ⟨0, Nat.zero_le _, rfl, rfl⟩, ?_⟩
  rintro σ ⟨i, hi, hf, rfl⟩
  refine ⟨fun h4 => ?_, fun h4 => ?_⟩
  · have h4 := of_decide_eq_true h4
    rw [List.length_map] at h4
    have hi' : i < b.tides.length := by omega
    have hrow : (b.tides.map Ti.enc)[((i : Int)).toNat]? = some (b.tides[i].enc) := by simp [hi']
    rw [badFrom_step hi'] at hf
    refine ⟨by omega, _, hrow, ?_⟩
    refine Or.inl ⟨by kernel_rfl, ?_⟩
    refine ⟨_, rfl, _, den46 _, ?_⟩
    refine ⟨_, rfl, _, den45 [⟨b.tides[i].day, b.tides[i].day, 0, 40000⟩, b.tides[i].height.bd 0 1500, b.tides[i].wind.bd (-200) 200] (by simp), ?_⟩
    refine Or.inl ⟨by kernel_rfl, ?_⟩
    have hat : b.tides[i]? = some b.tides[i] := List.getElem?_eq_getElem hi'
    -- how a round ends
    have fin0 : errAt b.tides i = 0 → ∃ j : Nat, j ≤ b.tides.length ∧ badFrom b.tides b.tides.length 0 = badFrom b.tides (b.tides.length - j) j ∧ j = i + 1 := fun h => ⟨i + 1, hi', by rw [hf, if_pos h], rfl⟩
    have finE : errAt b.tides i ≠ 0 → checkR b s = (2, (i : Int), errAt b.tides i) := fun h => by
      unfold checkR; rw [if_neg h1, if_neg h23, hf, if_neg h]
    refine ⟨fun h5 => ?_, fun h5 => ?_⟩
    · have h5 : (errT b.tides[i] == 0) = true := h5
      have h5 : errT b.tides[i] = 0 := by simpa using h5
      refine ⟨fun h6 => ?_, fun h6 => ?_⟩
      · have h6 := of_decide_eq_true h6
        have hi0 : 0 < i := by omega
        have hi1 : i - 1 < b.tides.length := by omega
        have hrow1 : (b.tides.map Ti.enc)[((i : Int) - 1).toNat]? = some (b.tides[i - 1].enc) := by
          rw [show ((i : Int) - 1).toNat = i - 1 by omega]; simp [hi1]
        refine ⟨_, wrap64 (by omega) (by omega), ?_⟩
        refine ⟨by omega, _, hrow1, ?_⟩
        have hday : dayAt b.tides (i - 1) = b.tides[i - 1].day := by simp [dayAt, hi1]
        refine ⟨fun h7 => ?_, fun h7 => ?_⟩
        · have h7 := of_decide_eq_true h7
          have he : errAt b.tides i = 2 := by
            unfold errAt; rw [hat]; simp only; rw [if_pos h5, if_pos ⟨hi0, by rw [hday]; exact h7⟩]
          refine ⟨fun _ => ?_, fun h8 => ?_⟩
          · show some (trip (2, i, 2)) = some (trip _)
            rw [finE (by rw [he]; decide), he]
          · exact absurd h8 (by decide)
        · have h7 := of_decide_eq_false h7
          have he : errAt b.tides i = 0 := by
            unfold errAt; rw [hat]; simp only; rw [if_pos h5, if_neg (fun h => h7 (by rw [← hday]; exact h.2))]
          refine ⟨fun h8 => ?_, fun _ => ?_⟩
          · have h8 : (errT b.tides[i] != 0) = true := h8
            rw [h5] at h8; exact absurd h8 (by decide)
          refine ⟨_, wrap64 (by omega) (by omega), ?_⟩
          obtain ⟨j, hj, hfj, rfl⟩ := fin0 he
          refine ⟨⟨rfl, rfl⟩, ⟨i + 1, hj, hfj, rfl⟩, ?_⟩
          show (1000 - ((i : Int) + 1)).toNat < (1000 - (i : Int)).toNat
          omega
      · have h6 := of_decide_eq_false h6
        have he : errAt b.tides i = 0 := by
          unfold errAt; rw [hat]; simp only; rw [if_pos h5, if_neg (fun h => h6 (by omega))]
        refine ⟨fun h8 => ?_, fun _ => ?_⟩
        · have h8 : (errT b.tides[i] != 0) = true := h8
          rw [h5] at h8; exact absurd h8 (by decide)
        refine ⟨_, wrap64 (by omega) (by omega), ?_⟩
        obtain ⟨j, hj, hfj, rfl⟩ := fin0 he
        refine ⟨⟨rfl, rfl⟩, ⟨i + 1, hj, hfj, rfl⟩, ?_⟩
        show (1000 - ((i : Int) + 1)).toNat < (1000 - (i : Int)).toNat
        omega
    · have h5 : (errT b.tides[i] == 0) = false := h5
      have h5 : errT b.tides[i] ≠ 0 := by simpa using h5
      have he : errAt b.tides i = errT b.tides[i] := by
        unfold errAt; rw [hat]; simp only; rw [if_neg h5]
      refine ⟨fun _ => ?_, fun h8 => ?_⟩
      · show some (trip (2, i, errT b.tides[i])) = some (trip _)
        rw [finE (by rw [he]; exact h5), he]
      · have h8 : (errT b.tides[i] != 0) = false := h8
        exact absurd (by simpa using h8) h5
  · have h4 := of_decide_eq_false h4
    rw [List.length_map] at h4
    have hil : i = b.tides.length := by omega
    subst hil
    have hnone : badFrom b.tides b.tides.length 0 = none := by rw [hf, Nat.sub_self]; rfl
    refine Or.inl ⟨by kernel_rfl, ?_⟩
    refine ⟨_, rfl, _, den46 _, ?_⟩
    refine ⟨_, rfl, _, den45 [s.draft.bd 0 1500, ⟨s.sink, s.sink, 0, 50⟩] (by simp), ?_⟩
    refine ⟨fun h5 => ?_, fun h5 => ?_⟩
    · have h5 : (err3 s != 0) = true := h5
      have h5 : err3 s ≠ 0 := by simpa using h5
      show some (trip (3, 0, err3 s)) = some (trip _)
      unfold checkR; rw [if_neg h1, if_neg h23, hnone]; simp only; rw [if_pos h5]
    · have h5 : (err3 s != 0) = false := h5
      have h5 : ¬ err3 s ≠ 0 := by simpa using h5
      show some (trip (0, 0, 0)) = some (trip _)
      unfold checkR; rw [if_neg h1, if_neg h23, hnone]; simp only; rw [if_neg h5]

end Go.Proofs.Tide

namespace Go.Proofs.Tide
open Go.V Go.Proofs

theorem den83 (n l h : Int) : DN 83 [.int .i64 n, .int .i64 l, .int .i64 h] (.bool (decide (l ≤ n) && decide (n ≤ h))) := by
  refine mk Try.func83 Try.call83 rfl rfl ?_
  refine ⟨fun h1 => ?_, fun h1 => ?_⟩
  · show some (D.bool _) = some (D.bool _)
    rw [h1]; rfl
  · show some (D.bool _) = some (D.bool _)
    rw [h1]; rfl

theorem den50 (n l h : Int) : DN 50 [.int .i64 n, .int .i64 l, .int .i64 h] (.bool (decide (n ≥ l) && decide (n ≤ h))) := by
  refine mk Try.func50 Try.call50 rfl rfl ?_
  refine ⟨fun h1 => ?_, fun h1 => ?_⟩
  · show some (D.bool _) = some (D.bool _)
    rw [h1]; rfl
  · show some (D.bool _) = some (D.bool _)
    rw [h1]; rfl

/-- The error of one span. -/
def bdE (b : Bd) : Int := match b.out with | true => 7 | false => match b.bad with | true => 2 | false => 0

theorem den49 (n l h : Int) : DN 49 [.int .i64 n, .int .i64 l, .int .i64 h] (.int .i64 (bdE ⟨n, n, l, h⟩)) := by
  refine mk Try.func49 Try.call49 rfl rfl ?_
  refine ⟨_, rfl, _, den50 n l h, ?_⟩
  have e : (⟨n, n, l, h⟩ : Bd).out = !(decide (n ≥ l) && decide (n ≤ h)) := by
    unfold Bd.out
    rw [Bool.eq_iff_iff]
    simp
  refine ⟨fun h1 => ?_, fun h1 => ?_⟩
  · show some (D.int .i64 7) = some (D.int .i64 _)
    unfold bdE
    rw [e, h1]
  · show some (D.int .i64 0) = some (D.int .i64 _)
    unfold bdE
    rw [e, h1]
    simp [Bd.bad]

theorem den74 (b : Bd) : DN 74 [.list 2 [[.int .i64 b.lo, .int .i64 b.hi]], .int .i64 b.l, .int .i64 b.h] (.int .i64 (bdE b)) := by
  refine mk Try.func74 Try.call74 rfl rfl ?_
  have e : b.out = (!(decide (b.l ≤ b.lo) && decide (b.lo ≤ b.h)) || !(decide (b.l ≤ b.hi) && decide (b.hi ≤ b.h))) := by
    unfold Bd.out
    rw [Bool.eq_iff_iff]
    simp
    omega
  refine ⟨[0, 1, 2, 7, 8], 0, [], fun σ => (σ = ⟨[(0, .list 2 [[.int .i64 b.lo, .int .i64 b.hi]]), (1, .int .i64 b.l), (2, .int .i64 b.h), (7, .ff), (8, .int .i64 0)], [], .non⟩) ∨
    (b.out = false ∧ σ = ⟨[(0, .list 2 [[.int .i64 b.lo, .int .i64 b.hi]]), (1, .int .i64 b.l), (2, .int .i64 b.h), (7, .bool b.bad), (8, .int .i64 1)], [], .non⟩), fun σ => (1 - slotI 8 σ).toNat, rfl, ⟨rfl, rfl⟩, .inl rfl, ?_⟩
  rintro σ (rfl | ⟨ho, rfl⟩)
  · refine ⟨fun _ => ?_, fun h1 => absurd (show true = false from h1) (by decide)⟩
    refine ⟨by decide, _, rfl, ?_⟩
    refine ⟨_, rfl, _, den83 _ _ _, ?_⟩
    refine ⟨fun h1 => ?_, fun h1 => ?_⟩
    · show some (D.int .i64 7) = some (D.int .i64 _)
      unfold bdE; rw [e, h1]; rfl
    refine ⟨by decide, _, rfl, ?_⟩
    refine ⟨_, rfl, _, den83 _ _ _, ?_⟩
    refine ⟨fun h2 => ?_, fun h2 => ?_⟩
    · show some (D.int .i64 7) = some (D.int .i64 _)
      unfold bdE; rw [e, h1, h2]; rfl
    refine Or.inl ⟨by kernel_rfl, ?_⟩
    refine ⟨by decide, _, rfl, ?_⟩
    refine ⟨by decide, _, rfl, ?_⟩
    refine ⟨_, wrap64 (by decide) (by decide), ?_⟩
    refine ⟨⟨rfl, rfl⟩, .inr ⟨by rw [e, h1, h2]; rfl, rfl⟩, ?_⟩
    show (1 - 1 : Int).toNat < (1 - 0 : Int).toNat
    decide
  · refine ⟨fun h1 => absurd (show false = true from h1) (by decide), fun _ => ?_⟩
    refine ⟨fun h1 => ?_, fun h1 => ?_⟩
    · show some (D.int .i64 2) = some (D.int .i64 _)
      unfold bdE; rw [ho, h1]
    · show some (D.int .i64 0) = some (D.int .i64 _)
      unfold bdE; rw [ho, h1]

theorem den48 (b : Bd) : DN 48 [.agg [.int .i64 b.lo, .int .i64 b.hi], .int .i64 b.l, .int .i64 b.h] (.int .i64 (bdE b)) := by
  refine mk Try.func48 Try.call48 rfl rfl ?_
  refine ⟨_, rfl, _, den74 b, ?_⟩
  rfl

/-- ErrRange if one is, else ErrArg if one is. -/
def worstF : List Int → Int → Int
  | [], out => out
  | e :: r, out => worstF r (if e = 7 ∨ (e = 2 ∧ out = 0) then e else out)

theorem den47 (es : List Int) (hl : es.length < 1000) : DN 47 [.list 1 (es.map fun e => [D.int .i64 e])] (.int .i64 (worstF es 0)) := by
  refine mk Try.func47 Try.call47 rfl rfl ?_
  refine ⟨[0, 3, 4], 0, [], fun σ => ∃ (i : Nat) (out : Int), i ≤ es.length ∧ worstF es 0 = worstF (es.drop i) out ∧ σ = ⟨[(0, .list 1 (es.map fun e => [D.int .i64 e])), (3, .int .i64 out), (4, .int .i64 i)], [], .non⟩, fun σ => (1000 - slotI 4 σ).toNat, rfl, ⟨rfl, rfl⟩, ⟨0, 0, Nat.zero_le _, rfl, rfl⟩, ?_⟩
  rintro σ ⟨i, out, hi, hf, rfl⟩
  refine ⟨fun h1 => ?_, fun h1 => ?_⟩
  · have h1 := of_decide_eq_true h1
    rw [List.length_map] at h1
    have hi' : i < es.length := by omega
    have hrow : (es.map fun e => [D.int .i64 e])[((i : Int)).toNat]? = some [D.int .i64 es[i]] := by simp [hi']
    have hdrop : es.drop i = es[i] :: es.drop (i + 1) := List.drop_eq_getElem_cons hi'
    rw [hdrop, worstF] at hf
    refine ⟨by omega, _, hrow, ?_⟩
    refine ⟨fun h2 => ?_, fun h2 => ?_⟩
    · have h2 : es[i] = 7 := by simpa using h2
      rw [if_pos (.inl h2)] at hf
      refine ⟨by omega, _, hrow, ?_⟩
      refine ⟨_, wrap64 (by omega) (by omega), ?_⟩
      refine ⟨⟨rfl, rfl⟩, ⟨i + 1, es[i], hi', hf, rfl⟩, ?_⟩
      show (1000 - ((i : Int) + 1)).toNat < (1000 - (i : Int)).toNat
      omega
    have h2 : es[i] ≠ 7 := by simpa using h2
    refine ⟨by omega, _, hrow, ?_⟩
    refine ⟨fun h3 => ?_, fun h3 => ?_⟩
    · have h3 : es[i] = 2 := by simpa using h3
      refine ⟨fun h4 => ?_, fun h4 => ?_⟩
      · have h4 : out = 0 := by simpa using h4
        rw [if_pos (.inr ⟨h3, h4⟩)] at hf
        refine ⟨by omega, _, hrow, ?_⟩
        refine ⟨_, wrap64 (by omega) (by omega), ?_⟩
        refine ⟨⟨rfl, rfl⟩, ⟨i + 1, es[i], hi', hf, rfl⟩, ?_⟩
        show (1000 - ((i : Int) + 1)).toNat < (1000 - (i : Int)).toNat
        omega
      · have h4 : out ≠ 0 := by simpa using h4
        rw [if_neg (by rintro (h | h); exact h2 h; exact h4 h.2)] at hf
        refine ⟨_, wrap64 (by omega) (by omega), ?_⟩
        refine ⟨⟨rfl, rfl⟩, ⟨i + 1, out, hi', hf, rfl⟩, ?_⟩
        show (1000 - ((i : Int) + 1)).toNat < (1000 - (i : Int)).toNat
        omega
    · have h3 : es[i] ≠ 2 := by simpa using h3
      rw [if_neg (by rintro (h | h); exact h2 h; exact h3 h.1)] at hf
      refine ⟨_, wrap64 (by omega) (by omega), ?_⟩
      refine ⟨⟨rfl, rfl⟩, ⟨i + 1, out, hi', hf, rfl⟩, ?_⟩
      show (1000 - ((i : Int) + 1)).toNat < (1000 - (i : Int)).toNat
      omega
  · have h1 := of_decide_eq_false h1
    rw [List.length_map] at h1
    show some (D.int .i64 out) = some (D.int .i64 (worstF es 0))
    rw [hf, List.drop_of_length_le (by omega)]
    rfl

theorem bdE_cases (b : Bd) : bdE b = 7 ∧ b.out = true ∨ bdE b = 2 ∧ b.out = false ∧ b.bad = true ∨ bdE b = 0 ∧ b.out = false ∧ b.bad = false := by
  unfold bdE
  cases b.out <;> cases b.bad <;> simp

theorem worst_strange (bs : List Bd) : worstF (bs.map bdE) 0 = strangeE bs := by
  have main : ∀ (bs : List Bd) (out : Int), (out = 0 ∨ out = 2 ∨ out = 7) → worstF (bs.map bdE) out = (match bs.any Bd.out with | true => 7 | false => if out = 0 then (match bs.any Bd.bad with | true => 2 | false => 0) else out) := by
    intro bs
    induction bs with
    | nil => intro out ho; rcases ho with rfl | rfl | rfl <;> rfl
    | cons b r ih =>
      intro out ho
      simp only [List.map_cons, worstF, List.any_cons]
      rcases bdE_cases b with ⟨h1, h2⟩ | ⟨h1, h2, h3⟩ | ⟨h1, h2, h3⟩
      · rw [h1, h2, if_pos (.inl rfl), ih 7 (by omega)]
        cases r.any Bd.out <;> simp
      · rw [h1, h2, h3]
        rcases ho with rfl | rfl | rfl
        · rw [if_pos (.inr ⟨rfl, rfl⟩), ih 2 (by omega)]; cases r.any Bd.out <;> simp
        · rw [if_neg (by omega), ih 2 (by omega)]; simp
        · rw [if_neg (by omega), ih 7 (by omega)]; simp
      · rw [h1, h2, h3, if_neg (by omega), ih out ho]; simp
  rw [main bs 0 (by omega)]
  rfl

end Go.Proofs.Tide

namespace Go.Proofs.Tide
open Go.V Go.Proofs

theorem den47' (bs : List Bd) (hl : bs.length < 1000) : DN 47 [.list 1 (bs.map fun b => [D.int .i64 (bdE b)])] (.int .i64 (strangeE bs)) := by
  have := den47 (bs.map bdE) (by simpa using hl)
  rw [worst_strange] at this
  rw [List.map_map] at this
  exact this

theorem den51 (l : List Ti) (i : Nat) (hi' : i < l.length) (hl : l.length < 1000) : DN 51 [.list 5 (l.map Ti.enc), .int .i64 i] (.int .i64 (errAt l i)) := by
  refine mk Try.func51 Try.call51 rfl rfl ?_
  have hrow : (l.map Ti.enc)[((i : Int)).toNat]? = some (l[i].enc) := by simp [hi']
  have hat : l[i]? = some l[i] := List.getElem?_eq_getElem hi'
  refine Or.inl ⟨by kernel_rfl, ?_⟩
  refine ⟨by omega, _, hrow, ?_⟩
  refine ⟨_, rfl, _, den49 _ _ _, ?_⟩
  refine ⟨by omega, _, hrow, ?_⟩
  refine ⟨_, rfl, _, den48 (l[i].height.bd 0 1500), ?_⟩
  refine ⟨by omega, _, hrow, ?_⟩
  refine ⟨_, rfl, _, den48 (l[i].wind.bd (-200) 200), ?_⟩
  refine ⟨_, rfl, _, den47' [⟨l[i].day, l[i].day, 0, 40000⟩, l[i].height.bd 0 1500, l[i].wind.bd (-200) 200] (by simp), ?_⟩
  refine Or.inl ⟨by kernel_rfl, ?_⟩
  refine ⟨fun h5 => ?_, fun h5 => ?_⟩
  · have h5 : (errT l[i] == 0) = true := h5
    have h5 : errT l[i] = 0 := by simpa using h5
    refine ⟨fun h6 => ?_, fun h6 => ?_⟩
    · have h6 := of_decide_eq_true h6
      have hi0 : 0 < i := by omega
      have hi1 : i - 1 < l.length := by omega
      have hrow1 : (l.map Ti.enc)[((i : Int) - 1).toNat]? = some (l[i - 1].enc) := by
        rw [show ((i : Int) - 1).toNat = i - 1 by omega]; simp [hi1]
      refine ⟨by omega, _, hrow, ?_⟩
      refine ⟨_, wrap64 (by omega) (by omega), ?_⟩
      refine ⟨by omega, _, hrow1, ?_⟩
      have hday : dayAt l (i - 1) = l[i - 1].day := by simp [dayAt, hi1]
      refine ⟨fun h7 => ?_, fun h7 => ?_⟩
      · have h7 := of_decide_eq_true h7
        show some (D.int .i64 2) = some (D.int .i64 _)
        unfold errAt; rw [hat]; simp only; rw [if_pos h5, if_pos ⟨hi0, by rw [hday]; exact h7⟩]
      · have h7 := of_decide_eq_false h7
        show some (D.int .i64 (errT l[i])) = some (D.int .i64 _)
        unfold errAt; rw [hat]; simp only; rw [if_pos h5, if_neg (fun h => h7 (by rw [← hday]; exact h.2)), h5]
    · have h6 := of_decide_eq_false h6
      show some (D.int .i64 (errT l[i])) = some (D.int .i64 _)
      unfold errAt; rw [hat]; simp only; rw [if_pos h5, if_neg (fun h => h6 (by omega)), h5]
  · have h5 : (errT l[i] == 0) = false := h5
    have h5 : errT l[i] ≠ 0 := by simpa using h5
    show some (D.int .i64 (errT l[i])) = some (D.int .i64 _)
    unfold errAt; rw [hat]; simp only; rw [if_neg h5]

theorem den17 (b : Be) (s : Sh) : DN 17 [.agg b.enc, .agg s.enc] (trip (checkR b s)) := by
  refine mk Try.func17 Try.call17 rfl rfl ?_
  refine Or.inl ⟨by kernel_rfl, ?_⟩
  refine ⟨_, rfl, _, den48 (b.slope.bd 1 200), ?_⟩
  refine ⟨_, rfl, _, den48 (b.marks.bd (-2000000) 2000000), ?_⟩
  refine ⟨_, rfl, _, den49 _ _ _, ?_⟩
  refine ⟨_, rfl, _, den47' [b.slope.bd 1 200, b.marks.bd (-2000000) 2000000, ⟨b.bite, b.bite, 0, 200⟩] (by simp), ?_⟩
  refine ⟨fun h1 => ?_, fun h1 => ?_⟩
  · show some (trip (1, 0, err1 b)) = some (trip _)
    have h1 : (err1 b != 0) = true := h1
    have h1 : err1 b ≠ 0 := by simpa using h1
    unfold checkR; rw [if_pos h1]
  have h1 : ¬ err1 b ≠ 0 := by
    have : (err1 b != 0) = false := h1
    simpa using this
  refine ⟨_, rfl, _, den50 _ _ _, ?_⟩
  rw [List.length_map]
  refine ⟨fun h2 => ?_, fun h2 => ?_⟩
  · show some (trip (2, 0, 3)) = some (trip _)
    have h2 : (b.tides.length : Int) < 1 ∨ (b.tides.length : Int) > 12 := by simp at h2; omega
    unfold checkR; rw [if_neg h1, if_pos h2]
  have h23 : ¬ ((b.tides.length : Int) < 1 ∨ (b.tides.length : Int) > 12) := by simp at h2; omega
  refine ⟨[2, 3, 8], 2, [], fun σ => ∃ i : Nat, i ≤ b.tides.length ∧ badFrom b.tides b.tides.length 0 = badFrom b.tides (b.tides.length - i) i ∧
    σ = ⟨[(2, .loc 0 0), (3, .loc 1 0), (8, .int .i64 i)], [.flat false b.enc, .flat false s.enc], .non⟩, fun σ => (1000 - slotI 8 σ).toNat, rfl, ⟨rfl, rfl⟩, ⟨0, Nat.zero_le _, rfl, rfl⟩, ?_⟩
  rintro σ ⟨i, hi, hf, rfl⟩
  refine ⟨fun h4 => ?_, fun h4 => ?_⟩
  · have h4 := of_decide_eq_true h4
    rw [List.length_map] at h4
    have hi' : i < b.tides.length := by omega
    rw [badFrom_step hi'] at hf
    refine ⟨_, rfl, _, den51 b.tides i hi' (by omega), ?_⟩
    refine ⟨fun h5 => ?_, fun h5 => ?_⟩
    · have h5 : errAt b.tides i ≠ 0 := by simpa using h5
      show some (trip (2, i, errAt b.tides i)) = some (trip _)
      unfold checkR; rw [if_neg h1, if_neg h23, hf, if_neg h5]
    · have h5 : errAt b.tides i = 0 := by simpa using h5
      rw [if_pos h5] at hf
      refine ⟨_, wrap64 (by omega) (by omega), ?_⟩
      refine ⟨⟨rfl, rfl⟩, ⟨i + 1, hi', hf, rfl⟩, ?_⟩
      show (1000 - ((i : Int) + 1)).toNat < (1000 - (i : Int)).toNat
      omega
  · have h4 := of_decide_eq_false h4
    rw [List.length_map] at h4
    have hil : i = b.tides.length := by omega
    subst hil
    have hnone : badFrom b.tides b.tides.length 0 = none := by rw [hf, Nat.sub_self]; rfl
    refine Or.inl ⟨by kernel_rfl, ?_⟩
    refine ⟨_, rfl, _, den48 (s.draft.bd 0 1500), ?_⟩
    refine ⟨_, rfl, _, den49 _ _ _, ?_⟩
    refine ⟨_, rfl, _, den47' [s.draft.bd 0 1500, ⟨s.sink, s.sink, 0, 50⟩] (by simp), ?_⟩
    refine ⟨fun h5 => ?_, fun h5 => ?_⟩
    · have h5 : (err3 s != 0) = true := h5
      have h5 : err3 s ≠ 0 := by simpa using h5
      show some (trip (3, 0, err3 s)) = some (trip _)
      unfold checkR; rw [if_neg h1, if_neg h23, hnone]; simp only; rw [if_pos h5]
    · have h5 : (err3 s != 0) = false := h5
      have h5 : ¬ err3 s ≠ 0 := by simpa using h5
      show some (trip (0, 0, 0)) = some (trip _)
      unfold checkR; rw [if_neg h1, if_neg h23, hnone]; simp only; rw [if_neg h5]

end Go.Proofs.Tide

namespace Go.Proofs.Tide
open Go.V Go.Proofs

/-- The error of a tide and ballast. -/
def errTB (b : Be) (tide ballast : Int) : Int :=
  if tide < 0 ∨ tide ≥ b.tides.length then 4 else if ballast < 0 ∨ ballast > 40 then 7 else 0

theorem den67 (b : Be) (s : Sh) (t n : Int) : DN 67 [.agg (b.enc ++ s.enc), .int .i64 t, .int .i64 n] (.int .i64 (errTB b t n)) := by
  refine mk Try.func67 Try.call67 rfl rfl ?_
  have inner : ∀ r : Int, ((n < 0 ∨ n > 40) → r = 7) → (¬ (n < 0 ∨ n > 40) → r = 0) → r = (if n < 0 ∨ n > 40 then 7 else 0) := by
    intro r h1 h2
    by_cases h : n < 0 ∨ n > 40
    · rw [if_pos h, h1 h]
    · rw [if_neg h, h2 h]
  refine ⟨fun h1 => ?_, fun h1 => ?_⟩
  · have h1 := of_decide_eq_true h1
    show some (D.int .i64 4) = some (D.int .i64 _)
    unfold errTB; rw [if_pos (.inl h1)]
  have h1 := of_decide_eq_false h1
  refine ⟨fun h2 => ?_, fun h2 => ?_⟩
  · have h2 := of_decide_eq_true h2
    rw [List.length_map] at h2
    show some (D.int .i64 4) = some (D.int .i64 _)
    unfold errTB; rw [if_pos (.inr h2)]
  have h2 := of_decide_eq_false h2
  rw [List.length_map] at h2
  have h12 : ¬ (t < 0 ∨ t ≥ b.tides.length) := fun h => h.elim h1 h2
  refine ⟨fun h3 => ?_, fun h3 => ?_⟩
  · have h3 := of_decide_eq_true h3
    show some (D.int .i64 7) = some (D.int .i64 _)
    unfold errTB; rw [if_neg h12, if_pos (.inl h3)]
  have h3 := of_decide_eq_false h3
  refine ⟨fun h4 => ?_, fun h4 => ?_⟩
  · have h4 := of_decide_eq_true h4
    show some (D.int .i64 7) = some (D.int .i64 _)
    unfold errTB; rw [if_neg h12, if_pos (.inr h4)]
  · have h4 := of_decide_eq_false h4
    show some (D.int .i64 0) = some (D.int .i64 _)
    unfold errTB; rw [if_neg h12, if_neg (fun h => h.elim h3 h4)]

/-- The error of a beach, a ship, a tide and ballast. -/
def stepE (b : Be) (s : Sh) (t n : Int) : Int := if (checkR b s).2.2 ≠ 0 then (checkR b s).2.2 else errTB b t n

theorem den52 (b : Be) (s : Sh) (t n : Int) : DN 52 [.agg b.enc, .agg s.enc, .int .i64 t, .int .i64 n] (.tup [.agg (b.enc ++ s.enc), .int .i64 (stepE b s t n)]) := by
  refine mk Try.func52 Try.call52 rfl rfl ?_
  refine ⟨_, rfl, _, den16 b s, ?_⟩
  refine ⟨fun h1 => ?_, fun h1 => ?_⟩
  · have h1 : ((checkR b s).2.2 != 0) = true := h1
    have h1 : (checkR b s).2.2 ≠ 0 := by simpa using h1
    show some (D.tup [.agg (b.enc ++ s.enc), .int .i64 (checkR b s).2.2]) = some (D.tup _)
    unfold stepE; rw [if_pos h1]
  · have h1 : ((checkR b s).2.2 != 0) = false := h1
    have h1 : ¬ (checkR b s).2.2 ≠ 0 := by simpa using h1
    refine Or.inl ⟨by kernel_rfl, ?_⟩
    refine ⟨_, rfl, _, den67 b s t n, ?_⟩
    show some (D.tup [.agg (b.enc ++ s.enc), .int .i64 (errTB b t n)]) = some (D.tup _)
    unfold stepE; rw [if_neg h1]

end Go.Proofs.Tide
