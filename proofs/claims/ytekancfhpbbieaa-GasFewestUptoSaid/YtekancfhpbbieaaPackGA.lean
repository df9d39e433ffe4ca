/- The types of the program's code, told by abstract values; Spans; By how much the level rises; Which levels there can be, minute by minute; Which levels there can be at a minute; Numbers in ranges; spans of the reference; The errors of spans, in the reference; The error of a space's first part, in the reference; By how much the level rises, in the reference; Whether a level agrees with readings, in the reference. No condition. -/
import Derived.Test.YtekancfhpbbieaaChecked
import Derived.Test.YtekancfhpbbieaaPackVI

namespace Go.Proofs
open Go.V

def Try.tl : List (Nat × TI) := [
  (3, ⟨Go.TypeDesc.int (Go.IntKind.i64), false, 1, 8, [.int .i64 0], false⟩),
  (4, ⟨Go.TypeDesc.bool, false, 1, 1, [.ff], false⟩),
  (5, ⟨Go.TypeDesc.int (Go.IntKind.u8), false, 1, 1, [.int .u8 0], false⟩),
  (9, ⟨Go.TypeDesc.string, false, 1, 16, [.str ⟨#[]⟩], false⟩),
  (21, ⟨Go.TypeDesc.int (Go.IntKind.i32), false, 1, 4, [.int .i32 0], false⟩),
  (23, ⟨TypeDesc.struct #[⟨ "Lo", 3, 0, false, "", "", 0⟩, ⟨ "Hi", 3, 1, false, "", "", 8⟩], true, 2, 16, [.int .i64 0, .int .i64 0], true⟩),
  (24, ⟨Go.TypeDesc.slice 23, false, 1, 24, [.nils], false⟩),
  (25, ⟨Go.TypeDesc.slice 65, false, 1, 24, [.nils], false⟩),
  (27, ⟨TypeDesc.struct #[⟨ "Start", 23, 0, false, "", "", 0⟩, ⟨ "Rise", 23, 2, false, "", "", 16⟩, ⟨ "Blow", 23, 4, false, "", "", 32⟩, ⟨ "Limit", 3, 6, false, "", "", 48⟩, ⟨ "Blows", 24, 7, false, "", "", 56⟩, ⟨ "Tools", 25, 8, false, "", "", 80⟩], true, 9, 104, [.int .i64 0, .int .i64 0, .int .i64 0, .int .i64 0, .int .i64 0, .int .i64 0, .int .i64 0, .nils, .nils], false⟩),
  (28, ⟨Go.TypeDesc.slice 61, false, 1, 24, [.nils], false⟩),
  (29, ⟨Go.TypeDesc.int (Go.IntKind.i64), false, 1, 8, [.int .i64 0], false⟩),
  (38, ⟨Go.TypeDesc.slice 3, false, 1, 24, [.nils], false⟩),
  (42, ⟨Go.TypeDesc.array 4 3, true, 4, 32, [.int .i64 0, .int .i64 0, .int .i64 0, .int .i64 0], false⟩),
  (49, ⟨Go.TypeDesc.slice 75, false, 1, 24, [.nils], false⟩),
  (50, ⟨Go.TypeDesc.slice 5, false, 1, 24, [.nils], false⟩),
  (52, ⟨TypeDesc.struct #[⟨ "Levels", 49, 0, false, "", "", 0⟩, ⟨ "Minutes", 50, 1, false, "", "", 24⟩, ⟨ "Wrongs", 50, 2, false, "", "", 48⟩, ⟨ "Now", 5, 3, false, "", "", 72⟩], true, 4, 80, [.nils, .nils, .nils, .int .u8 0], false⟩),
  (56, ⟨Go.TypeDesc.func #[3, 23] #[4] false, false, 1, 8, [.nilf], false⟩),
  (61, ⟨TypeDesc.struct #[⟨ "Minute", 3, 0, false, "", "", 0⟩, ⟨ "Tool", 3, 1, false, "", "", 8⟩, ⟨ "Shown", 3, 2, false, "", "", 16⟩], true, 3, 24, [.int .i64 0, .int .i64 0, .int .i64 0], true⟩),
  (63, ⟨Go.TypeDesc.array 2 5, true, 2, 2, [.int .u8 0, .int .u8 0], false⟩),
  (65, ⟨TypeDesc.struct #[⟨ "Name", 9, 0, false, "", "", 0⟩, ⟨ "Err", 3, 1, false, "", "", 16⟩], true, 2, 24, [.str ⟨#[]⟩, .int .i64 0], false⟩),
  (68, ⟨TypeDesc.struct #[⟨ "Reading", 61, 0, false, "", "", 0⟩, ⟨ "Minute", 5, 3, false, "", "", 24⟩], true, 4, 32, [.int .i64 0, .int .i64 0, .int .i64 0, .int .u8 0], false⟩),
  (72, ⟨Go.TypeDesc.int (Go.IntKind.i16), false, 1, 2, [.int .i16 0], false⟩),
  (74, ⟨TypeDesc.struct #[⟨ "Tool", 5, 0, false, "", "", 0⟩, ⟨ "Shown", 72, 1, false, "", "", 2⟩, ⟨ "From", 5, 2, false, "", "", 4⟩, ⟨ "To", 5, 3, false, "", "", 5⟩, ⟨ "Other", 50, 4, false, "", "", 8⟩, ⟨ "Lower", 50, 5, false, "", "", 32⟩, ⟨ "Levels", 49, 6, false, "", "", 56⟩], true, 7, 80, [.int .u8 0, .int .i16 0, .int .u8 0, .int .u8 0, .nils, .nils, .nils], false⟩),
  (75, ⟨Go.TypeDesc.int (Go.IntKind.u16), false, 1, 2, [.int .u16 0], false⟩),
  (80, ⟨TypeDesc.struct #[⟨ "Start", 5, 0, false, "", "", 0⟩, ⟨ "Rise", 5, 1, false, "", "", 1⟩, ⟨ "Blow", 5, 2, false, "", "", 2⟩, ⟨ "Err", 5, 3, false, "", "", 3⟩, ⟨ "Minute", 5, 4, false, "", "", 4⟩], true, 5, 5, [.int .u8 0, .int .u8 0, .int .u8 0, .int .u8 0, .int .u8 0], true⟩),
  (82, ⟨Go.TypeDesc.array 4 5, true, 4, 4, [.int .u8 0, .int .u8 0, .int .u8 0, .int .u8 0], false⟩),
  (86, ⟨Go.TypeDesc.func #[65] #[9] false, false, 1, 8, [.nilf], false⟩),
  (90, ⟨Go.TypeDesc.slice 9, false, 1, 24, [.nils], false⟩),
  (92, ⟨Go.TypeDesc.map 3 23, false, 1, 8, [.nilm], false⟩),
  (94, ⟨TypeDesc.struct #[⟨ "GsSpace", 27, 0, true, "", "", 0⟩, ⟨ "seen", 92, 9, false, "", "orlop/gas", 104⟩], true, 10, 112, [.int .i64 0, .int .i64 0, .int .i64 0, .int .i64 0, .int .i64 0, .int .i64 0, .int .i64 0, .nils, .nils, .nilm], false⟩),
  (98, ⟨Go.TypeDesc.slice 4, false, 1, 24, [.nils], false⟩),
  (103, ⟨Go.TypeDesc.func #[56] #[] false, false, 1, 8, [.nilf], false⟩),
  (104, ⟨Go.TypeDesc.func #[56] #[] false, false, 1, 8, [.nilf], false⟩),
  (110, ⟨Go.TypeDesc.func #[3, 23] #[23] false, false, 1, 8, [.nilf], false⟩),
  (112, ⟨Go.TypeDesc.slice 98, false, 1, 24, [.nils], false⟩),
  (120, ⟨Go.TypeDesc.array 62 3, true, 62, 496, [.int .i64 0, .int .i64 0, .int .i64 0, .int .i64 0, .int .i64 0, .int .i64 0, .int .i64 0, .int .i64 0, .int .i64 0, .int .i64 0, .int .i64 0, .int .i64 0, .int .i64 0, .int .i64 0, .int .i64 0, .int .i64 0, .int .i64 0, .int .i64 0, .int .i64 0, .int .i64 0, .int .i64 0, .int .i64 0, .int .i64 0, .int .i64 0, .int .i64 0, .int .i64 0, .int .i64 0, .int .i64 0, .int .i64 0, .int .i64 0, .int .i64 0, .int .i64 0, .int .i64 0, .int .i64 0, .int .i64 0, .int .i64 0, .int .i64 0, .int .i64 0, .int .i64 0, .int .i64 0, .int .i64 0, .int .i64 0, .int .i64 0, .int .i64 0, .int .i64 0, .int .i64 0, .int .i64 0, .int .i64 0, .int .i64 0, .int .i64 0, .int .i64 0, .int .i64 0, .int .i64 0, .int .i64 0, .int .i64 0, .int .i64 0, .int .i64 0, .int .i64 0, .int .i64 0, .int .i64 0, .int .i64 0, .int .i64 0], false⟩),
  (123, ⟨Go.TypeDesc.func #[3] #[4] false, false, 1, 8, [.nilf], false⟩),
  (126, ⟨Go.TypeDesc.func #[65] #[4] false, false, 1, 8, [.nilf], false⟩),
  (134, ⟨Go.TypeDesc.func #[23] #[4] false, false, 1, 8, [.nilf], false⟩)
]

def Try.tt : Nat → Option TI := lookT Try.tl

theorem Try.tok : TOK Try.prog Try.tt :=
  (TOK.cons (TIok.of Try.underlying3 rfl (i := Try.t3) (by kernel_rfl) rfl rfl rfl rfl rfl (by kernel_rfl) (by intro h; cases h))
  (TOK.cons (TIok.of Try.underlying4 rfl (i := Try.t4) (by kernel_rfl) rfl rfl rfl rfl rfl (by kernel_rfl) (by intro h; cases h))
  (TOK.cons (TIok.of Try.underlying5 rfl (i := Try.t5) (by kernel_rfl) rfl rfl rfl rfl rfl (by kernel_rfl) (by intro h; cases h))
  (TOK.cons (TIok.of Try.underlying9 rfl (i := Try.t9) (by kernel_rfl) rfl rfl rfl rfl rfl (by kernel_rfl) (by intro h; cases h))
  (TOK.cons (TIok.of Try.underlying21 rfl (i := Try.t21) (by kernel_rfl) rfl rfl rfl rfl rfl (by kernel_rfl) (by intro h; cases h))
  (TOK.cons (TIok.of Try.underlying23 rfl (i := Try.t23) (by kernel_rfl) rfl rfl rfl rfl rfl (by kernel_rfl) (fun _ => eqs_struct Try.underlying23 Try.stoodInHeld23 Try.eqGuardType23 (by kernel_rfl) rfl))
  (TOK.cons (TIok.of Try.underlying24 rfl (i := Try.t24) (by kernel_rfl) rfl rfl rfl rfl rfl (by kernel_rfl) (by intro h; cases h))
  (TOK.cons (TIok.of Try.underlying25 rfl (i := Try.t25) (by kernel_rfl) rfl rfl rfl rfl rfl (by kernel_rfl) (by intro h; cases h))
  (TOK.cons (TIok.of Try.underlying27 rfl (i := Try.t27) (by kernel_rfl) rfl rfl rfl rfl rfl (by kernel_rfl) (by intro h; cases h))
  (TOK.cons (TIok.of Try.underlying28 rfl (i := Try.t28) (by kernel_rfl) rfl rfl rfl rfl rfl (by kernel_rfl) (by intro h; cases h))
  (TOK.cons (TIok.of Try.underlying29 rfl (i := Try.t29) (by kernel_rfl) rfl rfl rfl rfl rfl (by kernel_rfl) (by intro h; cases h))
  (TOK.cons (TIok.of Try.underlying38 rfl (i := Try.t38) (by kernel_rfl) rfl rfl rfl rfl rfl (by kernel_rfl) (by intro h; cases h))
  (TOK.cons (TIok.of Try.underlying42 rfl (i := Try.t42) (by kernel_rfl) rfl rfl rfl rfl rfl (by kernel_rfl) (by intro h; cases h))
  (TOK.cons (TIok.of Try.underlying49 rfl (i := Try.t49) (by kernel_rfl) rfl rfl rfl rfl rfl (by kernel_rfl) (by intro h; cases h))
  (TOK.cons (TIok.of Try.underlying50 rfl (i := Try.t50) (by kernel_rfl) rfl rfl rfl rfl rfl (by kernel_rfl) (by intro h; cases h))
  (TOK.cons (TIok.of Try.underlying52 rfl (i := Try.t52) (by kernel_rfl) rfl rfl rfl rfl rfl (by kernel_rfl) (by intro h; cases h))
  (TOK.cons (TIok.of Try.underlying56 rfl (i := Try.t56) (by kernel_rfl) rfl rfl rfl rfl rfl (by kernel_rfl) (by intro h; cases h))
  (TOK.cons (TIok.of Try.underlying61 rfl (i := Try.t61) (by kernel_rfl) rfl rfl rfl rfl rfl (by kernel_rfl) (fun _ => eqs_struct Try.underlying61 Try.stoodInHeld61 Try.eqGuardType61 (by kernel_rfl) rfl))
  (TOK.cons (TIok.of Try.underlying63 rfl (i := Try.t63) (by kernel_rfl) rfl rfl rfl rfl rfl (by kernel_rfl) (by intro h; cases h))
  (TOK.cons (TIok.of Try.underlying65 rfl (i := Try.t65) (by kernel_rfl) rfl rfl rfl rfl rfl (by kernel_rfl) (by intro h; cases h))
  (TOK.cons (TIok.of Try.underlying68 rfl (i := Try.t68) (by kernel_rfl) rfl rfl rfl rfl rfl (by kernel_rfl) (by intro h; cases h))
  (TOK.cons (TIok.of Try.underlying72 rfl (i := Try.t72) (by kernel_rfl) rfl rfl rfl rfl rfl (by kernel_rfl) (by intro h; cases h))
  (TOK.cons (TIok.of Try.underlying74 rfl (i := Try.t74) (by kernel_rfl) rfl rfl rfl rfl rfl (by kernel_rfl) (by intro h; cases h))
  (TOK.cons (TIok.of Try.underlying75 rfl (i := Try.t75) (by kernel_rfl) rfl rfl rfl rfl rfl (by kernel_rfl) (by intro h; cases h))
  (TOK.cons (TIok.of Try.underlying80 rfl (i := Try.t80) (by kernel_rfl) rfl rfl rfl rfl rfl (by kernel_rfl) (fun _ => eqs_struct Try.underlying80 Try.stoodInHeld80 Try.eqGuardType80 (by kernel_rfl) rfl))
  (TOK.cons (TIok.of Try.underlying82 rfl (i := Try.t82) (by kernel_rfl) rfl rfl rfl rfl rfl (by kernel_rfl) (by intro h; cases h))
  (TOK.cons (TIok.of Try.underlying86 rfl (i := Try.t86) (by kernel_rfl) rfl rfl rfl rfl rfl (by kernel_rfl) (by intro h; cases h))
  (TOK.cons (TIok.of Try.underlying90 rfl (i := Try.t90) (by kernel_rfl) rfl rfl rfl rfl rfl (by kernel_rfl) (by intro h; cases h))
  (TOK.cons (TIok.of Try.underlying92 rfl (i := Try.t92) (by kernel_rfl) rfl rfl rfl rfl rfl (by kernel_rfl) (by intro h; cases h))
  (TOK.cons (TIok.of Try.underlying94 rfl (i := Try.t94) (by kernel_rfl) rfl rfl rfl rfl rfl (by kernel_rfl) (by intro h; cases h))
  (TOK.cons (TIok.of Try.underlying98 rfl (i := Try.t98) (by kernel_rfl) rfl rfl rfl rfl rfl (by kernel_rfl) (by intro h; cases h))
  (TOK.cons (TIok.of Try.underlying103 rfl (i := Try.t103) (by kernel_rfl) rfl rfl rfl rfl rfl (by kernel_rfl) (by intro h; cases h))
  (TOK.cons (TIok.of Try.underlying104 rfl (i := Try.t104) (by kernel_rfl) rfl rfl rfl rfl rfl (by kernel_rfl) (by intro h; cases h))
  (TOK.cons (TIok.of Try.underlying110 rfl (i := Try.t110) (by kernel_rfl) rfl rfl rfl rfl rfl (by kernel_rfl) (by intro h; cases h))
  (TOK.cons (TIok.of Try.underlying112 rfl (i := Try.t112) (by kernel_rfl) rfl rfl rfl rfl rfl (by kernel_rfl) (by intro h; cases h))
  (TOK.cons (TIok.of Try.underlying120 rfl (i := Try.t120) (by kernel_rfl) rfl rfl rfl rfl rfl (by kernel_rfl) (by intro h; cases h))
  (TOK.cons (TIok.of Try.underlying123 rfl (i := Try.t123) (by kernel_rfl) rfl rfl rfl rfl rfl (by kernel_rfl) (by intro h; cases h))
  (TOK.cons (TIok.of Try.underlying126 rfl (i := Try.t126) (by kernel_rfl) rfl rfl rfl rfl rfl (by kernel_rfl) (by intro h; cases h))
  (TOK.cons (TIok.of Try.underlying134 rfl (i := Try.t134) (by kernel_rfl) rfl rfl rfl rfl rfl (by kernel_rfl) (by intro h; cases h))
  TOK.nil)))))))))))))))))))))))))))))))))))))))

theorem Try.mixed : Try.prog.follows .mixedOrders = true := by kernel_rfl

end Go.Proofs

namespace Go.Proofs.Gas
open Go.V Go.Proofs

abbrev DN := Den Try.prog
abbrev IT := IterDen Try.prog
/-- Functions that hand back boxes (51: follow, 30: Read), iterators with boxes of their own (79). -/
abbrev shG : Nat → Bool := fun k => match Nat.beq k 51 with | true => true | false => Nat.beq k 30
abbrev ishG : Nat → Bool := fun k => Nat.beq k 79

theorem mk {f : FuncId} {fn : Func} (hf : Try.prog.funcs[f]? = some fn) (he : Enters Try.prog f) (hb : bodyOK fn = true) {args : List D} {d : D} (hn : Nat.ble args.length fn.ntmps = true) (h : Body Try.tt (CD Try.prog shG) (ItD Try.prog ishG) fn args d) : DN f args d :=
  den_of Try.tok Try.mixed hf he hb hn h

structure Sp where
  lo : Int
  hi : Int
deriving DecidableEq

def Sp.enc (s : Sp) : List D := [.int .i64 s.lo, .int .i64 s.hi]

def none' : Sp := ⟨1, 0⟩
def both (a b : Sp) : Sp := if a = none' ∨ b = none' ∨ max a.lo b.lo > min a.hi b.hi then none' else ⟨max a.lo b.lo, min a.hi b.hi⟩
def limited (n : Int) : Int := max 0 (min 200 n)

theorem den80 : DN 80 [] (.agg none'.enc) := mk Try.func80 Try.call80 rfl rfl rfl
theorem den58 (n : Int) : DN 58 [.int .i64 n] (.int .i64 (limited n)) := mk Try.func58 Try.call58 rfl rfl rfl
theorem den62 (n : Int) : DN 62 [.int .i64 n] (.int .i64 (limited n)) := mk Try.func62 Try.call62 rfl rfl rfl

theorem sp_eq {a b : Sp} : ((a.lo == b.lo) && ((a.hi == b.hi) && true)) = decide (a = b) := by
  cases a; cases b
  simp [Bool.and_true]
  apply Bool.eq_iff_iff.2
  simp

theorem den56 (a b : Sp) : DN 56 [.agg a.enc, .agg b.enc] (.agg (both a b).enc) := by
  refine mk Try.func56 Try.call56 rfl rfl ?_
  refine Or.inl ⟨rfl, ?_⟩
  refine ⟨_, rfl, _, den80, ?_⟩
  refine ⟨fun h1 => ?_, fun h1 => ?_⟩
  · refine ⟨_, rfl, _, den80, ?_⟩
    show some (D.agg _) = some (D.agg _)
    have : a = none' := of_decide_eq_true (sp_eq.symm.trans h1)
    rw [both, if_pos (.inl this)]; rfl
  · have ha : ¬ a = none' := of_decide_eq_false (sp_eq.symm.trans h1)
    refine ⟨_, rfl, _, den80, ?_⟩
    refine ⟨fun h2 => ?_, fun h2 => ?_⟩
    · refine ⟨_, rfl, _, den80, ?_⟩
      show some (D.agg _) = some (D.agg _)
      have : b = none' := of_decide_eq_true (sp_eq.symm.trans h2)
      rw [both, if_pos (.inr (.inl this))]; rfl
    · have hb : ¬ b = none' := of_decide_eq_false (sp_eq.symm.trans h2)
      refine ⟨fun h3 => ?_, fun h3 => ?_⟩
      · refine ⟨_, rfl, _, den80, ?_⟩
        show some (D.agg _) = some (D.agg _)
        rw [both, if_pos (.inr (.inr (of_decide_eq_true h3)))]; rfl
      · have h3 := of_decide_eq_false h3
        show some (D.agg _) = some (D.agg _)
        have hn : ¬ (a = none' ∨ b = none' ∨ max a.lo b.lo > min a.hi b.hi) := fun h => h.elim ha fun h => h.elim hb h3
        rw [both, if_neg hn]
        rfl

/-- What the readings of minutes leave. -/
abbrev Seen := List (Int × Sp)
def Seen.ks (m : Seen) : List D := m.map fun x => .int .i64 x.1
def Seen.vs (m : Seen) : List D := m.map fun x => .agg x.2.enc
def Seen.get (m : Seen) (n : Int) : Option Sp := match m with
  | [] => none
  | x :: r => match n == x.1 with | true => some x.2 | false => Seen.get r n
def Seen.put (m : Seen) (n : Int) (s : Sp) : Seen := match m with
  | [] => [(n, s)]
  | x :: r => match n == x.1 with | true => (x.1, s) :: r | false => x :: Seen.put r n s

theorem Seen.find (n : Int) : ∀ m : Seen, ∃ o, findK (.int .i64 n) m.ks = some o ∧ (match o with
    | some i => (∃ s, m.get n = some s ∧ m.vs[i]? = some (.agg s.enc)) ∧ ∀ s, (m.put n s).ks = m.ks ∧ (m.put n s).vs = m.vs.set i (.agg s.enc)
    | none => m.get n = none ∧ ∀ s, (m.put n s).ks = m.ks ++ [.int .i64 n] ∧ (m.put n s).vs = m.vs ++ [.agg s.enc])
  | [] => ⟨none, rfl, rfl, fun s => ⟨rfl, rfl⟩⟩
  | x :: r => by
    cases h : n == x.1 with
    | true =>
      have : n = x.1 := by simpa using h
      refine ⟨some 0, ?_, ⟨x.2, by simp [Seen.get, h], rfl⟩, fun s => ⟨?_, ?_⟩⟩
      · simp only [Seen.ks, List.map_cons, findK, eqKD, same, h]
      · simp [Seen.put, h, Seen.ks]
      · simp [Seen.put, h, Seen.vs]
    | false =>
      obtain ⟨o, ho, hr⟩ := Seen.find n r
      have ho' : findK (.int .i64 n) (r.map fun x => .int .i64 x.1) = some o := ho
      cases o with
      | none =>
        refine ⟨none, ?_, by simp only [Seen.get, h]; exact hr.1, fun s => ⟨?_, ?_⟩⟩
        · simp only [Seen.ks, List.map_cons, findK, eqKD, same, h, ho']
        · have := (hr.2 s).1; simp only [Seen.ks] at this; simp [Seen.put, h, Seen.ks, this]
        · have := (hr.2 s).2; simp only [Seen.vs] at this; simp [Seen.put, h, Seen.vs, this]
      | some i =>
        obtain ⟨⟨s0, h1, h2⟩, h3⟩ := hr
        refine ⟨some (i + 1), ?_, ⟨s0, by simp only [Seen.get, h]; exact h1, by simpa [Seen.vs] using h2⟩, fun s => ⟨?_, ?_⟩⟩
        · simp only [Seen.ks, List.map_cons, findK, eqKD, same, h, ho']
        · have := (h3 s).1; simp only [Seen.ks] at this; simp [Seen.put, h, Seen.ks, this]
        · have := (h3 s).2; simp only [Seen.vs] at this; simp [Seen.put, h, Seen.vs, this]

structure Space where
  start : Sp
  rise : Sp
  blow : Sp
  limit : Int
  blows : List Sp
  tools : List (ByteArray × Int)

def encT (x : ByteArray × Int) : List D := [.str x.1, .int .i64 x.2]
def Space.enc (s : Space) : List D := [.int .i64 s.start.lo, .int .i64 s.start.hi, .int .i64 s.rise.lo, .int .i64 s.rise.hi, .int .i64 s.blow.lo, .int .i64 s.blow.hi, .int .i64 s.limit, .list 2 (s.blows.map Sp.enc), .list 2 (s.tools.map encT)]
def Space.encM (s : Space) (m : Seen) : List D := [.int .i64 s.start.lo, .int .i64 s.start.hi, .int .i64 s.rise.lo, .int .i64 s.rise.hi, .int .i64 s.blow.lo, .int .i64 s.blow.hi, .int .i64 s.limit, .list 2 (s.blows.map Sp.enc), .list 2 (s.tools.map encT), .mro m.ks m.vs]

def left (m : Seen) (n : Int) : Sp := (m.get n).getD ⟨0, 200⟩

theorem den57 (s : Space) (m : Seen) (n : Int) : DN 57 [.agg (s.encM m), .int .i64 n] (.agg (left m n).enc) := by
  refine mk Try.func57 Try.call57 rfl rfl ?_
  obtain ⟨o, ho, hr⟩ := m.find n
  cases o with
  | none =>
    refine ⟨none, ho, _, _, ⟨rfl, rfl⟩, ?_⟩
    show some (D.agg _) = some (D.agg _)
    rw [left, hr.1]; rfl
  | some i =>
    obtain ⟨⟨s0, h1, h2⟩, _⟩ := hr
    refine ⟨some i, ho, _, _, ⟨h2, rfl⟩, ?_⟩
    show some (D.agg _) = some (D.agg _)
    rw [left, h1]; rfl

end Go.Proofs.Gas

namespace Go.Proofs.Gas
open Go.V Go.Proofs

def findI {α : Type} (p : α → Bool) : List α → Int → Int
  | [], _ => -1
  | b :: r, i => match p b with | true => i | false => findI p r (i + 1)

theorem findI_any {α : Type} (p : α → Bool) : ∀ (bs : List α) (i : Int), 0 ≤ i → (decide (findI p bs i ≥ 0)) = bs.any p
  | [], i, _ => rfl
  | b :: r, i, hi => by
    cases hb : p b with
    | true => simp [findI, hb, hi]
    | false =>
      have := findI_any p r (i + 1) (by omega)
      simp only [findI, hb, List.any_cons, Bool.false_or]
      exact this

def inB (n : Int) (b : Sp) : Bool := decide (b.lo ≤ n) && decide (n ≤ b.hi)

theorem den82 (b : Sp) (n : Int) : DN 82 [.agg b.enc, .ro [.int .i64 n]] (.bool (inB n b)) := by
  refine mk Try.func82 Try.call82 rfl rfl ?_
  refine ⟨fun h => ?_, fun h => ?_⟩
  · show some (D.bool _) = some (D.bool _)
    simp [inB, h]
  · show some (D.bool _) = some (D.bool _)
    simp [inB, h]

theorem den87 (bs : List Sp) (n : Int) (hl : bs.length < 1000) : DN 87 [.list 2 (bs.map Sp.enc), .clo (.func 82) [] [.ro [.int .i64 n]]] (.int .i64 (findI (inB n) bs 0)) := by
  refine mk Try.func87 Try.call87 rfl rfl ?_
  refine ⟨[0, 1, 7, 8], 0, [], fun σ => ∃ i : Nat, i ≤ bs.length ∧ findI (inB n) bs 0 = findI (inB n) (bs.drop i) i ∧ σ = ⟨[(0, .list 2 (bs.map Sp.enc)), (1, .clo (.func 82) [] [.ro [.int .i64 n]]), (7, .int .i64 (bs.map Sp.enc).length), (8, .int .i64 i)], [], .non⟩, fun σ => (1000 - slotI 8 σ).toNat, rfl, ⟨rfl, rfl⟩, ⟨0, Nat.zero_le _, rfl, rfl⟩, ?_⟩
  rintro σ ⟨i, hi, hf, rfl⟩
  refine ⟨fun h1 => ?_, fun h1 => ?_⟩
  · have h1 := of_decide_eq_true h1
    rw [List.length_map] at h1
    have hi' : i < bs.length := by omega
    have hrow : (bs.map Sp.enc)[((i : Int)).toNat]? = some (bs[i].enc) := by simp [hi']
    have hdrop : bs.drop i = bs[i] :: bs.drop (i + 1) := List.drop_eq_getElem_cons hi'
    refine ⟨by omega, _, hrow, ?_⟩
    refine ⟨_, rfl, _, den82 bs[i] n, ?_⟩
    refine ⟨fun h2 => ?_, fun h2 => ?_⟩
    · show some (D.int .i64 (i : Int)) = some (D.int .i64 (findI (inB n) bs 0))
      rw [hf, hdrop, findI, h2]
    · refine ⟨_, wrap64 (by omega) (by omega), ?_⟩
      refine ⟨⟨rfl, rfl⟩, ⟨i + 1, hi', ?_, rfl⟩, ?_⟩
      · rw [hf, hdrop, findI, h2]; rfl
      · show (1000 - ((i : Int) + 1)).toNat < (1000 - (i : Int)).toNat
        omega
  · have h1 := of_decide_eq_false h1
    rw [List.length_map] at h1
    show some (D.int .i64 (-1)) = some (D.int .i64 (findI (inB n) bs 0))
    rw [hf, List.drop_of_length_le (by omega)]
    rfl

theorem den81 (bs : List Sp) (n : Int) (hl : bs.length < 1000) : DN 81 [.list 2 (bs.map Sp.enc), .clo (.func 82) [] [.ro [.int .i64 n]]] (.bool (bs.any (inB n))) := by
  refine mk Try.func81 Try.call81 rfl rfl ?_
  refine ⟨_, rfl, _, den87 bs n hl, ?_⟩
  show some (D.bool _) = some (D.bool _)
  rw [← findI_any (inB n) bs 0 (Int.le_refl 0)]

def Space.riseAt (s : Space) (n : Int) : Sp := if s.blows.any (inB n) then s.blow else s.rise

theorem den55 (s : Space) (m : Seen) (n : Int) (hl : s.blows.length < 1000) : DN 55 [.agg (s.encM m), .int .i64 n] (.agg (s.riseAt n).enc) := by
  refine mk Try.func55 Try.call55 rfl rfl ?_
  refine ⟨_, rfl, _, den81 s.blows n hl, ?_⟩
  refine ⟨fun h => ?_, fun h => ?_⟩
  · show some (D.agg _) = some (D.agg _)
    rw [Space.riseAt, if_pos h]; rfl
  · show some (D.agg _) = some (D.agg _)
    rw [Space.riseAt, if_neg (by rw [h]; exact Bool.noConfusion)]; rfl

/-- 'follow' hands back its iterator, and the boxes of its variables. -/
theorem den51 (s : Space) (m : Seen) (n k : Int) (l : Sp) : DenY Try.prog 51 [.agg (s.encM m), .int .i64 n, .agg l.enc, .int .i64 k] [] .non fun d bs y =>
    d = .clo (.func 79) [] [.loc 1 0, .loc 3 0, .loc 2 0, .loc 0 0] ∧ bs = [.flat false (s.encM m), .flat false [.int .i64 n], .flat false l.enc, .flat false [.int .i64 k]] ∧ y = .non := by
  refine denY_of (sh := shG) (ish := ishG) Try.tok Try.mixed Try.func51 Try.call51 rfl rfl ?_
  exact ⟨_, rfl, rfl, rfl, rfl⟩

end Go.Proofs.Gas

namespace Go.Proofs.Gas
open Go.V Go.Proofs

def knownAt (m : Seen) (k t : Int) (l : Sp) : Sp := if t ≤ k then both l (left m t) else l
def Space.later (s : Space) (t : Int) (l : Sp) : Sp := if l = none' then l else ⟨limited (l.lo + (s.riseAt t).lo), limited (l.hi + (s.riseAt t).hi)⟩
def Space.follow (s : Space) (m : Seen) (k : Int) : Nat → Int → Sp → List (Int × Sp)
  | 0, _, _ => []
  | f + 1, t, l => (t, knownAt m k t l) :: s.follow m k f (t + 1) (s.later t (knownAt m k t l))
def encX (x : Int × Sp) : List D := [.int .i64 x.1, .agg x.2.enc]

def Sp.small (s : Sp) : Prop := (-1000000 ≤ s.lo ∧ s.lo ≤ 1000000) ∧ (-1000000 ≤ s.hi ∧ s.hi ≤ 1000000)

theorem both_small {a b : Sp} (ha : a.small) (hb : b.small) : (both a b).small := by
  unfold both
  split
  · exact ⟨by decide, by decide⟩
  · obtain ⟨⟨a1, a2⟩, a3, a4⟩ := ha
    obtain ⟨⟨b1, b2⟩, b3, b4⟩ := hb
    exact ⟨⟨by simp only; omega, by simp only; omega⟩, by simp only; omega, by simp only; omega⟩

theorem limited_small (n : Int) : -1000000 ≤ limited n ∧ limited n ≤ 1000000 := by
  unfold limited; omega

def Seen.small (m : Seen) : Prop := ∀ t, (left m t).small
structure Space.small (s : Space) : Prop where
  blows : s.blows.length < 1000
  start : s.start.small
  rise : s.rise.small
  blow : s.blow.small

theorem Space.small.riseAt {s : Space} (h : s.small) (t : Int) : (s.riseAt t).small := by
  unfold Space.riseAt
  split
  · exact h.blow
  · exact h.rise

theorem known_small {m : Seen} (hm : m.small) {l : Sp} (hl : l.small) (k t : Int) : (knownAt m k t l).small := by
  unfold knownAt
  split
  · exact both_small hl (hm t)
  · exact hl

theorem later_small {s : Space} {l : Sp} (hl : l.small) (t : Int) : (s.later t l).small := by
  unfold Space.later
  split
  · exact hl
  · exact ⟨limited_small _, limited_small _⟩

theorem wrapS {a b : Int} (ha : -1000000 ≤ a ∧ a ≤ 1000000) (hb : -1000000 ≤ b ∧ b ≤ 1000000) : IntKind.i64.wrap (a + b) = a + b := wrap64 (by omega) (by omega)

def bsF (s : Space) (m : Seen) (n k : Int) (l : Sp) : List Box := [.flat false (s.encM m), .flat false [.int .i64 n], .flat false l.enc, .flat false [.int .i64 k]]

theorem it79 (s : Space) (m : Seen) (hs : s.small) (hm : m.small) (n k : Int) (l : Sp) (hl : l.small) (hn : 0 ≤ n ∧ n ≤ 61) :
    IterDenX Try.prog 79 [.loc 1 0, .loc 3 0, .loc 2 0, .loc 0 0] (bsF s m n k l) ((s.follow m k (61 - n).toNat n l).map encX) := by
  refine iterX_of (sh := shG) (ish := ishG) Try.tok Try.mixed Try.func79 Try.call79 rfl rfl fun l' => ?_
  refine ⟨[0, 1, 2, 3, 4, 6], 4, [], fun σ => ∃ (t : Int) (x : Sp) (ys : List (List D)), (n ≤ t ∧ t ≤ 61) ∧ x.small ∧ ys = (s.follow m k (61 - t).toNat t x).map encX ∧
      σ = ⟨[(0, .yld l'), (1, .loc 1 0), (2, .loc 3 0), (3, .loc 2 0), (4, .loc 0 0), (6, .int .i64 t)], bsF s m n k x, .rem l' ys⟩, fun σ => (61 - slotI 6 σ).toNat, rfl, ⟨rfl, rfl⟩, ⟨n, l, _, by omega, hl, rfl, rfl⟩, ?_⟩
  rintro σ ⟨t, x, ys, ht, hx, hys, rfl⟩
  by_cases ht60 : t ≤ 60
  · have hf : (61 - t).toNat = (60 - t).toNat + 1 := by omega
    rw [hf, Space.follow, List.map_cons] at hys
    subst hys
    refine ⟨fun h1 => ?_, fun h1 => absurd ht60 (of_decide_eq_false h1)⟩
    refine ⟨fun h2 => ?_, fun h2 => ?_⟩
    · have h2 := of_decide_eq_true h2
      refine Or.inl ⟨rfl, ?_⟩
      refine ⟨_, rfl, _, den57 s m t, ?_⟩
      refine ⟨_, rfl, _, den56 _ _, ?_⟩
      have hk : knownAt m k t x = both x (left m t) := if_pos h2
      have hz : (both x (left m t)).small := both_small hx (hm t)
      refine ⟨rfl, ⟨_, rfl, by rw [hk]; rfl⟩, ?_, ⟨_, rfl, .inr rfl⟩⟩
      refine ⟨_, rfl, _, den55 s m t hs.blows, ?_⟩
      refine Or.inl ⟨rfl, ?_⟩
      refine ⟨_, rfl, _, den80, ?_⟩
      refine ⟨fun h3 => ?_, fun h3 => ?_⟩
      · have h3 : ¬ (both x (left m t)) = none' := fun e => by
          have := sp_eq (a := (both x (left m t))) (b := none')
          rw [decide_eq_true e] at this
          have h3 : (!((both x (left m t)).lo == none'.lo && ((both x (left m t)).hi == none'.hi && true))) = true := h3
          rw [this] at h3
          cases h3
        have hlat : s.later t (both x (left m t)) = ⟨limited ((both x (left m t)).lo + (s.riseAt t).lo), limited ((both x (left m t)).hi + (s.riseAt t).hi)⟩ := if_neg h3
        refine Or.inl ⟨rfl, ?_⟩
        refine ⟨_, wrapS hz.1 (hs.riseAt t).1, ?_⟩
        refine ⟨_, rfl, _, den58 _, ?_⟩
        refine ⟨_, wrapS hz.2 (hs.riseAt t).2, ?_⟩
        refine ⟨_, rfl, _, den58 _, ?_⟩
        refine ⟨_, wrap64 (by omega) (by omega), ?_⟩
        refine ⟨⟨rfl, rfl⟩, ⟨t + 1, ⟨limited ((both x (left m t)).lo + (s.riseAt t).lo), limited ((both x (left m t)).hi + (s.riseAt t).hi)⟩, _, by omega, ⟨limited_small _, limited_small _⟩, ?_, rfl⟩, ?_⟩
        · rw [show (61 - (t + 1)).toNat = (60 - t).toNat by omega, hk, hlat]
        · show (61 - (t + 1)).toNat < (61 - t).toNat
          omega
      · have h3 : (both x (left m t)) = none' := Classical.byContradiction fun e => by
          have := sp_eq (a := (both x (left m t))) (b := none')
          rw [decide_eq_false e] at this
          have h3 : (!((both x (left m t)).lo == none'.lo && ((both x (left m t)).hi == none'.hi && true))) = false := h3
          rw [this] at h3
          cases h3
        have hlat : s.later t (both x (left m t)) = (both x (left m t)) := if_pos h3
        refine ⟨_, wrap64 (by omega) (by omega), ?_⟩
        refine ⟨⟨rfl, rfl⟩, ⟨t + 1, (both x (left m t)), _, by omega, hz, ?_, rfl⟩, ?_⟩
        · rw [show (61 - (t + 1)).toNat = (60 - t).toNat by omega, hk, hlat]
        · show (61 - (t + 1)).toNat < (61 - t).toNat
          omega
    · have h2 := of_decide_eq_false h2
      have hk : knownAt m k t x = x := if_neg h2
      have hz : x.small := hx
      refine ⟨rfl, ⟨_, rfl, by rw [hk]; rfl⟩, ?_, ⟨_, rfl, .inr rfl⟩⟩
      refine ⟨_, rfl, _, den55 s m t hs.blows, ?_⟩
      refine Or.inl ⟨rfl, ?_⟩
      refine ⟨_, rfl, _, den80, ?_⟩
      refine ⟨fun h3 => ?_, fun h3 => ?_⟩
      · have h3 : ¬ x = none' := fun e => by
          have := sp_eq (a := x) (b := none')
          rw [decide_eq_true e] at this
          have h3 : (!(x.lo == none'.lo && (x.hi == none'.hi && true))) = true := h3
          rw [this] at h3
          cases h3
        have hlat : s.later t x = ⟨limited (x.lo + (s.riseAt t).lo), limited (x.hi + (s.riseAt t).hi)⟩ := if_neg h3
        refine Or.inl ⟨rfl, ?_⟩
        refine ⟨_, wrapS hz.1 (hs.riseAt t).1, ?_⟩
        refine ⟨_, rfl, _, den58 _, ?_⟩
        refine ⟨_, wrapS hz.2 (hs.riseAt t).2, ?_⟩
        refine ⟨_, rfl, _, den58 _, ?_⟩
        refine ⟨_, wrap64 (by omega) (by omega), ?_⟩
        refine ⟨⟨rfl, rfl⟩, ⟨t + 1, ⟨limited (x.lo + (s.riseAt t).lo), limited (x.hi + (s.riseAt t).hi)⟩, _, by omega, ⟨limited_small _, limited_small _⟩, ?_, rfl⟩, ?_⟩
        · rw [show (61 - (t + 1)).toNat = (60 - t).toNat by omega, hk, hlat]
        · show (61 - (t + 1)).toNat < (61 - t).toNat
          omega
      · have h3 : x = none' := Classical.byContradiction fun e => by
          have := sp_eq (a := x) (b := none')
          rw [decide_eq_false e] at this
          have h3 : (!(x.lo == none'.lo && (x.hi == none'.hi && true))) = false := h3
          rw [this] at h3
          cases h3
        have hlat : s.later t x = x := if_pos h3
        refine ⟨_, wrap64 (by omega) (by omega), ?_⟩
        refine ⟨⟨rfl, rfl⟩, ⟨t + 1, x, _, by omega, hz, ?_, rfl⟩, ?_⟩
        · rw [show (61 - (t + 1)).toNat = (60 - t).toNat by omega, hk, hlat]
        · show (61 - (t + 1)).toNat < (61 - t).toNat
          omega
  · have ht61 : t = 61 := by omega
    subst ht61
    have hf : (61 - (61 : Int)).toNat = 0 := rfl
    rw [hf, Space.follow, List.map_nil] at hys
    subst hys
    refine ⟨fun h1 => absurd (of_decide_eq_true h1) ht60, fun _ => ⟨_, rfl, .inl ⟨l', rfl⟩⟩⟩

end Go.Proofs.Gas

namespace Go.Proofs.Gas
open Go.V Go.Proofs

theorem follow_len (s : Space) (m : Seen) (k : Int) : ∀ (f : Nat) (t : Int) (l : Sp), (s.follow m k f t l).length = f
  | 0, _, _ => rfl
  | f + 1, t, l => by simp only [Space.follow, List.length_cons, follow_len s m k f]

theorem follow_fst (s : Space) (m : Seen) (k : Int) : ∀ (f : Nat) (t : Int) (l : Sp) (i : Nat) (y : Int × Sp), (s.follow m k f t l)[i]? = some y → y.1 = t + i
  | 0, _, _, _, _, h => by simp [Space.follow] at h
  | f + 1, t, l, 0, y, h => by simp [Space.follow] at h; subst h; simp
  | f + 1, t, l, i + 1, y, h => by
    have := follow_fst s m k f (t + 1) _ i y (by simpa [Space.follow] using h)
    omega

/-- Which levels there can be at a minute, readings up to it being known. -/
def Space.at (s : Space) (m : Seen) (n : Int) : Sp := match (s.follow m n 61 0 s.start)[n.toNat]? with | some y => y.2 | none => none'

def atE (l : Sp) : D := if l = none' then .tup [.agg [.int .i64 0, .int .i64 0], .int .i64 9] else .tup [.agg l.enc, .int .i64 0]

theorem den77 (s : Space) (m : Seen) (hs : s.small) (hm : m.small) (n : Int) (hn : 0 ≤ n ∧ n ≤ 60) : DN 77 [.agg (s.encM m), .int .i64 n] (atE (s.at m n)) := by
  refine mk Try.func77 Try.call77 rfl rfl ?_
  refine ⟨[], [.agg (s.encM m), .int .i64 0, .agg s.start.enc, .int .i64 n], [], _, rfl, rfl, rfl, rfl, den51 s m 0 n s.start, ⟨_, _, _, rfl, rfl, rfl⟩, ?_⟩
  rintro _ _ _ ⟨rfl, rfl, rfl⟩
  refine ⟨rfl, 3, [.loc 1 0, .loc 3 0, .loc 2 0, .loc 0 0], bsF s m 0 n s.start, rfl, rfl, rfl, _, it79 s m hs hm 0 n s.start hs.start (by omega), [2, 3, 4, 5], 3, [],
    fun i bs y => i ≤ n.toNat ∧ y = .non ∧ ∃ lv : Sp, bs = [.flat false (s.encM m), .flat false [.int .i64 n], .flat false lv.enc], rfl, rfl, ⟨rfl, rfl⟩, ⟨Nat.zero_le _, rfl, ⟨0, 0⟩, rfl⟩, ?_, ?_, ?_⟩
  · rintro i x bs y hx ⟨hi, rfl, lv, rfl⟩
    rw [List.getElem?_map] at hx
    cases hf : (s.follow m n ((61 : Int) - 0).toNat 0 s.start)[i]? with
    | none => rw [hf] at hx; cases hx
    | some z =>
      rw [hf] at hx
      have hx : encX z = x := by simpa using hx
      subst hx
      have hz := follow_fst s m n _ _ _ i z hf
      refine ⟨fun h1 => ?_, fun h1 => ?_⟩
      · have h1 : z.1 = n := by simpa using h1
        have hin : i = n.toNat := by omega
        have hat : s.at m n = z.2 := by
          unfold Space.at
          rw [← hin]
          have hf : (s.follow m n 61 0 s.start)[i]? = some z := hf
          rw [hf]
        refine Or.inl ⟨rfl, ?_⟩
        refine ⟨_, rfl, _, den80, ?_⟩
        refine ⟨fun h2 => ?_, fun h2 => ?_⟩
        · have : z.2 = none' := of_decide_eq_true (sp_eq.symm.trans h2)
          show some (D.tup _) = some _
          rw [hat, atE, if_pos this]
        · have : ¬ z.2 = none' := of_decide_eq_false (sp_eq.symm.trans h2)
          show some (D.tup _) = some _
          rw [hat, atE, if_neg this]
          rfl
      · have h1 : ¬ z.1 = n := by simpa using h1
        exact ⟨rfl, by omega, rfl, z.2, rfl⟩
  · intro x hx
    obtain ⟨z, _, rfl⟩ := List.mem_map.1 hx
    exact ⟨rfl, rfl⟩
  · rintro bs y ⟨hi, _⟩
    rw [List.length_map, follow_len] at hi
    have : (61 - (0 : Int)).toNat = 61 := rfl
    omega

end Go.Proofs.Gas

namespace Go.Proofs.Gas
open Go.V Go.Proofs

def outB (lo hi n : Int) : Bool := decide (n < lo) || decide (n > hi)
def encI (n : Int) : List D := [.int .i64 n]

theorem den69 (lo hi n : Int) : DN 69 [.int .i64 n, .ro [.int .i64 lo], .ro [.int .i64 hi]] (.bool (outB lo hi n)) := by
  refine mk Try.func69 Try.call69 rfl rfl ?_
  refine ⟨fun h => ?_, fun h => ?_⟩
  · show some (D.bool _) = some (D.bool _)
    simp [outB, h]
  · show some (D.bool _) = some (D.bool _)
    simp [outB, h]

theorem den83 (bs : List Int) (lo hi : Int) (hl : bs.length < 1000) : DN 83 [.list 1 (bs.map encI), .clo (.func 69) [] [.ro [.int .i64 lo], .ro [.int .i64 hi]]] (.int .i64 (findI (outB lo hi) bs 0)) := by
  refine mk Try.func83 Try.call83 rfl rfl ?_
  refine ⟨[0, 1, 7, 8], 0, [], fun σ => ∃ i : Nat, i ≤ bs.length ∧ findI (outB lo hi) bs 0 = findI (outB lo hi) (bs.drop i) i ∧ σ = ⟨[(0, .list 1 (bs.map encI)), (1, .clo (.func 69) [] [.ro [.int .i64 lo], .ro [.int .i64 hi]]), (7, .int .i64 (bs.map encI).length), (8, .int .i64 i)], [], .non⟩, fun σ => (1000 - slotI 8 σ).toNat, rfl, ⟨rfl, rfl⟩, ⟨0, Nat.zero_le _, rfl, rfl⟩, ?_⟩
  rintro σ ⟨i, hi', hf, rfl⟩
  refine ⟨fun h1 => ?_, fun h1 => ?_⟩
  · have h1 := of_decide_eq_true h1
    rw [List.length_map] at h1
    have hi' : i < bs.length := by omega
    have hrow : (bs.map encI)[((i : Int)).toNat]? = some (encI bs[i]) := by simp [hi']
    have hdrop : bs.drop i = bs[i] :: bs.drop (i + 1) := List.drop_eq_getElem_cons hi'
    refine ⟨by omega, _, hrow, ?_⟩
    refine ⟨_, rfl, _, den69 lo hi bs[i], ?_⟩
    refine ⟨fun h2 => ?_, fun h2 => ?_⟩
    · show some (D.int .i64 (i : Int)) = some (D.int .i64 (findI (outB lo hi) bs 0))
      rw [hf, hdrop, findI, h2]
    · refine ⟨_, wrap64 (by omega) (by omega), ?_⟩
      refine ⟨⟨rfl, rfl⟩, ⟨i + 1, hi', ?_, rfl⟩, ?_⟩
      · rw [hf, hdrop, findI, h2]; rfl
      · show (1000 - ((i : Int) + 1)).toNat < (1000 - (i : Int)).toNat
        omega
  · have h1 := of_decide_eq_false h1
    rw [List.length_map] at h1
    show some (D.int .i64 (-1)) = some (D.int .i64 (findI (outB lo hi) bs 0))
    rw [hf, List.drop_of_length_le (by omega)]
    rfl

theorem den68 (bs : List Int) (lo hi : Int) (hl : bs.length < 1000) : DN 68 [.list 1 (bs.map encI), .clo (.func 69) [] [.ro [.int .i64 lo], .ro [.int .i64 hi]]] (.bool (bs.any (outB lo hi))) := by
  refine mk Try.func68 Try.call68 rfl rfl ?_
  refine ⟨_, rfl, _, den83 bs lo hi hl, ?_⟩
  show some (D.bool _) = some (D.bool _)
  rw [← findI_any (outB lo hi) bs 0 (Int.le_refl 0)]

theorem den41 (bs : List Int) (lo hi : Int) (hl : bs.length < 1000) : DN 41 [.int .i64 lo, .int .i64 hi, .list 1 (bs.map encI)] (.bool (bs.any (outB lo hi))) := by
  refine mk Try.func41 Try.call41 rfl rfl ?_
  exact ⟨_, rfl, _, den68 bs lo hi hl, rfl⟩

def inR (n lo hi : Int) : Bool := decide (n ≥ lo) && decide (n ≤ hi)

theorem den46 (n lo hi : Int) : DN 46 [.int .i64 n, .int .i64 lo, .int .i64 hi] (.bool (inR n lo hi)) := by
  refine mk Try.func46 Try.call46 rfl rfl ?_
  refine ⟨fun h => ?_, fun h => ?_⟩
  · show some (D.bool _) = some (D.bool _)
    simp [inR, h]
  · show some (D.bool _) = some (D.bool _)
    simp [inR, h]

theorem den85 (n lo hi : Int) : DN 85 [.int .i64 n, .int .i64 lo, .int .i64 hi] (.bool (inR n lo hi)) := by
  refine mk Try.func85 Try.call85 rfl rfl ?_
  refine ⟨fun h => ?_, fun h => ?_⟩
  · show some (D.bool _) = some (D.bool _)
    simp [inR, h]
  · show some (D.bool _) = some (D.bool _)
    simp [inR, h]

end Go.Proofs.Gas

namespace Go.Proofs.Gas
open Go.V Go.Proofs

def outS (lo hi : Int) (b : Sp) : Bool := !(inR b.lo lo hi) || !(inR b.hi lo hi)
def badS (b : Sp) : Bool := decide (b.lo > b.hi)
def spreadE (lo hi : Int) (bs : List Sp) : Int := match bs.any (outS lo hi) with | true => 7 | false => match bs.any badS with | true => 2 | false => 0
/-- The same from the middle on. -/
def spreadA (lo hi : Int) (acc : Bool) (bs : List Sp) : Int := match bs.any (outS lo hi) with | true => 7 | false => match acc || bs.any badS with | true => 2 | false => 0

theorem spreadA_out {lo hi : Int} {acc : Bool} {b : Sp} {r : List Sp} (h : outS lo hi b = true) : spreadA lo hi acc (b :: r) = 7 := by simp [spreadA, h]
theorem spreadA_in {lo hi : Int} {acc : Bool} {b : Sp} {r : List Sp} (h : outS lo hi b = false) : spreadA lo hi acc (b :: r) = spreadA lo hi (acc || badS b) r := by
  simp [spreadA, h, Bool.or_assoc]

theorem den73 (bs : List Sp) (lo hi : Int) (hl : bs.length < 1000) : DN 73 [.list 2 (bs.map Sp.enc), .int .i64 lo, .int .i64 hi] (.int .i64 (spreadE lo hi bs)) := by
  refine mk Try.func73 Try.call73 rfl rfl ?_
  refine ⟨[0, 1, 2, 7, 8], 0, [], fun σ => ∃ (i : Nat) (acc : Bool) (v : D), i ≤ bs.length ∧ spreadE lo hi bs = spreadA lo hi acc (bs.drop i) ∧ (v = .bool acc ∨ (v = .ff ∧ acc = false) ∨ (v = .tt ∧ acc = true)) ∧
      σ = ⟨[(0, .list 2 (bs.map Sp.enc)), (1, .int .i64 lo), (2, .int .i64 hi), (7, v), (8, .int .i64 i)], [], .non⟩, fun σ => (1000 - slotI 8 σ).toNat, rfl, ⟨rfl, rfl⟩, ⟨0, false, .ff, Nat.zero_le _, rfl, .inr (.inl ⟨rfl, rfl⟩), rfl⟩, ?_⟩
  rintro σ ⟨i, acc, v, hi', hf, hv, rfl⟩
  refine ⟨fun h1 => ?_, fun h1 => ?_⟩
  · have h1 := of_decide_eq_true h1
    rw [List.length_map] at h1
    have hi' : i < bs.length := by omega
    have hrow : (bs.map Sp.enc)[((i : Int)).toNat]? = some (bs[i].enc) := by simp [hi']
    have hdrop : bs.drop i = bs[i] :: bs.drop (i + 1) := List.drop_eq_getElem_cons hi'
    rw [hdrop] at hf
    refine ⟨by omega, _, hrow, ?_⟩
    refine ⟨_, rfl, _, den85 _ _ _, ?_⟩
    refine ⟨fun h2 => ?_, fun h2 => ?_⟩
    · have : outS lo hi bs[i] = true := by unfold outS; rw [h2]; rfl
      show some (D.int .i64 7) = some (D.int .i64 (spreadE lo hi bs))
      rw [hf, spreadA_out this]
    · refine ⟨by omega, _, hrow, ?_⟩
      refine ⟨_, rfl, _, den85 _ _ _, ?_⟩
      refine ⟨fun h3 => ?_, fun h3 => ?_⟩
      · have : outS lo hi bs[i] = true := by unfold outS; rw [h2, h3]; rfl
        show some (D.int .i64 7) = some (D.int .i64 (spreadE lo hi bs))
        rw [hf, spreadA_out this]
      · have hin : outS lo hi bs[i] = false := by unfold outS; rw [h2, h3]; rfl
        rw [spreadA_in hin] at hf
        rcases hv with rfl | ⟨rfl, rfl⟩ | ⟨rfl, rfl⟩
        · refine Or.inl ⟨rfl, ?_⟩
          refine ⟨fun h4 => ?_, fun h4 => ?_⟩
          · refine ⟨_, wrap64 (by omega) (by omega), ?_⟩
            exact ⟨⟨rfl, rfl⟩, ⟨i + 1, _, .tt, hi', hf, .inr (.inr ⟨rfl, by rw [h4]; rfl⟩), rfl⟩, by show (1000 - ((i : Int) + 1)).toNat < (1000 - (i : Int)).toNat; omega⟩
          · refine ⟨by omega, _, hrow, ?_⟩
            refine ⟨by omega, _, hrow, ?_⟩
            refine ⟨_, wrap64 (by omega) (by omega), ?_⟩
            exact ⟨⟨rfl, rfl⟩, ⟨i + 1, _, _, hi', hf, .inl (by rw [h4]; rfl), rfl⟩, by show (1000 - ((i : Int) + 1)).toNat < (1000 - (i : Int)).toNat; omega⟩
        · refine Or.inl ⟨rfl, ?_⟩
          refine ⟨by omega, _, hrow, ?_⟩
          refine ⟨by omega, _, hrow, ?_⟩
          refine ⟨_, wrap64 (by omega) (by omega), ?_⟩
          exact ⟨⟨rfl, rfl⟩, ⟨i + 1, _, _, hi', hf, .inl rfl, rfl⟩, by show (1000 - ((i : Int) + 1)).toNat < (1000 - (i : Int)).toNat; omega⟩
        · refine Or.inl ⟨rfl, ?_⟩
          refine ⟨_, wrap64 (by omega) (by omega), ?_⟩
          exact ⟨⟨rfl, rfl⟩, ⟨i + 1, _, .tt, hi', hf, .inr (.inr ⟨rfl, rfl⟩), rfl⟩, by show (1000 - ((i : Int) + 1)).toNat < (1000 - (i : Int)).toNat; omega⟩
  · have h1 := of_decide_eq_false h1
    rw [List.length_map] at h1
    have hn : bs.drop i = [] := List.drop_of_length_le (by omega)
    rw [hn] at hf
    rcases hv with rfl | ⟨rfl, rfl⟩ | ⟨rfl, rfl⟩
    · refine ⟨fun h4 => ?_, fun h4 => ?_⟩
      · show some (D.int .i64 2) = some (D.int .i64 (spreadE lo hi bs))
        rw [hf, h4]; rfl
      · show some (D.int .i64 0) = some (D.int .i64 (spreadE lo hi bs))
        rw [hf, h4]; rfl
    · show some (D.int .i64 0) = some (D.int .i64 (spreadE lo hi bs))
      rw [hf]; rfl
    · show some (D.int .i64 2) = some (D.int .i64 (spreadE lo hi bs))
      rw [hf]; rfl

end Go.Proofs.Gas

namespace Go.Proofs.Gas
open Go.V Go.Proofs

theorem den45 (b : Sp) (lo hi : Int) : DN 45 [.agg b.enc, .int .i64 lo, .int .i64 hi] (.int .i64 (spreadE lo hi [b])) := by
  refine mk Try.func45 Try.call45 rfl rfl ?_
  exact ⟨_, rfl, _, den73 [b] lo hi (by simp), rfl⟩

def planE (s : Space) : Int :=
  if (spreadE 0 200 [s.start] == 7 || (spreadE (-20) 20 [s.rise, s.blow] == 7 || !(inR s.limit 0 200))) = true then 7
  else if (spreadE 0 200 [s.start] != 0) = true then spreadE 0 200 [s.start] else spreadE (-20) 20 [s.rise, s.blow]

theorem den44 (s : Space) : DN 44 [.agg s.enc] (.int .i64 (planE s)) := by
  refine mk Try.func44 Try.call44 rfl rfl ?_
  refine Or.inl ⟨by kernel_rfl, ?_⟩
  refine ⟨_, rfl, _, den45 s.start 0 200, ?_⟩
  refine ⟨_, rfl, _, den73 [s.rise, s.blow] (-20) 20 (by simp), ?_⟩
  have last : ∀ h : (spreadE 0 200 [s.start] == 7 || (spreadE (-20) 20 [s.rise, s.blow] == 7 || !(inR s.limit 0 200))) = false,
      ((spreadE 0 200 [s.start] != 0) = true → planE s = spreadE 0 200 [s.start]) ∧ ((spreadE 0 200 [s.start] != 0) = false → planE s = spreadE (-20) 20 [s.rise, s.blow]) := by
    intro h
    refine ⟨fun h' => ?_, fun h' => ?_⟩
    · unfold planE; rw [h, h']; simp
    · unfold planE; rw [h, h']; simp
  refine ⟨fun h1 => ?_, fun h1 => ?_⟩
  · show some (D.int .i64 7) = some (D.int .i64 (planE s))
    unfold planE; rw [h1]; rfl
  · refine ⟨fun h2 => ?_, fun h2 => ?_⟩
    · show some (D.int .i64 7) = some (D.int .i64 (planE s))
      unfold planE; rw [h1, h2]; rfl
    · refine ⟨_, rfl, _, den46 _ _ _, ?_⟩
      refine ⟨fun h3 => ?_, fun h3 => ?_⟩
      · show some (D.int .i64 7) = some (D.int .i64 (planE s))
        have h3 : (!(inR s.limit 0 200)) = true := h3
        unfold planE; rw [h1, h2, h3]; rfl
      · have h3 : (!(inR s.limit 0 200)) = false := h3
        have hh := last (by rw [h1, h2, h3]; rfl)
        refine ⟨fun h4 => ?_, fun h4 => ?_⟩
        · show some (D.int .i64 (spreadE 0 200 [s.start])) = some (D.int .i64 (planE s))
          rw [hh.1 h4]
        · show some (D.int .i64 (spreadE (-20) 20 [s.rise, s.blow])) = some (D.int .i64 (planE s))
          rw [hh.2 h4]

end Go.Proofs.Gas

namespace Go.Proofs.Gas
open Go.V Go.Proofs

theorem inB_inR (n : Int) (b : Sp) : inR n b.lo b.hi = inB n b := by
  unfold inR inB
  rfl

theorem den61 (s : Space) (n : Int) (hl : s.blows.length < 1000) : DN 61 [.agg s.enc, .int .i64 n] (.agg (s.riseAt n).enc) := by
  refine mk Try.func61 Try.call61 rfl rfl ?_
  refine ⟨[1, 2, 4, 5], 2, [], fun σ => ∃ i : Nat, i ≤ s.blows.length ∧ s.blows.any (inB n) = (s.blows.drop i).any (inB n) ∧
      σ = ⟨[(1, .int .i64 n), (2, .loc 0 0), (4, .loc 1 0), (5, .int .i64 i)], [.flat false s.enc, .flat false [.int .i64 0, .int .i64 0]], .non⟩, fun σ => (1000 - slotI 5 σ).toNat, rfl, ⟨rfl, rfl⟩, ⟨0, Nat.zero_le _, rfl, rfl⟩, ?_⟩
  rintro σ ⟨i, hi', hf, rfl⟩
  refine ⟨fun h1 => ?_, fun h1 => ?_⟩
  · have h1 := of_decide_eq_true h1
    rw [List.length_map] at h1
    have hi' : i < s.blows.length := by omega
    have hrow : (s.blows.map Sp.enc)[((i : Int)).toNat]? = some (s.blows[i].enc) := by simp [hi']
    have hdrop : s.blows.drop i = s.blows[i] :: s.blows.drop (i + 1) := List.drop_eq_getElem_cons hi'
    rw [hdrop, List.any_cons] at hf
    refine Or.inl ⟨rfl, ?_⟩
    refine ⟨by omega, _, hrow, ?_⟩
    refine ⟨by omega, _, hrow, ?_⟩
    refine ⟨_, rfl, _, den46 _ _ _, ?_⟩
    refine ⟨fun h2 => ?_, fun h2 => ?_⟩
    · have h2 : inB n s.blows[i] = true := h2
      rw [h2] at hf
      show some (D.agg _) = some (D.agg _)
      rw [Space.riseAt, if_pos (by rw [hf]; rfl)]; rfl
    · have h2 : inB n s.blows[i] = false := h2
      rw [h2, Bool.false_or] at hf
      refine ⟨_, wrap64 (by omega) (by omega), ?_⟩
      exact ⟨⟨rfl, rfl⟩, ⟨i + 1, hi', hf, rfl⟩, by show (1000 - ((i : Int) + 1)).toNat < (1000 - (i : Int)).toNat; omega⟩
  · have h1 := of_decide_eq_false h1
    rw [List.length_map] at h1
    have hn : s.blows.drop i = [] := List.drop_of_length_le (by omega)
    rw [hn] at hf
    show some (D.agg _) = some (D.agg _)
    rw [Space.riseAt, if_neg (by rw [hf]; simp)]; rfl

end Go.Proofs.Gas

namespace Go.Proofs.Gas
open Go.V Go.Proofs

structure Rd where
  minute : Int
  tool : Int
  shown : Int
def Rd.enc (r : Rd) : List D := [.int .i64 r.minute, .int .i64 r.tool, .int .i64 r.shown]

def Space.err (s : Space) (t : Int) : Int := match s.tools[t.toNat]? with | some x => x.2 | none => 0
def Space.fits (s : Space) (minute level : Int) (r : Rd) : Bool := !(r.minute == minute && !(inR r.shown (level - s.err r.tool) (level + s.err r.tool)))
def Space.agrees (s : Space) (l : List Rd) (minute level : Int) : Bool := l.all (s.fits minute level)

/-- Readings by instruments that there are, whose errors are small. -/
def Space.toolsOK (s : Space) (l : List Rd) : Prop := ∀ r ∈ l, (0 ≤ r.tool ∧ r.tool.toNat < s.tools.length) ∧ -1000000 ≤ s.err r.tool ∧ s.err r.tool ≤ 1000000

theorem den59 (s : Space) (l : List Rd) (minute level : Int) (hl : l.length < 1000) (ho : s.toolsOK l) (hv : -1000000 ≤ level ∧ level ≤ 1000000) :
    DN 59 [.agg s.enc, .list 3 (l.map Rd.enc), .int .i64 minute, .int .i64 level] (.bool (s.agrees l minute level)) := by
  refine mk Try.func59 Try.call59 rfl rfl ?_
  refine ⟨[1, 2, 3, 4, 9], 1, [], fun σ => ∃ i : Nat, i ≤ l.length ∧ s.agrees l minute level = s.agrees (l.drop i) minute level ∧
      σ = ⟨[(1, .list 3 (l.map Rd.enc)), (2, .int .i64 minute), (3, .int .i64 level), (4, .loc 0 0), (9, .int .i64 i)], [.flat false s.enc], .non⟩, fun σ => (1000 - slotI 9 σ).toNat, rfl, ⟨rfl, rfl⟩, ⟨0, Nat.zero_le _, rfl, rfl⟩, ?_⟩
  rintro σ ⟨i, hi', hf, rfl⟩
  refine ⟨fun h1 => ?_, fun h1 => ?_⟩
  · have h1 := of_decide_eq_true h1
    rw [List.length_map] at h1
    have hi' : i < l.length := by omega
    have hrow : (l.map Rd.enc)[((i : Int)).toNat]? = some (l[i].enc) := by simp [hi']
    have hdrop : l.drop i = l[i] :: l.drop (i + 1) := List.drop_eq_getElem_cons hi'
    rw [hdrop, Space.agrees, Space.agrees, List.all_cons] at hf
    obtain ⟨⟨ht0, ht1⟩, he1, he2⟩ := ho l[i] (List.getElem_mem hi')
    obtain ⟨x, hx⟩ : ∃ x, s.tools[l[i].tool.toNat]? = some x := ⟨_, List.getElem?_eq_getElem ht1⟩
    have hxe : s.err l[i].tool = x.2 := by unfold Space.err; rw [hx]
    rw [hxe] at he1 he2
    have hrow2 : (s.tools.map encT)[l[i].tool.toNat]? = some (encT x) := by rw [List.getElem?_map, hx]; rfl
    refine Or.inl ⟨rfl, ?_⟩
    refine ⟨by omega, _, hrow, ?_⟩
    refine ⟨ht0, _, hrow2, ?_⟩
    refine ⟨by omega, _, hrow, ?_⟩
    refine ⟨fun h2 => ?_, fun h2 => ?_⟩
    · refine ⟨by omega, _, hrow, ?_⟩
      refine ⟨_, wrap64 (by omega) (by omega), ?_⟩
      refine ⟨_, wrap64 (by omega) (by omega), ?_⟩
      refine ⟨_, rfl, _, den46 _ _ _, ?_⟩
      refine ⟨fun h3 => ?_, fun h3 => ?_⟩
      · have h3 : (!(inR l[i].shown (level - x.2) (level + x.2))) = true := h3
        have : s.fits minute level l[i] = false := by unfold Space.fits; rw [hxe, h2, h3]; rfl
        show some (D.bool false) = some (D.bool (s.agrees l minute level))
        rw [Space.agrees, hf, this]; rfl
      · have h3 : (!(inR l[i].shown (level - x.2) (level + x.2))) = false := h3
        have : s.fits minute level l[i] = true := by unfold Space.fits; rw [hxe, h2, h3]; rfl
        rw [this, Bool.true_and] at hf
        refine ⟨_, wrap64 (by omega) (by omega), ?_⟩
        exact ⟨⟨rfl, rfl⟩, ⟨i + 1, hi', hf, rfl⟩, by show (1000 - ((i : Int) + 1)).toNat < (1000 - (i : Int)).toNat; omega⟩
    · have : s.fits minute level l[i] = true := by unfold Space.fits; rw [h2]; rfl
      rw [this, Bool.true_and] at hf
      refine ⟨_, wrap64 (by omega) (by omega), ?_⟩
      exact ⟨⟨rfl, rfl⟩, ⟨i + 1, hi', hf, rfl⟩, by show (1000 - ((i : Int) + 1)).toNat < (1000 - (i : Int)).toNat; omega⟩
  · have h1 := of_decide_eq_false h1
    rw [List.length_map] at h1
    have hn : l.drop i = [] := List.drop_of_length_le (by omega)
    rw [hn] at hf
    show some (D.bool true) = some (D.bool (s.agrees l minute level))
    rw [hf]; rfl

end Go.Proofs.Gas
