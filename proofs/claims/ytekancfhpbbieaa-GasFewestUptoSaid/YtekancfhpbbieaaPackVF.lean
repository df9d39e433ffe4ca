/- Maps: made, read, written; A call that is handed boxes. No condition. -/
import Derived.MapKept
import Derived.Test.YtekancfhpbbieaaPackVE
import Derived.Test.YtekancfhpbbieaaPackVD

namespace Go.V
open Go.RowKit

section
variable {P : Program} {T : Nat → Option TI} {cx : Cx} {V : Nat → Prop} {σ : St} {β : BE} {I : Imm} {S : Nat → Prop} {N : Nat} {a : Act} {w : World}

theorem eqKD_inv {k x : D} {b : Bool} (h : eqKD k x = some b) : ∃ q n m, k = .int q n ∧ x = .int q m ∧ b = (n == m) := by
  cases k with
  | int q n =>
    cases x with
    | int q' m =>
      simp only [eqKD] at h
      cases hs : same q q' with
      | false => rw [hs] at h; cases h
      | true =>
        rw [hs] at h
        cases h
        obtain rfl := same_eq hs
        exact ⟨q, n, m, rfl, rfl, rfl⟩
    | _ => cases h
  | _ => cases h

/-- A key is found where it is told to be. -/
theorem findNow_sound {q0 : IntKind} {kv : Value} {key : D} (hk : Rel I β kv key) : ∀ (es : List MapEntry) (ks : List D) (o : Option Nat) (n : Nat), es.length = ks.length →
    (∀ (i : Nat) (e : MapEntry) (d : D), es[i]? = some e → ks[i]? = some d → Rel I nob e.key d) → findK key ks = some o →
    match o with
    | none => Instr.findNow (.int q0) kv es n = some none
    | some i => ∃ e, es[i]? = some e ∧ Instr.findNow (.int q0) kv es n = some (some (n + i, e.val)) ∧ ∃ q m, kv = .int q m ∧ e.key = .int q m
  | [], ks, o, n, hl, _, h => by
    have : ks = [] := List.eq_nil_of_length_eq_zero (by simpa using hl.symm)
    subst this
    cases h
    rfl
  | e :: es, [], o, n, hl, _, h => by simp at hl
  | e :: es, x :: ks, o, n, hl, hr, h => by
    simp only [findK] at h
    cases hb : eqKD key x with
    | none => rw [hb] at h; cases h
    | some b =>
      obtain ⟨q, m, m', rfl, rfl, rfl⟩ := eqKD_inv hb
      have he : e.key = .int q m' := (hr 0 e (.int q m') rfl rfl).int_inv
      have hv : kv = .int q m := hk.int_inv
      subst hv
      rw [hb] at h
      cases hmm : (m == m') with
      | true =>
        rw [hmm] at h
        cases h
        have : m = m' := by simpa using hmm
        subst this
        refine ⟨e, rfl, ?_, q, m, rfl, he⟩
        simp [Instr.findNow, he, Instr.sameNow]
      | false =>
        rw [hmm] at h
        simp only at h
        cases hf : findK (.int q m) ks with
        | none => rw [hf] at h; cases h
        | some o' =>
          rw [hf] at h
          have ih := findNow_sound (q0 := q0) hk es ks o' (n + 1) (by simpa using hl) (fun i e' d he' hd => hr (i + 1) e' d (by simpa using he') (by simpa using hd)) hf
          have hstep : Instr.findNow (.int q0) (.int q m) (e :: es) n = Instr.findNow (.int q0) (.int q m) es (n + 1) := by
            simp [Instr.findNow, he, Instr.sameNow, hmm]
          cases o' with
          | none =>
            cases h
            rw [hstep]; exact ih
          | some i =>
            cases h
            obtain ⟨e', h1, h2, h3⟩ := ih
            exact ⟨e', by simpa using h1, by rw [hstep, h2]; congr 3; omega, h3⟩

theorem run_checkInt {kt : TypeId} {q : IntKind} (hk : P.underlying kt = some (.int q)) (em : Bool) (k : Value) : (Instr.checkKey em 10000 kt k).run P w = .ok () w := by
  show (Instr.checkKey em (9999 + 1) kt k).run P w = .ok () w
  unfold Instr.checkKey
  simp only [Sem.run_bind, run_underlying hk, Result.andThen]
  cases k <;> rfl

theorem isIntT_inv {ti : TI} (h : isIntT ti = true) : ∃ q, ti.desc = .int q := by
  unfold isIntT at h
  split at h
  · rename_i q hd; exact ⟨q, hd⟩
  · cases h

theorem lookE_sound {t kt et : TypeId} {ti tk te : TI} (h : TIok P t ti) (hd : ti.desc = .map kt et) (hk : TIok P kt tk) (hi : isIntT tk = true) (he : TIok P et te) {r : Option Nat} {es : List MapEntry} {ks vs : List D} {kv : Value} {key : D} {ok : Bool} {k : Eff → Prop}
    (hm : match r with | none => es = [] | some R => ∃ clock, w.heap[R]? = some (.map es.toArray clock)) (hkl : es.length = ks.length) (hvl : es.length = vs.length)
    (hks : ∀ (i : Nat) (e : MapEntry) (d : D), es[i]? = some e → ks[i]? = some d → Rel I nob e.key d) (hvs : ∀ (i : Nat) (e : MapEntry) (d : D), es[i]? = some e → vs[i]? = some d → Rel I nob e.val d)
    (hkey : Rel I β kv key) (hq : lookE ks vs key (zeroD te) ok k) :
    ∃ v d, (Instr.lookup t (.map r) kv ok).run P w = .ok v w ∧ k (.val d) ∧ Rel I β v d := by
  unfold lookE at hq
  cases ok with
  | false => exact hq.elim
  | true =>
    obtain ⟨o, hf, d, b, ho, hq⟩ := hq
    obtain ⟨q, hq0⟩ := isIntT_inv hi
    have hkt : P.underlying kt = some (.int q) := hq0 ▸ hk.desc
    have ht : P.underlying t = some (.map kt et) := hd ▸ h.desc
    have hfs := findNow_sound (q0 := q) hkey es ks o 0 hkl hks hf
    obtain ⟨z, hz, hzr⟩ := he.run_zeroD w I β
    have hfind : ∀ a, Instr.findNow (.int q) kv es 0 = some a → (Instr.findKey kt kv es).run P w = .ok a w := fun a h => MapKept.run_findKey hkt h
    cases o with
    | none =>
      obtain ⟨rfl, rfl⟩ := ho
      refine ⟨.tuple #[z, .bool false], _, ?_, hq, ?_⟩
      · unfold Instr.lookup
        simp only [Sem.run_bind, run_underlying ht, Result.andThen_ok]
        cases r with
        | none => simp only at hm; subst hm; simp [run_checkInt hkt, hfind _ hfs, hz]
        | some R =>
          obtain ⟨clock, hh⟩ := hm
          simp [MapKept.run_getObj_map hh, run_checkInt hkt, hfind _ hfs, hz]
      · exact Rel.mkTup (vs := [z, .bool false]) (RelL.cons hzr (RelL.cons .ff .nil))
    | some i =>
      obtain ⟨hdi, rfl⟩ := ho
      obtain ⟨e, h1, h2, _⟩ := hfs
      refine ⟨.tuple #[e.val, .bool true], _, ?_, hq, ?_⟩
      · unfold Instr.lookup
        simp only [Sem.run_bind, run_underlying ht, Result.andThen_ok]
        cases r with
        | none => simp only at hm; subst hm; simp [run_checkInt hkt, hfind _ h2]
        | some R =>
          obtain ⟨clock, hh⟩ := hm
          simp [MapKept.run_getObj_map hh, run_checkInt hkt, hfind _ h2]
      · exact Rel.mkTup (vs := [e.val, .bool true]) (RelL.cons ((hvs i e d h1 hdi).lift I.le_refl) (RelL.cons .tt .nil))

theorem Rel.freeV {v : Value} {d : D} (h : Rel I β v d) (hf : Go.V.freeV d = true) : Rel I nob v d := by
  cases d with
  | agg cs =>
    obtain ⟨xs, rfl, hr⟩ := h.agg_inv
    exact .agg xs cs hr.1.1 hr.2 fun i v d hv hd => (hr.1.2 i v d hv hd).of_free (allFree_get (by simpa only [Go.V.freeV] using hf) hd)
  | _ => exact h.of_free (by simpa only [Go.V.freeV] using hf)

theorem keyStays (q : IntKind) (m : Int) : (Instr.keyThatStays (.int q m) (.int q m)).run P w = .ok (.int q m) w := by
  unfold Instr.keyThatStays
  have : Instr.sameBits 10000 (.int q m) (.int q m) = true := by
    show (q == q && m == m) = true
    simp
  rw [if_pos this]
  rfl

theorem modify_born (x : Value) (kv : Value) : ∀ (es : List MapEntry) (i : Nat), (es.modify i fun e => { e with key := kv, val := x }).map (·.born) = es.map (·.born)
  | [], i => by cases i <;> rfl
  | e :: r, 0 => rfl
  | e :: r, i + 1 => by
    simp only [List.modify_succ_cons, List.map_cons]
    rw [modify_born x kv r i]

theorem bornOK_map {l l' : List MapEntry} (h : l'.map (·.born) = l.map (·.born)) (hb : BornOK l) : BornOK l' := by
  have h1 : (l.map (·.born)).Pairwise (· < ·) := List.pairwise_map.2 hb
  rw [← h] at h1
  exact List.pairwise_map.1 h1

theorem MapRel.modify {es : List MapEntry} {ks vs : List D} (h : MapRel I es ks vs) {i : Nat} {e : MapEntry} {kv xv : Value} {x : D} (he : es[i]? = some e) (hk : e.key = kv) (hx : Rel I nob xv x) :
    MapRel I (es.modify i fun e => { e with key := kv, val := xv }) ks (vs.set i x) := by
  refine ⟨bornOK_map (modify_born xv kv es i) h.born, by rw [List.length_modify]; exact h.kl, by rw [List.length_modify, List.length_set]; exact h.vl, fun j e' d he' hd => ?_, fun j e' d he' hd => ?_⟩
  · rw [List.getElem?_modify] at he'
    by_cases hij : i = j
    · subst hij
      rw [he] at he'
      simp only [if_true, Option.map_eq_map, Option.map_some, Option.some.injEq] at he'
      subst he'
      rw [← hk]
      exact h.k i e d he hd
    · simp only [if_neg hij] at he'
      have he' : es[j]? = some e' := by cases hx : es[j]? with | none => rw [hx] at he'; cases he' | some y => rw [hx] at he'; exact he'
      exact h.k j e' d (by simpa using he') hd
  · rw [List.getElem?_modify] at he'
    by_cases hij : i = j
    · subst hij
      rw [he] at he'
      simp only [if_true, Option.map_eq_map, Option.map_some, Option.some.injEq] at he'
      subst he'
      have hl : i < vs.length := by rw [← h.vl]; exact (List.getElem?_eq_some_iff.1 he).1
      rw [List.getElem?_set_self hl] at hd
      cases hd
      exact hx
    · simp only [if_neg hij] at he'
      have he' : es[j]? = some e' := by cases hx : es[j]? with | none => rw [hx] at he'; cases he' | some y => rw [hx] at he'; exact he'
      rw [List.getElem?_set_ne hij] at hd
      exact h.v j e' d (by simpa using he') hd

theorem MapRel.push {es : List MapEntry} {ks vs : List D} (h : MapRel I es ks vs) {kv xv : Value} {key x : D} {clock : Nat} (hc : ∀ e ∈ es, e.born < clock) (hk : Rel I nob kv key) (hx : Rel I nob xv x) :
    MapRel I (es ++ [{ key := kv, val := xv, born := clock }]) (ks ++ [key]) (vs ++ [x]) := by
  refine ⟨List.pairwise_append.2 ⟨h.born, List.pairwise_singleton _ _, fun e he e' he' => by simp at he'; subst he'; exact hc e he⟩, by simp [h.kl], by simp [h.vl], fun j e' d he' hd => ?_, fun j e' d he' hd => ?_⟩
  · by_cases hj : j < es.length
    · rw [List.getElem?_append_left hj] at he'
      rw [List.getElem?_append_left (by rw [← h.kl]; exact hj)] at hd
      exact h.k j e' d he' hd
    · rw [List.getElem?_append_right (by omega)] at he'
      rw [List.getElem?_append_right (by rw [← h.kl]; omega)] at hd
      rw [h.kl] at he'
      have : j - ks.length = 0 := by
        rcases Nat.eq_zero_or_pos (j - ks.length) with h0 | h0
        · exact h0
        · rw [List.getElem?_eq_none (by simp; omega)] at hd; cases hd
      rw [this] at he' hd
      simp at he' hd
      subst he' hd
      exact hk
  · by_cases hj : j < es.length
    · rw [List.getElem?_append_left hj] at he'
      rw [List.getElem?_append_left (by rw [← h.vl]; exact hj)] at hd
      exact h.v j e' d he' hd
    · rw [List.getElem?_append_right (by omega)] at he'
      rw [List.getElem?_append_right (by rw [← h.vl]; omega)] at hd
      rw [h.vl] at he'
      have : j - vs.length = 0 := by
        rcases Nat.eq_zero_or_pos (j - vs.length) with h0 | h0
        · exact h0
        · rw [List.getElem?_eq_none (by simp; omega)] at hd; cases hd
      rw [this] at he' hd
      simp at he' hd
      subst he' hd
      exact hx

theorem keep_setBlock (w : World) (R : Nat) (o : Obj) : Keep (fun k => k ≠ R) w { w with heap := w.heap.setIfInBounds R o } :=
  ⟨rfl, rfl, rfl, by simp, fun k hk => by simp [Ne.symm hk]⟩

theorem mupdE_sound (hcx : cx.Ok) (hs : Sim cx V σ β I S N a w) {t kt et : TypeId} {ti tk : TI} (h : TIok P t ti) (hd : ti.desc = .map kt et) (hk : TIok P kt tk) (hi : isIntT tk = true) {mv kv xv : Value} {m key x : D}
    (hm : Rel I β mv m) (hkey : Rel I β kv key) (hx : Rel I β xv x) {k : Eff → Prop} (hq : mupdE σ.boxes m key x k) :
    ∃ w' i b, (Instr.mapUpdate t mv kv xv).run P w = .ok () w' ∧ k (.set i b .und) ∧ Sim cx V ⟨σ.tmps, σ.boxes.set i b, σ.y⟩ β I S N a w' := by
  obtain ⟨q, hq0⟩ := isIntT_inv hi
  have hkt : P.underlying kt = some (.int q) := hq0 ▸ hk.desc
  have ht : P.underlying t = some (.map kt et) := hd ▸ h.desc
  unfold mupdE at hq
  cases m with
  | mloc i =>
    cases key with
    | int kq kn =>
      simp only at hq
      have hkv := hkey.int_inv
      subst hkv
      cases hm with
      | mloc _ b R hb hf hR =>
      obtain ⟨box, hbox, hbr⟩ := hs.bx i b hb
      rw [hbox] at hq
      cases box with
      | flat => exact hq.elim
      | rows => exact hq.elim
      | siter => exact hq.elim
      | map fz ks vs =>
        cases fz with
        | true => exact hq.elim
        | false =>
          obtain ⟨hfree, o, hfk, ks', vs', ho, hq⟩ := iff'_true hq
          obtain ⟨hfl, R', es, clock, hR', hh, hclk, hmr⟩ := hbr
          rw [hR] at hR'; cases hR'
          have hfs := findNow_sound (q0 := q) hkey es.toList ks o 0 hmr.kl hmr.k hfk
          have hkeep : ∀ ob : Obj, Keep (fun B => B < w.heap.size ∧ b.R ≠ some B) w { w with heap := w.heap.setIfInBounds R ob } := fun ob =>
            (keep_setBlock w R ob).mono fun B hB e => hB.2 (by rw [hR, e])
          have hget : ∀ ob : Obj, ({ w with heap := w.heap.setIfInBounds R ob } : World).heap[R]? = some ob := fun ob => by
            have := heap_lt hh
            simp [this]
          cases o with
          | none =>
            obtain ⟨rfl, rfl⟩ := ho
            refine ⟨{ w with heap := w.heap.setIfInBounds R (.map (es.push { key := .int kq kn, val := xv, born := clock }) (clock + 1)) }, i, _, ?_, hq, ?_⟩
            · unfold Instr.mapUpdate
              simp [run_underlying ht, MapKept.run_getObj_map hh, run_checkInt hkt, MapKept.run_findKey hkt hfs, MapKept.run_setObj_map _ hh]
            · have := hs.set hcx hb hbox rfl (b' := b) (box' := .map false (ks ++ [.int kq kn]) (vs ++ [x])) (hkeep (.map (es.push { key := .int kq kn, val := xv, born := clock }) (clock + 1))) (fun R hR => .inl hR) (le_same hb) (by
                rw [same_fun hb]
                refine ⟨hfl, R, _, clock + 1, hR, hget _, fun e he => ?_, ?_⟩
                · simp only [Array.toList_push, List.mem_append, List.mem_singleton] at he
                  rcases he with he | rfl
                  · have := hclk e he; omega
                  · exact Nat.lt_succ_self _
                · rw [Array.toList_push]
                  exact hmr.push hclk (.int _ _) (hx.freeV hfree))
              rw [same_fun hb] at this
              exact this
          | some j =>
            obtain ⟨rfl, rfl⟩ := ho
            obtain ⟨e, h1, h2, q', m', h3, h4⟩ := hfs
            cases h3
            rw [Nat.zero_add] at h2
            have h1a : es[j]? = some e := by simpa using h1
            refine ⟨{ w with heap := w.heap.setIfInBounds R (.map (es.modify j fun e => { e with key := .int kq kn, val := xv }) clock) }, i, _, ?_, hq, ?_⟩
            · unfold Instr.mapUpdate
              simp [run_underlying ht, MapKept.run_getObj_map hh, run_checkInt hkt, MapKept.run_findKey hkt h2, h1a, h4, keyStays, MapKept.run_setObj_map _ hh]
            · have := hs.set hcx hb hbox rfl (b' := b) (box' := .map false ks' (vs.set j x)) (hkeep (.map (es.modify j fun e => { e with key := .int kq kn, val := xv }) clock)) (fun R hR => .inl hR) (le_same hb) (by
                rw [same_fun hb]
                refine ⟨hfl, R, _, clock, hR, hget _, fun e' he' => ?_, ?_⟩
                · rw [Array.toList_modify] at he'
                  have hbm : e'.born ∈ (es.toList.modify j fun e => { e with key := .int kq kn, val := xv }).map (·.born) := List.mem_map_of_mem he'
                  rw [modify_born] at hbm
                  obtain ⟨e2, h5, h6⟩ := List.mem_map.1 hbm
                  rw [← h6]; exact hclk e2 h5
                · rw [Array.toList_modify]
                  exact hmr.modify h1 h4 (hx.freeV hfree))
              rw [same_fun hb] at this
              exact this
    | _ => exact hq.elim
  | _ => exact hq.elim

/-- One rune more of a string. -/
theorem next_sound (hcx : cx.Ok) (hs : Sim cx V σ β I S N a w) {v : Value} {i : Nat} (hv : Rel I β v (.sit i)) {s : ByteArray} {pos : Nat} (hbox : σ.boxes[i]? = some (.siter false s pos)) {k : Eff → Prop}
    (hk : (pos < s.size → ∃ c wd, Utf8.decode s pos = (c, wd) ∧ k (.set i (.siter false s (pos + wd)) (.tup [.tt, .int .i64 pos, .int .i32 c]))) ∧ (¬ pos < s.size → k (.set i (.siter false s pos) (.tup [.ff])))) (ty : TypeId) :
    ∃ w' pos' d e, (Instr.next v true ty).run P w = .ok e w' ∧ k (.set i (.siter false s pos') d) ∧ Sim cx V ⟨σ.tmps, σ.boxes.set i (.siter false s pos'), σ.y⟩ β I S N a w' ∧ Rel I β e d := by
  cases hv with
  | sit _ b R hb hf hR =>
  obtain ⟨box, hbx, hbr⟩ := hs.bx i b hb
  rw [hbox] at hbx; cases hbx
  obtain ⟨_, R', hR', hh⟩ := hbr
  rw [hR] at hR'; cases hR'
  have hkeep : ∀ ob : Obj, Keep (fun B => B < w.heap.size ∧ b.R ≠ some B) w { w with heap := w.heap.setIfInBounds R ob } := fun ob =>
    (keep_setBlock w R ob).mono fun B hB e => hB.2 (by rw [hR, e])
  have hget : ∀ ob : Obj, ({ w with heap := w.heap.setIfInBounds R ob } : World).heap[R]? = some ob := fun ob => by
    have := heap_lt hh
    simp [this]
  have hset : ∀ pos', Sim cx V ⟨σ.tmps, σ.boxes.set i (.siter false s pos'), σ.y⟩ β I S N a { w with heap := w.heap.setIfInBounds R (.stringIter s pos') } := fun pos' => by
    have := hs.set hcx hb hbox rfl (b' := b) (box' := .siter false s pos') (hkeep (.stringIter s pos')) (fun R hR => .inl hR) (le_same hb) (by
      rw [same_fun hb]
      exact ⟨hf, R, hR, hget _⟩)
    rw [same_fun hb] at this
    exact this
  have hsame : ({ w with heap := w.heap.setIfInBounds R (.stringIter s pos) } : World) = w := by
    have : w.heap.setIfInBounds R (.stringIter s pos) = w.heap := by
      apply Array.ext_getElem?
      intro j
      by_cases hj : R = j
      · subst hj
        rw [Array.getElem?_setIfInBounds_self_of_lt (heap_lt hh), hh]
      · rw [Array.getElem?_setIfInBounds_ne hj]
    rw [this]
  by_cases hp : pos < s.size
  · obtain ⟨c, wd, hcw, hk⟩ := hk.1 hp
    refine ⟨_, pos + wd, _, .tuple #[.bool true, .int .i64 pos, .int .i32 c], ?_, hk, hset _, Rel.mkTup (vs := [.bool true, .int .i64 pos, .int .i32 c]) (RelL.cons .tt (RelL.cons (.int _ _) (RelL.cons (.int _ _) .nil)))⟩
    simp only [Instr.next, getObj, setObj, Sem.run_bind, Sem.run, hh, Result.andThen, hp, if_true, hcw]
    simp [goInt]
  · refine ⟨_, pos, _, .tuple #[.bool false], ?_, hk.2 hp, hset _, Rel.mkTup (vs := [.bool false]) (RelL.cons .ff .nil)⟩
    rw [hsame]
    simp [Instr.next, getObj, Sem.run, hh, hp]

end
end Go.V

namespace Go.V
open Go.RowKit

theorem renL_eq (f : Nat → Nat) : ∀ l, renL f l = l.map (ren f)
  | [] => rfl
  | d :: r => by simp only [renL, List.map_cons]; rw [renL_eq f r]

theorem renL_get {f : Nat → Nat} {l : List D} {i : Nat} : (renL f l)[i]? = (l[i]?).map (ren f) := by rw [renL_eq, List.getElem?_map]

theorem Rel.ren {I : Imm} {β β' : BE} {v : Value} {d : D} (h : Rel I β v d) {f : Nat → Nat} (hf : ∀ i b, β i = some b → β' (f i) = some b) : Rel I β' v (ren f d) := by
  induction h with
  | agg cs ds hl h1 _ ih =>
    refine .agg cs _ (by rw [renL_eq]; simpa using hl) h1 fun i v d hv hd => ?_
    rw [renL_get] at hd
    cases hd' : ds[i]? with
    | none => rw [hd'] at hd; cases hd
    | some d' => rw [hd'] at hd; cases hd; exact ih i v d' hv hd' hf
  | tup cs ds hl _ ih =>
    refine .tup cs _ (by rw [renL_eq]; simpa using hl) fun i v d hv hd => ?_
    rw [renL_get] at hd
    cases hd' : ds[i]? with
    | none => rw [hd'] at hd; cases hd
    | some d' => rw [hd'] at hd; cases hd; exact ih i v d' hv hd' hf
  | clo fn vs us ds es hl hm _ _ ih ih' =>
    refine .clo fn vs us _ _ (by rw [renL_eq]; simpa using hl) (by rw [renL_eq]; simpa using hm) (fun i v d hv hd => ?_) fun i v d hv hd => ?_
    · rw [renL_get] at hd
      cases hd' : ds[i]? with
      | none => rw [hd'] at hd; cases hd
      | some d' => rw [hd'] at hd; cases hd; exact ih i v d' hv hd' hf
    · rw [renL_get] at hd
      cases hd' : es[i]? with
      | none => rw [hd'] at hd; cases hd
      | some d' => rw [hd'] at hd; cases hd; exact ih' i v d' hv hd' hf
  | loc i off b R hb hfl hR => exact .loc _ off b R (hf i b hb) hfl hR
  | aloc i off b R hb hfl hR => exact .aloc _ off b R (hf i b hb) hfl hR
  | rloc i g r off b R hb hfl hR hg => exact .rloc _ g r off b R (hf i b hb) hfl hR hg
  | rstale a i g r off b hb hfl hg => exact .rstale a _ g r off b (hf i b hb) hfl hg
  | sl a c i g off len b hb hfl hg hc hl hn ha => exact .sl a c _ g off len b (hf i b hb) hfl hg hc hl hn ha
  | mstale a c i g off len b hb hfl hg => exact .mstale a c _ g off len b (hf i b hb) hfl hg
  | und v => exact .und v
  | skp => exact .skp
  | tt => exact .tt
  | ff => exact .ff
  | bool b => exact .bool b
  | int k n => exact .int k n
  | str s => exact .str s
  | nilp => exact .nilp
  | ro B off ds u hI h1 h _ => exact .ro B off ds u hI h1 h
  | list0 a cap sz => exact .list0 a cap sz
  | list B off cap sz rows u hc hrow hI h1 h _ => exact .list B off cap sz rows u hc hrow hI h1 h
  | nils a => exact .nils a
  | nilf => exact .nilf
  | yld l => exact .yld l
  | nilm => exact .nilm
  | mloc i b R hb hfl hR => exact .mloc _ b R (hf i b hb) hfl hR
  | sit i b R hb hfl hR => exact .sit _ b R (hf i b hb) hfl hR
  | asl c i len b R hb hfl hR => exact .asl c _ len b R (hf i b hb) hfl hR
  | mro R es ks vs hI hb hl hm h h' _ _ => exact .mro R es ks vs hI hb hl hm h h'

theorem Rel.unren {I : Imm} {β β' : BE} {v : Value} {e : D} (h : Rel I β' v e) {f : Nat → Nat} (hf : ∀ i, β i = β' (f i)) : ∀ {d : D}, e = V.ren f d → Rel I β v d := by
  induction h with
  | agg cs ds hl h1 _ ih =>
    intro d e
    cases d <;> simp only [V.ren, D.agg.injEq, reduceCtorEq] at e
    subst e
    refine .agg cs _ (by rw [renL_eq] at hl; simpa using hl) h1 fun i v d hv hd => ih i v (V.ren f d) hv (by rw [renL_get, hd]; rfl) hf rfl
  | tup cs ds hl _ ih =>
    intro d e
    cases d <;> simp only [V.ren, D.tup.injEq, reduceCtorEq] at e
    subst e
    refine .tup cs _ (by rw [renL_eq] at hl; simpa using hl) fun i v d hv hd => ih i v (V.ren f d) hv (by rw [renL_get, hd]; rfl) hf rfl
  | clo fn vs us ds es hl hm _ _ ih ih' =>
    intro d e
    cases d <;> simp only [V.ren, D.clo.injEq, reduceCtorEq] at e
    obtain ⟨rfl, rfl, rfl⟩ := e
    refine .clo _ vs us _ _ (by rw [renL_eq] at hl; simpa using hl) (by rw [renL_eq] at hm; simpa using hm) (fun i v d hv hd => ih i v (V.ren f d) hv (by rw [renL_get, hd]; rfl) hf rfl) fun i v d hv hd => ih' i v (V.ren f d) hv (by rw [renL_get, hd]; rfl) hf rfl
  | loc i off b R hb hfl hR =>
    intro d e
    cases d <;> simp only [V.ren, D.loc.injEq, reduceCtorEq] at e
    obtain ⟨rfl, rfl⟩ := e
    exact .loc _ _ b R ((hf _).trans hb) hfl hR
  | aloc i off b R hb hfl hR =>
    intro d e
    cases d <;> simp only [V.ren, D.aloc.injEq, reduceCtorEq] at e
    obtain ⟨rfl, rfl⟩ := e
    exact .aloc _ _ b R ((hf _).trans hb) hfl hR
  | rloc i g r off b R hb hfl hR hg =>
    intro d e
    cases d <;> simp only [V.ren, D.rloc.injEq, reduceCtorEq] at e
    obtain ⟨rfl, rfl, rfl, rfl⟩ := e
    exact .rloc _ _ _ _ b R ((hf _).trans hb) hfl hR hg
  | rstale a i g r off b hb hfl hg =>
    intro d e
    cases d <;> simp only [V.ren, D.rloc.injEq, reduceCtorEq] at e
    obtain ⟨rfl, rfl, rfl, rfl⟩ := e
    exact .rstale a _ _ _ _ b ((hf _).trans hb) hfl hg
  | sl a c i g off len b hb hfl hg hc hl hn ha =>
    intro d e
    cases d <;> simp only [V.ren, D.sl.injEq, reduceCtorEq] at e
    obtain ⟨rfl, rfl, rfl, rfl⟩ := e
    exact .sl a c _ _ _ _ b ((hf _).trans hb) hfl hg hc hl hn ha
  | mstale a c i g off len b hb hfl hg =>
    intro d e
    cases d <;> simp only [V.ren, D.sl.injEq, reduceCtorEq] at e
    obtain ⟨rfl, rfl, rfl, rfl⟩ := e
    exact .mstale a c _ _ _ _ b ((hf _).trans hb) hfl hg
  | und v => intro d e; cases d <;> simp only [V.ren, reduceCtorEq] at e; exact .und v
  | skp => intro d e; cases d <;> simp only [V.ren, reduceCtorEq] at e; exact .skp
  | tt => intro d e; cases d <;> simp only [V.ren, reduceCtorEq] at e; exact .tt
  | ff => intro d e; cases d <;> simp only [V.ren, reduceCtorEq] at e; exact .ff
  | bool b => intro d e; cases d <;> simp only [V.ren, reduceCtorEq, D.bool.injEq] at e; subst e; exact .bool _
  | int k n => intro d e; cases d <;> simp only [V.ren, reduceCtorEq, D.int.injEq] at e; obtain ⟨rfl, rfl⟩ := e; exact .int _ _
  | str s => intro d e; cases d <;> simp only [V.ren, reduceCtorEq, D.str.injEq] at e; subst e; exact .str _
  | nilp => intro d e; cases d <;> simp only [V.ren, reduceCtorEq] at e; exact .nilp
  | ro B off ds u hI h1 h _ => intro d e; cases d <;> simp only [V.ren, reduceCtorEq, D.ro.injEq] at e; subst e; exact .ro B off _ u hI h1 h
  | list0 a cap sz => intro d e; cases d <;> simp only [V.ren, reduceCtorEq, D.list.injEq] at e; obtain ⟨rfl, rfl⟩ := e; exact .list0 a cap _
  | list B off cap sz rows u hc hrow hI h1 h _ => intro d e; cases d <;> simp only [V.ren, reduceCtorEq, D.list.injEq] at e; obtain ⟨rfl, rfl⟩ := e; exact .list B off cap _ _ u hc hrow hI h1 h
  | nils a => intro d e; cases d <;> simp only [V.ren, reduceCtorEq] at e; exact .nils a
  | nilf => intro d e; cases d <;> simp only [V.ren, reduceCtorEq] at e; exact .nilf
  | yld l => intro d e; cases d <;> simp only [V.ren, reduceCtorEq, D.yld.injEq] at e; subst e; exact .yld _
  | nilm => intro d e; cases d <;> simp only [V.ren, reduceCtorEq] at e; exact .nilm
  | mloc i b R hb hfl hR =>
    intro d e
    cases d <;> simp only [V.ren, D.mloc.injEq, reduceCtorEq] at e
    subst e
    exact .mloc _ b R ((hf _).trans hb) hfl hR
  | sit i b R hb hfl hR =>
    intro d e
    cases d <;> simp only [V.ren, D.sit.injEq, reduceCtorEq] at e
    subst e
    exact .sit _ b R ((hf _).trans hb) hfl hR
  | asl c i len b R hb hfl hR =>
    intro d e
    cases d <;> simp only [V.ren, D.asl.injEq, reduceCtorEq] at e
    obtain ⟨rfl, rfl⟩ := e
    exact .asl c _ _ b R ((hf _).trans hb) hfl hR
  | mro R es ks vs hI hb hl hm h h' _ _ => intro d e; cases d <;> simp only [V.ren, reduceCtorEq, D.mro.injEq] at e; obtain ⟨rfl, rfl⟩ := e; exact .mro R es _ _ hI hb hl hm h h'

theorem RelL.unren {I : Imm} {β β' : BE} {vs : List Value} {ds : List D} {f : Nat → Nat} (h : RelL I β' vs (renL f ds)) (hf : ∀ i, β i = β' (f i)) : RelL I β vs ds :=
  ⟨by have := h.1; rw [renL_eq] at this; simpa using this, fun i v d hv hd => (h.2 i v (ren f d) hv (by rw [renL_get, hd]; rfl)).unren hf rfl⟩
theorem RelL.ren {I : Imm} {β β' : BE} {vs : List Value} {ds : List D} {f : Nat → Nat} (h : RelL I β vs ds) (hf : ∀ i b, β i = some b → β' (f i) = some b) : RelL I β' vs (renL f ds) :=
  ⟨by rw [renL_eq]; simpa using h.1, fun i v d hv hd => by
    rw [renL_get] at hd
    cases hd' : ds[i]? with
    | none => rw [hd'] at hd; cases hd
    | some d' => rw [hd'] at hd; cases hd; exact (h.2 i v d' hv hd').ren hf⟩

theorem BoxRel.ren {I : Imm} {β β' : BE} {w : World} {b : BI} {box : Box} (h : BoxRel I β w b box) {f : Nat → Nat} (hf : ∀ i b, β i = some b → β' (f i) = some b) : BoxRel I β' w b (box.ren f) := by
  cases box with
  | flat fz cells =>
    obtain ⟨h1, R, c, t, h2, h3, h4⟩ := h
    exact ⟨h1, R, c, t, h2, h3, h4.1.ren hf, h4.2⟩
  | rows fz g sz rs => exact h
  | map fz ks vs => exact h
  | siter fz s pos => exact h
theorem BoxRel.unren {I : Imm} {β β' : BE} {w : World} {b : BI} {box : Box} {f : Nat → Nat} (h : BoxRel I β' w b (box.ren f)) (hf : ∀ i, β i = β' (f i)) : BoxRel I β w b box := by
  cases box with
  | flat fz cells =>
    obtain ⟨h1, R, c, t, h2, h3, h4⟩ := h
    exact ⟨h1, R, c, t, h2, h3, h4.1.unren hf, h4.2⟩
  | rows fz g sz rs => exact h
  | map fz ks vs => exact h
  | siter fz s pos => exact h

theorem distinctB_get : ∀ {sel : List Nat}, distinctB sel = true → ∀ {i j k : Nat}, sel[i]? = some k → sel[j]? = some k → i = j
  | [], _, i, j, k, h, _ => by simp at h
  | x :: r, hd, i, j, k, hi, hj => by
    simp only [distinctB] at hd
    split at hd
    · cases hd
    · rename_i hc
      have hn : x ∉ r := fun h => by rw [List.contains_iff_mem.2 h] at hc; cases hc
      cases i with
      | zero =>
        cases j with
        | zero => rfl
        | succ j =>
          simp at hi hj
          subst hi
          exact absurd (List.mem_of_getElem? hj) hn
      | succ i =>
        cases j with
        | zero =>
          simp at hi hj
          subst hj
          exact absurd (List.mem_of_getElem? hi) hn
        | succ j => have := distinctB_get hd (i := i) (j := j) (k := k) (by simpa using hi) (by simpa using hj); omega

structure SelOK (sel : List Nat) (n : Nat) : Prop where
  inj : ∀ {i j k : Nat}, sel[i]? = some k → sel[j]? = some k → i = j
  lt : ∀ {i k : Nat}, sel[i]? = some k → k < n

theorem selOK_spec {sel : List Nat} {n : Nat} (h : selOK sel n = true) : SelOK sel n := by
  unfold selOK at h
  rw [Bool.and_eq_true] at h
  exact ⟨distinctB_get h.1, fun {i k} hi => by
    have := List.all_eq_true.1 h.2 k (List.mem_of_getElem? hi)
    exact Nat.blt_eq ▸ this⟩

theorem selF_in {sel : List Nat} {n i k : Nat} (h : sel[i]? = some k) : selF sel n i = k := by unfold selF; rw [h]
theorem selF_out {sel : List Nat} {n i : Nat} (h : sel.length ≤ i) : selF sel n i = n + (i - sel.length) := by
  unfold selF; rw [List.getElem?_eq_none h]

theorem selF_inj {sel : List Nat} {n : Nat} (h : SelOK sel n) {i j : Nat} (e : selF sel n i = selF sel n j) : i = j := by
  cases hi : sel[i]? with
  | some k =>
    rw [selF_in hi] at e
    cases hj : sel[j]? with
    | some m => rw [selF_in hj] at e; subst e; exact h.inj hi hj
    | none =>
      rw [selF_out (by simpa using hj)] at e
      have := h.lt hi
      omega
  | none =>
    have h1 : sel.length ≤ i := by simpa using hi
    rw [selF_out h1] at e
    cases hj : sel[j]? with
    | some m => rw [selF_in hj] at e; have := h.lt hj; omega
    | none =>
      have h2 : sel.length ≤ j := by simpa using hj
      rw [selF_out h2] at e
      omega

theorem getSel_get : ∀ {sel : List Nat} {bs : List Box} {i : Nat}, (getSel bs sel)[i]? = (sel[i]?).map fun k => bs[k]?
  | [], bs, i => by simp [getSel]
  | x :: r, bs, i => by
    cases i with
    | zero => simp [getSel]
    | succ i => simp only [getSel, List.getElem?_cons_succ]; exact getSel_get
theorem getSel_len : ∀ (sel : List Nat) (bs : List Box), (getSel bs sel).length = sel.length
  | [], _ => rfl
  | x :: r, bs => by simp [getSel, getSel_len r bs]

theorem putSel_len : ∀ {sel : List Nat} {bs l : List Box}, sel.length ≤ l.length → (putSel bs sel l).length = bs.length + (l.length - sel.length)
  | [], bs, l, _ => by simp [putSel]
  | i :: sel, bs, b :: l, h => by
    simp only [putSel]
    rw [putSel_len (by simpa using h)]
    simp
  | i :: sel, bs, [], h => by simp at h

theorem putSel_other : ∀ {sel : List Nat} {bs l : List Box} {k : Nat}, sel.length ≤ l.length → (∀ i : Nat, sel[i]? ≠ some k) → k < bs.length → (putSel bs sel l)[k]? = bs[k]?
  | [], bs, l, k, _, _, hk => by simp only [putSel]; rw [List.getElem?_append_left hk]
  | x :: sel, bs, b :: l, k, h, hk, hl => by
    simp only [putSel]
    rw [putSel_other (by simpa using h) (fun i => by have := hk (i + 1); simpa using this) (by simpa using hl)]
    have := hk 0
    simp at this
    rw [List.getElem?_set_ne this]
  | x :: sel, bs, [], k, h, _, _ => by simp at h

theorem putSel_new : ∀ {sel : List Nat} {bs l : List Box} {i : Nat}, sel.length ≤ l.length → (putSel bs sel l)[bs.length + i]? = l[sel.length + i]?
  | [], bs, l, i, _ => by simp only [putSel]; rw [List.getElem?_append_right (by omega)]; simp
  | x :: sel, bs, b :: l, i, h => by
    simp only [putSel]
    have := putSel_new (sel := sel) (bs := bs.set x b) (l := l) (i := i) (by simpa using h)
    simp only [List.length_set] at this
    rw [this]
    rw [show (x :: sel).length + i = sel.length + i + 1 by simp; omega]
    rfl
  | x :: sel, bs, [], i, h => by simp at h

theorem putSel_sel : ∀ {sel : List Nat} {bs l : List Box} {j k : Nat}, SelOK sel bs.length → sel.length ≤ l.length → sel[j]? = some k → (putSel bs sel l)[k]? = l[j]?
  | [], bs, l, j, k, _, _, hj => by simp at hj
  | x :: sel, bs, b :: l, j, k, hs, h, hj => by
    simp only [putSel]
    have hs' : SelOK sel (bs.set x b).length := ⟨fun {i j k} hi hj => by
        have := hs.inj (i := i + 1) (j := j + 1) (k := k) (by simpa using hi) (by simpa using hj)
        omega, fun {i k} hi => by have := hs.lt (i := i + 1) (k := k) (by simpa using hi); simpa using this⟩
    cases j with
    | zero =>
      simp at hj
      subst hj
      rw [putSel_other (by simpa using h) (fun i hi => by have := hs.inj (i := i + 1) (j := 0) (k := x) (by simpa using hi) rfl; omega) (by have := hs.lt (i := 0) (k := x) rfl; simpa using this)]
      rw [List.getElem?_set_self (hs.lt (i := 0) (k := x) rfl)]
      rfl
    | succ j =>
      rw [putSel_sel hs' (by simpa using h) (by simpa using hj)]
      rfl
  | x :: sel, bs, [], j, k, _, h, _ => by simp at h

theorem putSel_get {sel : List Nat} {bs l : List Box} (hs : SelOK sel bs.length) (h : sel.length ≤ l.length) (i : Nat) : (putSel bs sel l)[selF sel bs.length i]? = l[i]? := by
  cases hi : sel[i]? with
  | some k => rw [selF_in hi]; exact putSel_sel hs h hi
  | none =>
    have h1 : sel.length ≤ i := by simpa using hi
    rw [selF_out h1, putSel_new h]
    congr 1
    omega

theorem noFz_mem : ∀ {bs : List Box}, noFz bs = true → ∀ b ∈ bs, b.fz = false
  | [], _, b, hb => by cases hb
  | x :: r, h, b, hb => by
    simp only [noFz] at h
    split at h
    · cases h
    · rename_i hx
      rcases List.mem_cons.1 hb with rfl | hb
      · exact hx
      · exact noFz_mem h b hb

theorem Box.ren_fz (f : Nat → Nat) (b : Box) : (b.ren f).fz = b.fz := by cases b <;> rfl

/-! ### The call -/

section
variable {P : Program} {sh ish : Nat → Bool} {T : Nat → Option TI} {cx : Cx} {σ : St} {β : BE} {I : Imm} {S : Nat → Prop} {N : Nat} {a : Act} {w : World}

/-- Own blocks with cells that stay. -/
def Fixed (cx : Cx) (I : Imm) (k : Nat) : Prop := ¬ cx.old k ∧ ∃ off v, I k off = some v

/-- The context of a callee that is handed boxes: X is not to be touched; own blocks with cells that stay are old to it. -/
def Cx.inCall (cx : Cx) (X : Nat → Prop) (wX : World) (I : Imm) (m : Nat) (β0 : BE) : Cx where
  old := fun k => cx.old k ∨ Fixed cx I k
  Fr := fun w => cx.Fr w ∧ Keep (Fixed cx I) wX w
  J := fun y Sx w => ∃ S, cx.J y S w ∧ (∀ k, Sx k ↔ (S k ∨ X k)) ∧ (∀ k, S k → ¬ X k) ∧ (∀ k, X k → k < wX.heap.size) ∧ Keep X wX w ∧ (∀ B off v, I B off = some v → ¬ cx.old B → ¬ S B)
  I0 := I
  G := fun _ _ => False
  lo := m
  b0 := β0

variable {X : Nat → Prop} {wX : World} {m : Nat} {β0 : BE}

theorem Cx.inCall_ok (hcx : cx.Ok) (hb : ∀ i b, β0 i = some b → i < m) : (cx.inCall X wX I m β0).Ok where
  fr := fun _ _ h k => ⟨hcx.fr _ _ h.1 (k.mono fun _ hB => .inl hB), h.2.trans (k.mono fun _ hB => .inr hB)⟩
  j := fun _ _ _ _ ⟨S, h1, h2, h3, h4, h5, h6⟩ k => ⟨S, hcx.j _ _ _ _ h1 (k.mono fun B hB => (h2 B).2 (.inl hB)), h2, h3, h4, h5.trans (k.mono fun B hB => (h2 B).2 (.inr hB)), h6⟩
  g := fun _ _ h => h.elim
  b := hb

theorem Cx.inCall_yield (hy : YieldOK P cx) (hI0 : cx.I0.le I) (hold : ∀ B off, cx.old B → I B off = cx.I0 B off) : YieldOK P (cx.inCall X wX I m β0) := by
  rintro l x r Sx w I' vs ⟨S, h1, h2, h3, h4, h5, h6⟩ hfr hag hn0 hS hagI hrel
  obtain ⟨f, tmps, assign, body, hrun, hround⟩ := hy l x r S w I' vs h1 hfr.1 (fun B off v hv => hag B off v (hI0 B off v hv)) (fun k hk => hn0 k (.inl hk)) (fun B hB => hS B ((h2 B).2 (.inl hB))) hagI hrel
  refine ⟨f, tmps, assign, body, hrun, hround.mono ?_⟩
  rintro e w' ⟨b, S'', rfl, hj, hk, hs1, hs2, hag', hfr'⟩
  have hXk : ∀ k, X k → k < w.heap.size ∧ ¬ S k := fun k hk => ⟨hS k ((h2 k).2 (.inr hk)), fun hs => h3 k hs hk⟩
  refine ⟨b, fun k => S'' k ∨ X k, rfl, ⟨S'', hj, fun k => Iff.rfl, ?_, h4, h5.trans (hk.mono hXk), ?_⟩, hk.mono fun k hk' => ⟨hk'.1, fun hs => hk'.2 ((h2 k).2 (.inl hs))⟩, ?_, ?_, ?_, hfr', ?_⟩
  · intro k hk' hx
    rcases hs1 k hk' with h | h
    · exact h3 k h hx
    · have := (hXk k hx).1; omega
  · intro B off v hv hB hs
    rcases hs1 B hs with h | h
    · exact h6 B off v hv hB h
    · have := cell_lt (hag B off v hv); omega
  · rintro B (hB | hB)
    · rcases hs1 B hB with h | h
      · exact .inl ((h2 B).2 (.inl h))
      · exact .inr h
    · exact .inl ((h2 B).2 (.inr hB))
  · rintro B (hB | hB)
    · exact hs2 B hB
    · exact Nat.lt_of_lt_of_le (hXk B hB).1 hk.size
  · intro B off v hv
    by_cases hB : cx.old B
    · exact hag' B off v (by rw [← hold B off hB]; exact hv)
    · have h7 := hag B off v hv
      rw [hk.cell ⟨cell_lt h7, h6 B off v hv hB⟩]
      exact h7
  · exact hfr.2.trans (hk.mono fun k ⟨ho, off, v, hv⟩ => ⟨cell_lt (hag k off v hv), h6 k off v hv ho⟩)

theorem share_call (hcx : cx.Ok) (hy : YieldOK P cx) (hs : Sim cx (fun _ => True) σ β I S N a w) (htot : ∀ i, i < σ.boxes.length → (β i).isSome = true) {sel : List Nat} (hselB : selOK sel σ.boxes.length = true) {fk : FuncId} {args' : List D} {bs0 : List Box} {Q : D → List Box → Yst → Prop}
    {vs : List Value} (hrel : RelL I β vs (renL (selF sel σ.boxes.length) args')) (hbs : bs0.map (fun b => some (b.ren (selF sel σ.boxes.length))) = getSel σ.boxes sel) (hfz : noFz bs0 = true) (hden : DenY P fk args' bs0 σ.y Q) :
    Calls P fk vs.toArray w fun e w' => ∃ v d bs' y', e = .returned v ∧ Q d bs' y' ∧ ∃ β' I' S', Sim cx (fun _ => True) ⟨σ.tmps, putSel σ.boxes sel (bs'.map (Box.ren (selF sel σ.boxes.length))), y'⟩ β' I' S' N a w' ∧
      (∀ i, i < (putSel σ.boxes sel (bs'.map (Box.ren (selF sel σ.boxes.length)))).length → (β' i).isSome = true) ∧ Rel I' β' v (ren (selF sel σ.boxes.length) d) := by
  have hsel := selOK_spec hselB
  obtain ⟨n, hn⟩ : ∃ n, σ.boxes.length = n := ⟨_, rfl⟩
  rw [hn] at hrel hbs hsel ⊢
  obtain ⟨f, hf⟩ : ∃ f, selF sel n = f := ⟨_, rfl⟩
  have hfin : ∀ {i k : Nat}, sel[i]? = some k → f i = k := fun {i k} h => by rw [← hf]; exact selF_in h
  have hfout : ∀ {i : Nat}, sel.length ≤ i → f i = n + (i - sel.length) := fun {i} h => by rw [← hf]; exact selF_out h
  have hinj : ∀ {i j : Nat}, f i = f j → i = j := fun {i j} e => selF_inj hsel (by rw [hf]; exact e)
  rw [hf] at hrel hbs ⊢
  have hlast : ∀ i b, β i = some b → i < n := fun i b hb => by
    obtain ⟨box, h1, _⟩ := hs.bx i b hb
    rw [← hn]; exact (List.getElem?_eq_some_iff.1 h1).1
  have hdom : ∀ i b, β (f i) = some b → i < sel.length := fun i b hb => by
    rcases Nat.lt_or_ge i sel.length with h | h
    · exact h
    · have := hlast _ b hb
      rw [hfout h] at this
      omega
  have hl0 : bs0.length = sel.length := by
    have := congrArg List.length hbs
    rw [List.length_map, getSel_len] at this
    exact this
  have hget : ∀ {i k : Nat}, sel[i]? = some k → ∃ b0, bs0[i]? = some b0 ∧ σ.boxes[k]? = some (b0.ren f) := fun {i k} hi => by
    have h1 : bs0[i]? = some (bs0[i]'(by rw [hl0]; exact (List.getElem?_eq_some_iff.1 hi).1)) := List.getElem?_eq_getElem _
    refine ⟨_, h1, ?_⟩
    have := congrArg (·[i]?) hbs
    simp only [List.getElem?_map, getSel_get, h1, hi, Option.map_some, Option.some.injEq] at this
    exact this.symm
  -- the blocks that are handed over, and those that are not to be touched
  obtain ⟨Xs, hXs⟩ : ∃ Xs : Nat → Prop, Xs = fun R => ∃ i b, β (f i) = some b ∧ b.R = some R := ⟨_, rfl⟩
  have hXs : ∀ R, Xs R ↔ ∃ i b, β (f i) = some b ∧ b.R = some R := fun R => by rw [hXs]
  obtain ⟨X, hX⟩ : ∃ X : Nat → Prop, X = fun k => k < w.heap.size ∧ ¬ cx.old k ∧ ¬ S k ∧ ¬ Xs k ∧ ¬ Fixed cx I k := ⟨_, rfl⟩
  have hX : ∀ k, X k ↔ (k < w.heap.size ∧ ¬ cx.old k ∧ ¬ S k ∧ ¬ Xs k ∧ ¬ Fixed cx I k) := fun k => by rw [hX]
  have hunf : ∀ {i b R}, β (f i) = some b → b.R = some R → ¬ Fixed cx I R := fun {i b R} hb hR hfx => by
    obtain ⟨_, off, v, hv⟩ := hfx
    have hi := hdom i b hb
    obtain ⟨k, hk⟩ : ∃ k, sel[i]? = some k := ⟨_, List.getElem?_eq_getElem hi⟩
    obtain ⟨b0, h1, h2⟩ := hget hk
    have := hs.clear (f i) b R (b0.ren f) hb hR (by rw [hfin hk]; exact h2) (by rw [Box.ren_fz]; exact noFz_mem hfz b0 (List.mem_of_getElem? h1)) off
    rw [this] at hv; cases hv
  let cx1 := cx.inCall X w I sel.length (fun i => β (f i))
  have hcx1 : cx1.Ok := Cx.inCall_ok hcx hdom
  have hy1 : YieldOK P cx1 := Cx.inCall_yield hy hs.I0 hs.Iold
  have hp : Hp cx1 bs0 σ.y (fun i => β (f i)) I (fun k => S k ∨ X k) w := by
    refine ⟨{ tm := fun t d _ hl => (by cases hl), sz := rfl, agree := hs.agree, bx := fun i b hb => ?_, apart := fun i j b c R hb hc hR hR' => hinj (hs.apart _ _ b c R hb hc hR hR'), own := fun i b R hb hR => ?_, clear := fun i b R box hb hR hbox hfz' => ?_, fr := ⟨hs.fr, Keep.refl _ _⟩, n0 := fun k hk => ?_, I0 := Imm.le_refl _, Iold := fun _ _ _ => rfl, j := ⟨S, hs.j, fun k => Iff.rfl, fun k hk hx => ((hX k).1 hx).2.2.1 hk, fun k hk => ((hX k).1 hk).1, Keep.refl _ _, fun B off v hv hB => hs.sI B off v hv hB⟩, sb := fun B hB => ?_, sI := fun B off v hv hB => ?_, gh := fun _ _ h => h.elim, le0 := BE.le_refl _, nd := .nil, marks := fun d hd => (by cases hd) }, fun i hi => ?_⟩
    · have hi := hdom i b hb
      obtain ⟨k, hk⟩ : ∃ k, sel[i]? = some k := ⟨_, List.getElem?_eq_getElem hi⟩
      obtain ⟨b0, h1, h2⟩ := hget hk
      obtain ⟨box, h3, h4⟩ := hs.bx (f i) b hb
      rw [hfin hk, h2] at h3
      cases h3
      exact ⟨b0, h1, h4.unren fun _ => rfl⟩
    · obtain ⟨h1, h2⟩ := hs.own (f i) b R hb hR
      refine ⟨fun ho => ho.elim h1 (hunf hb hR), fun ho => ho.elim h2 fun hx => ((hX R).1 hx).2.2.2.1 ((hXs R).2 ⟨i, b, hb, hR⟩)⟩
    · have hi := hdom i b hb
      obtain ⟨k, hk⟩ : ∃ k, sel[i]? = some k := ⟨_, List.getElem?_eq_getElem hi⟩
      obtain ⟨b0, h1, h2⟩ := hget hk
      exact hs.clear (f i) b R (b0.ren f) hb hR (by rw [hfin hk]; exact h2) (by rw [Box.ren_fz]; exact noFz_mem hfz b0 (List.mem_of_getElem? h1))
    · rcases hk with hk | ⟨_, off, v, hv⟩
      · exact hs.n0 k hk
      · exact cell_lt (hs.agree k off v hv)
    · rcases hB with hB | hB
      · exact hs.sb B hB
      · exact ((hX B).1 hB).1
    · by_cases ho : cx.old B
      · exact absurd (.inl ho) hB
      · exact absurd (.inr ⟨ho, off, v, hv⟩) hB
    · have hi' : i < sel.length := by rw [← hl0]; exact hi
      obtain ⟨k, hk⟩ : ∃ k, sel[i]? = some k := ⟨_, List.getElem?_eq_getElem hi'⟩
      show (β (f i)).isSome = true
      rw [hfin hk]
      exact htot k (by rw [hn]; exact hsel.lt hk)
  refine (hden.2 cx1 w _ I _ vs hcx1 hy1 (by rw [hl0]; exact Nat.le_refl _) hp (hrel.unren fun _ => rfl)).mono ?_
  rintro e w' ⟨v, d, bs', y', β1, I1, S1, rfl, hq, ⟨hs1, htot1⟩, hv⟩
  obtain ⟨S2, hJ, hS1, hS2X, hXw, hkX, hSI⟩ := hs1.j
  obtain ⟨hfr, hkY⟩ := hs1.fr
  refine ⟨v, d, bs', y', rfl, hq, ?_⟩
  have hll : sel.length ≤ (bs'.map (Box.ren f)).length := by
    rw [List.length_map]
    rcases Nat.lt_or_ge bs'.length sel.length with h | h
    · exfalso
      obtain ⟨k, hk⟩ : ∃ k, sel[bs'.length]? = some k := ⟨_, List.getElem?_eq_getElem h⟩
      have h1 := htot k (by rw [hn]; exact hsel.lt hk)
      obtain ⟨b, hb⟩ := Option.isSome_iff_exists.1 h1
      obtain ⟨b', h2, _⟩ := hs1.le0 bs'.length b (by show β (f bs'.length) = some b; rw [hfin hk]; exact hb)
      obtain ⟨box, h3, _⟩ := hs1.bx _ b' h2
      have := (List.getElem?_eq_some_iff.1 h3).1
      exact Nat.lt_irrefl _ this
    · exact h
  have hputf : ∀ i, (putSel σ.boxes sel (bs'.map (Box.ren f)))[f i]? = (bs'[i]?).map (Box.ren f) := fun i => by
    have := putSel_get (sel := sel) (bs := σ.boxes) (l := bs'.map (Box.ren f)) (by rw [hn]; exact hsel) hll i
    rw [hn, hf] at this
    rw [this, List.getElem?_map]
  have hputo : ∀ k, (∀ i, f i ≠ k) → k < n → (putSel σ.boxes sel (bs'.map (Box.ren f)))[k]? = σ.boxes[k]? := fun k hk hkn =>
    putSel_other hll (fun i hi => hk i (hfin hi)) (by rw [hn]; exact hkn)
  have hputl : (putSel σ.boxes sel (bs'.map (Box.ren f))).length = n + (bs'.length - sel.length) := by
    rw [putSel_len hll, hn, List.length_map]
  -- where the boxes lie
  obtain ⟨β', hβ1, hβ2⟩ : ∃ β' : BE, (∀ i, β' (f i) = β1 i) ∧ ∀ k, (∀ i, f i ≠ k) → β' k = β k := by
    classical
    refine ⟨fun k => if h : ∃ i, f i = k then β1 h.choose else β k, fun i => ?_, fun k hk => ?_⟩
    · have h : ∃ j, f j = f i := ⟨i, rfl⟩
      simp only [dif_pos h]
      rw [hinj h.choose_spec]
    · simp only
      rw [dif_neg (fun ⟨i, hi⟩ => hk i hi)]
  have hcase : ∀ k, (∃ i, f i = k) ∨ ∀ i, f i ≠ k := fun k => by
    by_cases h : ∃ i, f i = k
    · exact .inl h
    · exact .inr fun i hi => h ⟨i, hi⟩
  have hle : β.le β' := fun k b hb => by
    rcases hcase k with ⟨i, rfl⟩ | hk
    · obtain ⟨b', h1, h2⟩ := hs1.le0 i b hb
      exact ⟨b', by rw [hβ1]; exact h1, h2⟩
    · exact ⟨b, by rw [hβ2 k hk]; exact hb, .inl rfl⟩
  have hI : I.le I1 := hs1.I0
  -- a block that is another box's is as it was
  have hother : ∀ {k b R}, (∀ i, f i ≠ k) → β k = some b → b.R = some R → ¬ Xs R ∧ w'.heap[R]? = w.heap[R]? := fun {k b R} hk hb hR => by
    have hnx : ¬ Xs R := fun hx => by
      obtain ⟨i, c, hc, hcR⟩ := (hXs R).1 hx
      exact hk i (hs.apart _ _ c b R hc hb hcR hR)
    refine ⟨hnx, ?_⟩
    obtain ⟨h1, h2⟩ := hs.own k b R hb hR
    by_cases hfx : Fixed cx I R
    · exact hkY.block R hfx
    · obtain ⟨box, _, h4⟩ := hs.bx k b hb
      obtain ⟨_, _, h5⟩ := h4.lt hR
      exact hkX.block R ((hX R).2 ⟨heap_lt h5, h1, h2, hnx, hfx⟩)
  have hmark : ∀ d ∈ a.defers, ∃ R, d = { target := .collected R, args := #[] } ∧ w.heap[R]? = some (.deferred (some [])) ∧ ¬ cx.old R ∧ ¬ S R ∧ X R := fun d hd => by
    obtain ⟨R, h1, h2, h3, h4⟩ := hs.marks d hd
    refine ⟨R, h1, h2, h3, h4, (hX R).2 ⟨heap_lt h2, h3, h4, fun hx => ?_, fun ⟨_, off, v, hv⟩ => ?_⟩⟩
    · obtain ⟨i, b, hb, hR⟩ := (hXs R).1 hx
      obtain ⟨box, _, h5⟩ := hs.bx _ b hb
      obtain ⟨_, hmem, h6⟩ := h5.lt hR
      rw [h2] at h6; cases h6; exact Bool.noConfusion hmem
    · have := hs.agree R off v hv
      simp [cellM, World.cell?, h2] at this
  refine ⟨β', I1, S2, { tm := fun t e _ hl => ?_, sz := hs.sz, agree := hs1.agree, bx := fun k b hb => ?_, apart := fun k j b c R hb hc hR hR' => ?_, own := fun k b R hb hR => ?_, clear := fun k b R box hb hR hbox hfz' off => ?_, fr := hfr, n0 := fun k hk => hs1.n0 k (.inl hk), I0 := Imm.le_trans hs.I0 hI, Iold := fun B off hB => (hs1.Iold B off (.inl hB)).trans (hs.Iold B off hB), j := hJ, sb := fun B hB => hs1.sb B ((hS1 B).2 (.inl hB)), sI := fun B off v hv hB hSB => ?_, gh := fun v d hg => (hs.gh v d hg).mono hI hle, le0 := BE.le_trans hs.le0 hle, nd := hs.nd, marks := fun d hd => ?_ }, fun k hk => ?_, hv.ren fun i b hb => by rw [hβ1]; exact hb⟩
  · obtain ⟨v, hv, hr⟩ := hs.tm t e trivial hl
    exact ⟨v, hv, hr.mono hI hle⟩
  · rcases hcase k with ⟨i, rfl⟩ | hk
    · rw [hβ1] at hb
      obtain ⟨box, h1, h2⟩ := hs1.bx i b hb
      exact ⟨box.ren f, by rw [hputf, h1]; rfl, h2.ren fun i b hb => by rw [hβ1]; exact hb⟩
    · rw [hβ2 k hk] at hb
      obtain ⟨box, h1, h2⟩ := hs.bx k b hb
      exact ⟨box, by rw [hputo k hk (hlast k b hb)]; exact h1, h2.mono hI hle fun R hR => (hother hk hb hR).2⟩
  · -- apart
    have hx : ∀ {i k b c}, β1 i = some b → (∀ i, f i ≠ k) → β k = some c → b.R = some R → c.R = some R → False := fun {i k b c} hb hk hc hR hR' => by
      obtain ⟨hnx, _⟩ := hother hk hc hR'
      obtain ⟨h1, h2⟩ := hs1.own i b R hb hR
      obtain ⟨h3, h4⟩ := hs.own k c R hc hR'
      obtain ⟨box, _, h5⟩ := hs.bx k c hc
      obtain ⟨_, _, h6⟩ := h5.lt hR'
      exact h2 ((hS1 R).2 (.inr ((hX R).2 ⟨heap_lt h6, h3, h4, hnx, fun hfx => h1 (.inr hfx)⟩)))
    rcases hcase k with ⟨i, rfl⟩ | hk
    · rw [hβ1] at hb
      rcases hcase j with ⟨i', rfl⟩ | hj
      · rw [hβ1] at hc
        rw [hs1.apart i i' b c R hb hc hR hR']
      · rw [hβ2 j hj] at hc
        exact (hx hb hj hc hR hR').elim
    · rw [hβ2 k hk] at hb
      rcases hcase j with ⟨i', rfl⟩ | hj
      · rw [hβ1] at hc
        exact (hx hc hk hb hR' hR).elim
      · rw [hβ2 j hj] at hc
        exact hs.apart k j b c R hb hc hR hR'
  · rcases hcase k with ⟨i, rfl⟩ | hk
    · rw [hβ1] at hb
      obtain ⟨h1, h2⟩ := hs1.own i b R hb hR
      exact ⟨fun ho => h1 (.inl ho), fun hS => h2 ((hS1 R).2 (.inl hS))⟩
    · rw [hβ2 k hk] at hb
      obtain ⟨h1, h2⟩ := hs.own k b R hb hR
      refine ⟨h1, fun hS => ?_⟩
      by_cases hfx : Fixed cx I R
      · obtain ⟨_, off, v, hv⟩ := hfx
        exact hSI R off v hv h1 hS
      · obtain ⟨box, _, h5⟩ := hs.bx k b hb
        obtain ⟨_, _, h6⟩ := h5.lt hR
        exact hS2X R hS ((hX R).2 ⟨heap_lt h6, h1, h2, (hother hk hb hR).1, hfx⟩)
  · rcases hcase k with ⟨i, rfl⟩ | hk
    · rw [hβ1] at hb
      rw [hputf] at hbox
      cases hb0 : bs'[i]? with
      | none => rw [hb0] at hbox; cases hbox
      | some b0 =>
        rw [hb0] at hbox
        cases hbox
        exact hs1.clear i b R b0 hb hR hb0 (by rw [← Box.ren_fz f]; exact hfz') off
    · rw [hβ2 k hk] at hb
      rw [hputo k hk (hlast k b hb)] at hbox
      cases hv : I1 R off with
      | none => rfl
      | some u =>
        exfalso
        obtain ⟨h1, h2⟩ := hs.own k b R hb hR
        have hfx : ¬ Fixed cx I R := fun ⟨_, off', v, hv'⟩ => by rw [hs.clear k b R box hb hR hbox hfz' off'] at hv'; cases hv'
        obtain ⟨box', _, h5⟩ := hs.bx k b hb
        obtain ⟨_, _, h6⟩ := h5.lt hR
        exact hs1.sI R off u hv (fun ho => ho.elim h1 hfx) ((hS1 R).2 (.inr ((hX R).2 ⟨heap_lt h6, h1, h2, (hother hk hb hR).1, hfx⟩)))
  · by_cases hfx : Fixed cx I B
    · obtain ⟨_, off', v', hv'⟩ := hfx
      exact hSI B off' v' hv' hB hSB
    · exact hs1.sI B off v hv (fun ho => ho.elim hB hfx) ((hS1 B).2 (.inl hSB))
  · obtain ⟨R, h1, h2, h3, h4, h5⟩ := hmark d hd
    exact ⟨R, h1, (hkX.block R h5).trans h2, h3, fun hS => hS2X R hS h5⟩
  · rw [hputl] at hk
    rcases hcase k with ⟨i, rfl⟩ | hk'
    · rw [hβ1]
      refine htot1 i ?_
      rcases Nat.lt_or_ge i sel.length with h | h
      · rw [List.length_map] at hll; omega
      · rw [hfout h] at hk; rw [List.length_map] at hll; omega
    · rw [hβ2 k hk']
      refine htot k ?_
      rcases Nat.lt_or_ge k n with h | h
      · rw [hn]; exact h
      · exact absurd (by rw [hfout (by omega)]; omega) (hk' (sel.length + (k - n)))

end
end Go.V
