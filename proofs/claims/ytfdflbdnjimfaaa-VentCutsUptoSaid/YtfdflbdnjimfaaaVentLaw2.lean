/- vent: VentCuts, where what it reads is of bulk at most 1048576: Way, Blanks and Proves return what the document says; Ways returns ErrDown as Blanks does. No condition. -/
import Derived.Test.YtfdflbdnjimfaaaRows
import Derived.Test.YtfdflbdnjimfaaaPackSK
import Derived.Test.YtfdflbdnjimfaaaPackTG
import Derived.Test.YtfdflbdnjimfaaaPackUN

namespace Go.Proofs.Ytfdflbdnjimfaaa
open Go.V Go.Proofs Go.Proofs.Vent

theorem bulk_one {H:Type} (d:DataW H):1≤Rows.uptoBulk d:=by
 cases d with
 | lit l=>cases l <;> simp [Rows.uptoBulk]
 | nil=>simp [Rows.uptoBulk]
 | ptr d=>simp [Rows.uptoBulk]
 | slice elems spare=>simp [Rows.uptoBulk]
 | agg parts=>simp [Rows.uptoBulk]
 | iface t d=>simp [Rows.uptoBulk]
 | map entries=>simp [Rows.uptoBulk]
 | held h=>simp [Rows.uptoBulk]
theorem bulk_len {H:Type}:∀ l:List (DataW H),l.length≤Rows.uptoBulkAll l
 | []=>Nat.zero_le _
 | x::r=>by
  have h1:=bulk_one x
  have h2:=bulk_len r
  simp only [Rows.uptoBulkAll,List.length_cons]
  omega
theorem bulk_part {H:Type} {d:DataW H}:∀ {l:List (DataW H)},d∈l→Rows.uptoBulk d≤Rows.uptoBulkAll l
 | [],h=>by cases h
 | x::r,h=>by
  simp only [Rows.uptoBulkAll]
  rcases List.mem_cons.1 h with rfl | h
  ·omega
  ·have:=bulk_part h
   omega

set_option maxRecDepth 100000 in
theorem law_den (es:List D) (h:WAL Try.prog 10 Try.f4.params.toList es) (hl:RowsN 1048576 es):Den Try.prog 4 es (.bool true):=by
 rw [Try.params4] at h
 obtain ⟨d1,r1,rfl,h1,d2,r2,rfl,h2,d3,r3,rfl,h3,rfl⟩:=h
 obtain ⟨n,rfl⟩:=net_of h1
 obtain ⟨bl,wt,k,rfl,hb,hw⟩:=asked_of h2
 obtain ⟨ways,rfl,hy,hy1⟩:=ways_of h3
 have h4:=hl 2 _ rfl 1 (ways.map encW) (by simp [cellsA])
 exact den4 n bl wt k ways (len62 hb) (len62 hw) (by simpa using h4) fun w hm=>len62 (hy1 w hm)

set_option maxRecDepth 100000 in
theorem law_lifted (os:Os) (started:os.Started) (H:Type) (enc:TypeId × Value→H) (F:Stop.Interp) :
    ReturnsInHanded {} Try.checked os 4 .any ((Rows.OpenSpec.upto Rows.ventCutsSpec).pre6 enc Try.prog Try.f4 Rows.ventCutsUptoRow.domain false) (((Rows.OpenSpec.upto Rows.ventCutsSpec).at F).post enc Try.prog Try.f4 false true false false) :=
  law_returns_upto hgl (C:=Try.checked) (s:=Rows.OpenSpec.upto Rows.ventCutsSpec) (k:=Rows.uptoSmall) rfl 10 1048576 rfl (fun ds hd=>by
      match ds,hd with
      | [_,_,_],_=>rfl)
    (Bk:=Rows.uptoBulk) (fun es sp=>by have:=bulk_len es;simp only [Rows.uptoBulk];omega) (fun l d hd=>by have:=bulk_part hd;simp only [Rows.uptoBulk];omega)
    (fun ds hk d hd=>by
     have h:Rows.uptoBulkAll (ds++[])≤1048576:=of_decide_eq_true hk
     rw [List.append_nil] at h
     exact Nat.le_trans (bulk_part hd) h)
    Vent.Try.own started (by kernel_rfl) Try.func4
    (OpenSpec.witness (enc:=enc) (C:=Try.checked) (s:=Rows.OpenSpec.upto Rows.ventCutsSpec) (k:=Rows.uptoSmall) rfl false ⟨#[],#[.agg #[.slice none 0 0,.slice none 0 0],.agg #[.slice none 0 0,.slice none 0 0,.int .i64 0],.slice none 0 0],[]⟩ 8 (by kernel_rfl) (by kernel_rfl) (by kernel_rfl)
     (x:=([.agg [.nil,.nil],.agg [.nil,.nil,.lit (.int .i64 0)],.nil],[],[])) (by kernel_rfl) rfl (by kernel_rfl))
    rfl Try.underlying4 Vent.Try.laidOut (by kernel_rfl) law_den

theorem cuts_holds:Rows.VentCutsUptoSaid :=
 OpenClaim.holds_of_cond 4 Try.f4 rfl rfl rfl rfl rfl rfl rfl ⟨rfl,rfl,rfl,rfl,rfl⟩ rfl rfl rfl rfl rfl (by kernel_rfl) Try.func4 (by kernel_rfl)
  (of_decide_eq_true (by kernel_rfl)) (by unfold Func.isWrapper;rw [if_neg (by decide +kernel)];exact ⟨rfl,rfl⟩)
  (fun os started H enc _ F=>law_lifted os started H enc F)

end Go.Proofs.Ytfdflbdnjimfaaa
