/- Elements and codes in memory. -/
import Derived.Test.YtpkmngkepmoikaaN
import Derived.Test.YtpkmngkepmoikaaO
import Derived.StillTailTactics
import Derived.Deep.RegionHeld3
namespace Go.Proofs.Ytpkmngkepmoikaa
set_option linter.unusedVariables false
set_option linter.unusedSimpArgs false
open Go.RowKit

structure ElemD where
  name : ByteArray
  family : Int
  level : Int
  base : Int
structure CodeD where
  elems : List ElemD
  limits : List Int
  repeats : Int
  bonus : Int
  keeps : Int
  fall : Int
def cells4 (e : ElemD) : List Value := [.string e.name, .int .i64 e.family, .int .i64 e.level, .int .i64 e.base]
def Elems (w : World) (v : Value) (es : List ElemD) : Prop := Seq w v es.length (es.flatMap cells4) ∧ ∀ e ∈ es, e.name.size ≤ maxLen
def CodeAt (w : World) (v : Value) (c : CodeD) : Prop :=
  ∃ ev lv, v = .agg #[ev, lv, .int .i64 c.repeats, .int .i64 c.bonus, .int .i64 c.keeps, .int .i64 c.fall] ∧ Elems w ev c.elems ∧ Ints w lv c.limits
def ElemAt (_ : World) (v : Value) (e : ElemD) : Prop := v = .agg #[.string e.name, .int .i64 e.family, .int .i64 e.level, .int .i64 e.base] ∧ e.name.size ≤ maxLen
theorem ElemAt.mk (e : ElemD) (w : World) (h : e.name.size ≤ maxLen) : ElemAt w (.agg #[.string e.name, .int .i64 e.family, .int .i64 e.level, .int .i64 e.base]) e := ⟨rfl, h⟩
theorem ElemAt.kept {w w' : World} {v : Value} {e : ElemD} (h : ElemAt w v e) (_ : Kept w w') : ElemAt w' v e := h
theorem Elems.kept {w w' : World} {v : Value} {es : List ElemD} (h : Elems w v es) (hk : Kept w w') : Elems w' v es := ⟨h.1.kept hk, h.2⟩
theorem CodeAt.kept {w w' : World} {v : Value} {c : CodeD} (h : CodeAt w v c) (hk : Kept w w') : CodeAt w' v c := by
  obtain ⟨ev, lv, e, h1, h2⟩ := h
  exact ⟨ev, lv, e, h1.kept hk, h2.kept hk⟩
def OwnE (w : World) (base : Nat) (v : Value) (es : List ElemD) : Prop := w.ownsRow base 36 4 v es.length (es.flatMap cells4) ∧ ∀ e ∈ es, e.name.size ≤ maxLen
theorem fpA_code (a b : Value) (p q r s : Int) : fpA (.agg #[a, b, .int .i64 p, .int .i64 q, .int .i64 r, .int .i64 s]) = fp a ++ fp b := by
  simp [fpA, fp, Value.ownBlock]
def OwnK (w : World) (base : Nat) (v : Value) (c : CodeD) : Prop :=
  ∃ ev lv, v = .agg #[ev, lv, .int .i64 c.repeats, .int .i64 c.bonus, .int .i64 c.keeps, .int .i64 c.fall] ∧ OwnE w base ev c.elems ∧ OwnI w base lv c.limits ∧ (fpA v).Nodup
theorem OwnE.elems {w : World} {base : Nat} {v : Value} {es : List ElemD} (h : OwnE w base v es) : Elems w v es := ⟨Seq.of_own h.1, h.2⟩
theorem OwnE.only {w w' : World} {base : Nat} {v : Value} {es : List ElemD} {S : List Nat} (h : OwnE w base v es) (ho : Only S w w') (hd : ∀ b ∈ fp v, b ∉ S) : OwnE w' base v es := ⟨own_only h.1 ho hd, h.2⟩
theorem OwnE.kept {w w' : World} {base : Nat} {v : Value} {es : List ElemD} (h : OwnE w base v es) (hk : Kept w w') : OwnE w' base v es := ⟨own_kept h.1 hk, h.2⟩
theorem OwnE.far {w w' : World} {base base' : Nat} {v : Value} {es : List ElemD} {S : List Nat} (h : OwnE w base v es) (ho : Only S w w') (hS : ∀ b ∈ S, b < base) (hb : base' ≤ base) : OwnE w' base' v es := ⟨own_far h.1 ho hS hb, h.2⟩
theorem OwnK.code {w : World} {base : Nat} {v : Value} {c : CodeD} (h : OwnK w base v c) : CodeAt w v c := by
  obtain ⟨ev, lv, e, h1, h2, _⟩ := h
  exact ⟨ev, lv, e, h1.elems, h2.ints⟩
theorem OwnK.only {w w' : World} {base : Nat} {v : Value} {c : CodeD} {S : List Nat} (h : OwnK w base v c) (ho : Only S w w') (hd : ∀ b ∈ fpA v, b ∉ S) : OwnK w' base v c := by
  obtain ⟨ev, lv, rfl, h1, h2, h3⟩ := h
  rw [fpA_code] at hd
  exact ⟨ev, lv, rfl, h1.only ho (fun b hb => hd b (List.mem_append_left _ hb)), h2.only ho (fun b hb => hd b (List.mem_append_right _ hb)), h3⟩
theorem OwnK.kept {w w' : World} {base : Nat} {v : Value} {c : CodeD} (h : OwnK w base v c) (hk : Kept w w') : OwnK w' base v c := h.only (hk.only []) (fun _ _ => List.not_mem_nil)
theorem OwnK.fps {w : World} {base : Nat} {v : Value} {c : CodeD} (h : OwnK w base v c) : ∀ b ∈ fpA v, base ≤ b ∧ b < w.heap.size := by
  obtain ⟨ev, lv, rfl, h1, h2, h3⟩ := h
  rw [fpA_code]
  intro b hb
  rcases List.mem_append.1 hb with hb | hb
  · exact own_fp h1.1 b hb
  · exact own_fp h2 b hb
/-- an element of a slice, its four cells -/
theorem elems_at {w : World} {A : Option Addr} {es : List ElemD} (h : SeqA w A es.length (es.flatMap cells4)) {k : Nat} (hk : k < es.length) :
    ∃ b o e, A = some ⟨b, o, none⟩ ∧ b < w.heap.size ∧ es[k]? = some e ∧
      (w.cell? ⟨b, o + k * 4, none⟩ = some (.string e.name) ∧ w.cell? ⟨b, o + k * 4 + 1, none⟩ = some (.int .i64 e.family) ∧ w.cell? ⟨b, o + k * 4 + 2, none⟩ = some (.int .i64 e.level) ∧ w.cell? ⟨b, o + k * 4 + 3, none⟩ = some (.int .i64 e.base)) := by
  obtain ⟨b, o, ea, hb, hcell⟩ := h (by omega)
  have h1 : es[k]? = some es[k] := List.getElem?_eq_getElem hk
  have hf := flat_get cells4 4 (fun _ => rfl) es k
  have hc : ∀ j, j < 4 → w.cell? ⟨b, o + k * 4 + j, none⟩ = (cells4 es[k])[j]? := fun j hj => by
    have := hf j hj
    rw [h1] at this
    have hs : (cells4 es[k])[j]? = some ((cells4 es[k])[j]'hj) := List.getElem?_eq_getElem hj
    rw [hs, Nat.add_assoc]
    exact hcell (k * 4 + j) _ (this.trans hs)
  exact ⟨b, o, es[k], ea, hb, h1, hc 0 (by omega), hc 1 (by omega), hc 2 (by omega), hc 3 (by omega)⟩
end Go.Proofs.Ytpkmngkepmoikaa
