/- append(out, xs...) to rows of the call's own, in the words of the readings. -/
import Derived.Test.YtmbgcmeiigmbaaaAp
import Derived.Test.YtmbgcmeiigmbaaaAp2
import Derived.Test.YtmbgcmeiigmbaaaI
namespace Go.Proofs.Ytmbgcmeiigmbaaa
open Go.RowKit

theorem wp_append_S (w : World) {o : Oper} {a : Act} {K : Act → World → Prop} {Q : Exit → Act → World → Prop} (s x : Operand)
    (ho : o.op = .call { callee := .builtin .append, args := #[s, x], argTypes := #[38, 38] })
    (base : Nat) (v : Value) (zs : List ByteArray) (hs : a.eval s = v) (hown : OwnS w base v zs) (u : Value) (ys : List ByteArray) (hx : a.eval x = u) (hr : Strs w u ys)
    (hl : zs.length + ys.length ≤ 16777216) (hbase : base ≤ w.heap.size)
    (h : ∀ v' w', OwnS w' base v' (zs ++ ys) → w.grownBy w' v.ownBlock → K (a.put o.dst v') w') : o.wp Try.prog a w K Q := by
  obtain ⟨i0, hi, hz0, hz1, hz2⟩ := info_parts info_str
  refine wp_append_seq w s x 38 ho base 9 i0 _ 1 16 Try.underlying38 hi hz0 hz1 hz2 rfl (by omega) v zs.length _ hs hown.1 u ys.length _ hx hr.1 (by simp) ?_ (by unfold maxLen; omega) (by omega) hbase (fun v' w' q1 q2 => h v' w' ?_ q2)
  · intro y hy
    obtain ⟨_, _, rfl⟩ := List.mem_map.1 hy; rfl
  · refine ⟨?_, ?_⟩
    · rw [List.length_append, List.map_append]
      exact q1
    · intro e he
      rcases List.mem_append.1 he with he | he
      · exact hown.2 e he
      · exact hr.2 e he
theorem wpList_append_S (w : World) {ops : Array Oper} {rest : List Oper} {o : Oper} {a : Act} {Q : Exit → Act → World → Prop} (hgd : o.guard = none) (s x : Operand)
    (ho : o.op = .call { callee := .builtin .append, args := #[s, x], argTypes := #[38, 38] })
    (base : Nat) (v : Value) (zs : List ByteArray) (hs : a.eval s = v) (hown : OwnS w base v zs) (u : Value) (ys : List ByteArray) (hx : a.eval x = u) (hr : Strs w u ys)
    (hl : zs.length + ys.length ≤ 16777216) (hbase : base ≤ w.heap.size)
    (h : ∀ v' w', OwnS w' base v' (zs ++ ys) → w.grownBy w' v.ownBlock → wpList Try.prog ops Q rest (a.put o.dst v') w') : wpList Try.prog ops Q (o :: rest) a w :=
  wpList_plain hgd fun _ hK => wp_append_S w s x ho base v zs hs hown u ys hx hr hl hbase fun v' w' h2 h3 => hK _ _ (h v' w' h2 h3)
theorem step_append_S (w : World) {ops : Array Oper} {o : Oper} {a : Act} {K : Act → World → Prop} {Q : Exit → Act → World → Prop} {E : Prop} (hgd : o.guard = none) (s x : Operand)
    (ho : o.op = .call { callee := .builtin .append, args := #[s, x], argTypes := #[38, 38] })
    (base : Nat) (v : Value) (zs : List ByteArray) (hs : a.eval s = v) (hown : OwnS w base v zs) (u : Value) (ys : List ByteArray) (hx : a.eval x = u) (hr : Strs w u ys)
    (hl : zs.length + ys.length ≤ 16777216) (hbase : base ≤ w.heap.size)
    (h : ∀ v' w', OwnS w' base v' (zs ++ ys) → w.grownBy w' v.ownBlock → K (a.put o.dst v') w') :
    if Region.wanted o (yielded ops a.tmps) = true then Oper.wp Try.prog o a w K Q else E := by
  have hw : Region.wanted o (yielded ops a.tmps) = true := by simp [Region.wanted, hgd]
  rw [if_pos hw]
  exact wp_append_S w s x ho base v zs hs hown u ys hx hr hl hbase h
end Go.Proofs.Ytmbgcmeiigmbaaa
