/- Contracts of functions that the proof leans on. No condition. -/
import Derived.Test.YtfonfekejbmamaaDoorM49fc8e4784
import Derived.Test.YtfonfekejbmamaaDoorShelf
/- Reading items: plain facts about words and their signs; rows in a box; splitting by the library; the marks of one item. -/
namespace Go.Proofs.YtfonfekejbmamaaDoor
set_option linter.unusedVariables false
set_option linter.unusedSimpArgs false
set_option linter.unnecessarySimpa false
open Go.RowKit Go.Lib

theorem Only.over {S T : List Nat} {a b c : World} (h : Only S a b) (k : Only T b c) (hT : ∀ x ∈ T, x ∈ S ∨ a.heap.size ≤ x) : Only S a c :=
  ⟨k.os.trans h.os, k.tape.trans h.tape, k.output.trans h.output, Nat.le_trans h.size k.size, fun i hi hn => (k.block i (Nat.lt_of_lt_of_le hi h.size) (fun hx => by rcases hT i hx with q | q; exact hn q; omega)).trans (h.block i hi hn)⟩
theorem Only.step {S : List Nat} {a b c : World} (h : Only S a b) (k : Kept b c) : Only S a c := h.trans (k.only S)
theorem Box.set0 {w : World} {b : Nat} {t : TypeId} {x y z : Value} (h : Box w b t #[x, y, z]) (u : Value) : Box (w.setCell ⟨b, 0, none⟩ u) b t #[u, y, z] := h.set 0 u
theorem Box.set1 {w : World} {b : Nat} {t : TypeId} {x y z : Value} (h : Box w b t #[x, y, z]) (u : Value) : Box (w.setCell ⟨b, 1, none⟩ u) b t #[x, u, z] := h.set 1 u
theorem Box.set2 {w : World} {b : Nat} {t : TypeId} {x y z : Value} (h : Box w b t #[x, y, z]) (u : Value) : Box (w.setCell ⟨b, 2, none⟩ u) b t #[x, y, u] := h.set 2 u
/-- append(out, xs...), strings: only the row's own block turns; where the new row lies -/
theorem wpList_append_SD (w : World) {ops : Array Oper} {rest : List Oper} {o : Oper} {a : Act} {Q : Exit → Act → World → Prop} (hgd : o.guard = none) (s x : Operand)
    (ho : o.op = .call { callee := .builtin .append, args := #[s, x], argTypes := #[22, 22] })
    (base : Nat) (v : Value) (zs : List ByteArray) (hs : a.eval s = v) (hown : OwnS w base v zs) (u : Value) (ys : List ByteArray) (hx : a.eval x = u) (hr : Strs w u ys)
    (hl : zs.length + ys.length ≤ 16777216) (hbase : base ≤ w.heap.size)
    (h : ∀ v' w', OwnS w' base v' (zs ++ ys) → Only (fp v) w w' → (∀ b ∈ fp v', b ∈ fp v ∨ b = w.heap.size) → wpList Tryd.prog ops Q rest (a.put o.dst v') w') : wpList Tryd.prog ops Q (o :: rest) a w := by
  refine wpList_plain hgd fun K hK => ?_
  obtain ⟨i0, hi, hz0, hz1, hz2⟩ := info_parts info_str
  obtain ⟨v', w', hrun, h2, h3, h4⟩ := run_append_locG (P := Tryd.prog) w base 22 o.type 9 i0 _ 1 16 Tryd.underlying22 hi hz0 hz1 hz2 rfl (by omega) v zs.length _ hown.1 u ys.length (ys.map Value.string) hr.1 (by simp) (fun y hy => by obtain ⟨_, _, rfl⟩ := List.mem_map.1 hy; rfl) (by unfold maxLen; omega) (by omega) hbase
  unfold Oper.wp execOp
  simp only [ho, resolve, invoke, builtin, Sem.run_bind, Sem.run_pure, Result.andThen_ok, List.map_toArray, List.map_cons, List.map_nil, hs, hx, hrun]
  refine hK _ _ (h v' w' ?_ (only_of_grown h3) (fun b hb => ?_))
  · refine ⟨by rw [List.length_append, List.map_append]; exact h2, fun e he => ?_⟩
    rcases List.mem_append.1 he with he | he
    · exact hown.2 e he
    · exact hr.2 e he
  · have hb' : v'.ownBlock = some b := by simpa [fp] using hb
    rcases h4 with h4 | h4
    · left; rw [h4] at hb'; simpa [fp] using hb'
    · right; rw [h4] at hb'; exact (Option.some.inj hb').symm
/-- the same, numbers -/
theorem wpList_append_ID (w : World) {ops : Array Oper} {rest : List Oper} {o : Oper} {a : Act} {Q : Exit → Act → World → Prop} (hgd : o.guard = none) (s x : Operand)
    (ho : o.op = .call { callee := .builtin .append, args := #[s, x], argTypes := #[23, 23] })
    (base : Nat) (v : Value) (zs : List Int) (hs : a.eval s = v) (hown : OwnI w base v zs) (u : Value) (ys : List Int) (hx : a.eval x = u) (hr : Ints w u ys)
    (hl : zs.length + ys.length ≤ 16777216) (hbase : base ≤ w.heap.size)
    (h : ∀ v' w', OwnI w' base v' (zs ++ ys) → Only (fp v) w w' → (∀ b ∈ fp v', b ∈ fp v ∨ b = w.heap.size) → wpList Tryd.prog ops Q rest (a.put o.dst v') w') : wpList Tryd.prog ops Q (o :: rest) a w := by
  refine wpList_plain hgd fun K hK => ?_
  obtain ⟨i0, hi, hz0, hz1, hz2⟩ := info_parts info_int
  obtain ⟨v', w', hrun, h2, h3, h4⟩ := run_append_locG (P := Tryd.prog) w base 23 o.type 3 i0 _ 1 8 Tryd.underlying23 hi hz0 hz1 hz2 rfl (by omega) v zs.length _ hown u ys.length (ys.map (Value.int .i64)) hr (by simp) (fun y hy => by obtain ⟨_, _, rfl⟩ := List.mem_map.1 hy; rfl) (by unfold maxLen; omega) (by omega) hbase
  unfold Oper.wp execOp
  simp only [ho, resolve, invoke, builtin, Sem.run_bind, Sem.run_pure, Result.andThen_ok, List.map_toArray, List.map_cons, List.map_nil, hs, hx, hrun]
  refine hK _ _ (h v' w' ?_ (only_of_grown h3) (fun b hb => ?_))
  · unfold OwnI
    rw [List.length_append, List.map_append]
    exact h2
  · have hb' : v'.ownBlock = some b := by simpa [fp] using hb
    rcases h4 with h4 | h4
    · left; rw [h4] at hb'; simpa [fp] using hb'
    · right; rw [h4] at hb'; exact (Option.some.inj hb').symm

/-! ### words and signs -/
theorem endM_bd (w : List UInt8) : 0 ≤ endM w ∧ endM w ≤ 3 := by
  unfold endM
  split
  · split
    · omega
    · split
      · omega
      · split <;> omega
  · omega
theorem sig_one {m : Nat} (h1 : 1 ≤ m) (h3 : m ≤ 3) : ∃ c, signL (m : Int) = [c] ∧ ∀ b : UInt8, (if b = 60 then (1 : Int) else if b = 101 then 2 else if b = 42 then 3 else 0) = (m : Int) ↔ b = c := by
  have hm : m = 1 ∨ m = 2 ∨ m = 3 := by omega
  rcases hm with rfl | rfl | rfl
  · refine ⟨60, rfl, fun b => ⟨fun h => ?_, fun h => by subst h; rfl⟩⟩
    by_cases h1 : b = 60
    · exact h1
    · rw [if_neg h1] at h; split at h
      · cases h
      · split at h <;> cases h
  · refine ⟨101, rfl, fun b => ⟨fun h => ?_, fun h => by subst h; rfl⟩⟩
    by_cases h1 : b = 60
    · rw [if_pos h1] at h; cases h
    · rw [if_neg h1] at h
      by_cases h2 : b = 101
      · exact h2
      · rw [if_neg h2] at h; split at h <;> cases h
  · refine ⟨42, rfl, fun b => ⟨fun h => ?_, fun h => by subst h; rfl⟩⟩
    by_cases h1 : b = 60
    · rw [if_pos h1] at h; cases h
    · rw [if_neg h1] at h
      by_cases h2 : b = 101
      · rw [if_pos h2] at h; cases h
      · rw [if_neg h2] at h
        by_cases h3 : b = 42
        · exact h3
        · rw [if_neg h3] at h; cases h
/-- a word ends with a sign just if its mark is that sign's -/
theorem suf_sign {w : List UInt8} {m : Nat} (h1 : 1 ≤ m) (h3 : m ≤ 3) : hasSuffix w (signL (m : Int)) = decide (endM w = (m : Int)) := by
  obtain ⟨c, e, hc⟩ := sig_one h1 h3
  rw [e]
  induction w using snocInd with
  | h0 =>
    have : ¬ endM [] = (m : Int) := by rw [endM_nil]; omega
    rw [decide_eq_false this]
    rfl
  | h1 l b _ =>
    rw [endM_snoc]
    have hb := hc b
    by_cases hbc : b = c
    · rw [decide_eq_true (hb.2 hbc)]
      subst hbc
      exact List.isSuffixOf_iff_suffix.2 ⟨l, rfl⟩
    · rw [decide_eq_false (fun h => hbc (hb.1 h)), Bool.eq_false_iff]
      intro hs
      obtain ⟨t, ht⟩ := List.isSuffixOf_iff_suffix.1 hs
      have := (List.append_inj' ht rfl).2
      injection this with this
      exact hbc this.symm
theorem cut_sign {w : List UInt8} {m : Nat} (h1 : 1 ≤ m) (h3 : m ≤ 3) (he : endM w = (m : Int)) : trimSuffix w (signL (m : Int)) = cutM w := by
  have hs := suf_sign (w := w) h1 h3
  rw [decide_eq_true he] at hs
  obtain ⟨c, e, _⟩ := sig_one h1 h3
  have hs' := hs
  rw [e] at hs'
  obtain ⟨t, ht⟩ := List.isSuffixOf_iff_suffix.1 hs'
  unfold trimSuffix cutM
  rw [show hasSuffix w (signL (m : Int)) = true from hs, if_pos rfl, if_neg (by omega), e, ← ht]
  simp
def nmW (z : ByteArray) : ByteArray := nameM z.data.toList
def mkW (z : ByteArray) : Int := endM z.data.toList
theorem nmW_zero {z : ByteArray} (h : mkW z = 0) : nmW z = z := by
  unfold nmW nameM cutM
  unfold mkW at h
  rw [if_pos h]
theorem nmW_cut {z : ByteArray} (h : ¬ mkW z = 0) : z.extract 0 (z.size - 1) = nmW z := by
  unfold nmW nameM cutM
  unfold mkW at h
  rw [if_neg h, pc_ext]
  unfold pc tx
  rw [List.drop_zero, List.dropLast_eq_take, size_eq]
theorem last_ext {z : ByteArray} (h : 0 < z.size) : ∃ p b, z.data.toList = p ++ [b] ∧ z.extract (z.size - 1) z.size = tx [b] := by
  have hne : z.data.toList ≠ [] := by intro e; rw [size_eq, e] at h; simp at h
  refine ⟨_, _, (List.dropLast_concat_getLast hne).symm, ?_⟩
  rw [pc_ext]
  unfold pc
  congr 1
  rw [size_eq, List.take_length]
  conv => lhs; rw [← List.dropLast_concat_getLast hne]
  rw [List.drop_left' (by rw [List.length_dropLast, List.length_append, List.length_dropLast]; simp)]
theorem mkW_pos {z : ByteArray} (h : ¬ mkW z = 0) : 0 < z.size := by
  rcases Nat.eq_zero_or_pos z.size with h0 | h0
  · exfalso
    apply h
    unfold mkW
    rw [show z.data.toList = [] from List.eq_nil_of_length_eq_zero (by rw [← size_eq]; exact h0)]
    rfl
  · exact h0
theorem last_yes {z : ByteArray} {m : Nat} (h1 : 1 ≤ m) (h3 : m ≤ 3) (he : mkW z = (m : Int)) : z.extract (z.size - 1) z.size = sgB m := by
  obtain ⟨p, b, e, hx⟩ := last_ext (z := z) (mkW_pos (by omega))
  obtain ⟨c, ec, hc⟩ := sig_one h1 h3
  unfold mkW at he
  rw [e, endM_snoc] at he
  rw [hx, (hc b).1 he]
  unfold sgB
  rw [ec]
theorem last_no {z : ByteArray} {m : Nat} (h0 : 0 < z.size) (h1 : 1 ≤ m) (h3 : m ≤ 3) (he : ¬ mkW z = (m : Int)) : ¬ (z.extract (z.size - 1) z.size).toList = (sgB m).toList := by
  obtain ⟨p, b, e, hx⟩ := last_ext h0
  obtain ⟨c, ec, hc⟩ := sig_one h1 h3
  unfold mkW at he
  rw [e, endM_snoc] at he
  rw [hx, tx_toList]
  unfold sgB
  rw [tx_toList, ec]
  intro h
  injection h with h
  exact he ((hc b).2 h)
def nmsP (t : ByteArray) : List ByteArray := (spB 43 t).map nmW
def mksP (t : ByteArray) : List Int := (spB 43 t).map mkW
theorem nmsP_len (t : ByteArray) : (nmsP t).length = (spB 43 t).length := by simp [nmsP]
theorem mksP_len (t : ByteArray) : (mksP t).length = (spB 43 t).length := by simp [mksP]
theorem nmsP_snoc {t z : ByteArray} {k : Nat} (h : (spB 43 t)[k]? = some z) : (nmsP t).take (k + 1) = (nmsP t).take k ++ [nmW z] := take_snoc (by unfold nmsP; rw [List.getElem?_map, h]; rfl)
theorem mksP_snoc {t z : ByteArray} {k : Nat} (h : (spB 43 t)[k]? = some z) : (mksP t).take (k + 1) = (mksP t).take k ++ [mkW z] := take_snoc (by unfold mksP; rw [List.getElem?_map, h]; rfl)
theorem itP_parts {s t : ByteArray} {late : Bool} (ht : trimSuffix s.data.toList [32, 120] = t.data.toList) (hl : hasSuffix s.data.toList [32, 120] = late) : itP s.data.toList = ⟨nmsP t, mksP t, late⟩ := by
  unfold itP nmsP mksP spB
  rw [ht, hl, List.map_map, List.map_map]
  rfl
def piB (s : ByteArray) : Bool := itemB (itP s.data.toList)
def zeroT : ItemD := ⟨[], [], false⟩
def piV (s : ByteArray) : ItemD := if piB s then itP s.data.toList else zeroT
theorem piV_yes {s : ByteArray} (h : piB s = true) : piV s = itP s.data.toList := by unfold piV; rw [h]; rfl
theorem piV_no {s : ByteArray} (h : piB s = false) : piV s = zeroT := by unfold piV; rw [h]; rfl
theorem piV_len (s : ByteArray) : (piV s).names.length ≤ 3 ∧ (piV s).marks.length ≤ 3 := by
  cases h : piB s with
  | true =>
    rw [piV_yes h]
    obtain ⟨_, _, a, _, b⟩ := item_of h
    omega
  | false => rw [piV_no h]; exact ⟨by decide, by decide⟩
def PiPost (s : ByteArray) (w : World) (e : Ending) (w' : World) : Prop := ∃ v', e = .returned (.tuple #[v', .bool (piB s)]) ∧ OwnT w' w.heap.size v' (piV s) ∧ Kept w w'
/-- a cut string's size -/
theorem spB_sz {b : UInt8} {t z : ByteArray} (h : z ∈ spB b t) : z.size ≤ t.size := by
  unfold spB at h
  obtain ⟨l, hl, rfl⟩ := List.mem_map.1 h
  have hj := splitOn_join b t.data.toList
  rw [tx_size, size_eq, ← hj]
  have hm : ∀ (L : List (List UInt8)), l ∈ L → l.length ≤ (Lib.join L [b]).length := by
    intro L
    induction L with
    | nil => intro h; cases h
    | cons x r ih =>
      intro h
      cases r with
      | nil =>
        rw [join_one]
        rcases List.mem_cons.1 h with rfl | h
        · exact Nat.le_refl _
        · cases h
      | cons y r =>
        have e : Lib.join (x :: y :: r) [b] = x ++ [b] ++ Lib.join (y :: r) [b] := by rw [join_cons, join_cons]; simp [joinTail]
        rw [e, List.length_append, List.length_append]
        rcases List.mem_cons.1 h with rfl | h
        · omega
        · have := ih h; omega
  exact hm _ hl
theorem spB_le (b : UInt8) (t : ByteArray) : (spB b t).length ≤ t.size + 1 := by
  unfold spB
  rw [List.length_map, size_eq]
  exact splitOn_length_le _ _
theorem split_any (s : ByteArray) (b : UInt8) (w : World) (hs : s.size ≤ 1048576) (hm : HasMax w) :
    Calls Tryd.prog 31 #[.string s, .string ⟨#[b]⟩] w fun e w' => ∃ cap, e = .returned (.slice (some ⟨w.heap.size, 0, none⟩) (spB b s).length cap) ∧ OwnS w' w.heap.size (.slice (some ⟨w.heap.size, 0, none⟩) (spB b s).length cap) (spB b s) ∧ Kept w w' := by
  obtain ⟨m, hm⟩ := hm
  have e0 : splitB ⟨#[b]⟩ 0 (countB s ⟨#[b]⟩) s = spB b s := by
    have h1 := splitB_one b s
    unfold spB
    rw [← h1, List.map_map]
    conv => lhs; rw [← List.map_id (splitB ⟨#[b]⟩ 0 (countB s ⟨#[b]⟩) s)]
    refine List.map_congr_left fun x _ => ?_
    show x = tx x.data.toList
    rw [tx_of]
  have hc : countB s ⟨#[b]⟩ + 1 = (spB b s).length := by rw [← e0, Lib.splitB_all ⟨#[b]⟩ (Nat.le_refl 1) 0 _ s rfl]
  refine (Tryd.strings_Split s ⟨#[b]⟩ m w (by omega) hm (Nat.le_refl 1)).mono ?_
  rintro e w' ⟨rfl, rfl⟩
  rw [hc, e0]
  have hl := spB_le b s
  refine ⟨_, rfl, ⟨?_, fun z hz => by have := spB_sz hz; unfold maxLen; omega⟩, (Kept.refl w).alloc _⟩
  refine own_of_box (Box.new w _ _ _ rfl) (Nat.le_refl _) (Nat.le_refl _) (by unfold maxLen; omega) (by simp) (List.take_of_length_le (by simp))
set_option maxHeartbeats 1000000 in
theorem heldItem_any (v : Value) (x : ItemD) (k : Int) (w : World) (h : ItemAt w v (markM k x)) (hk : 1 ≤ k) (hk2 : k ≤ 137438953472) (hn : x.names.length ≤ 1048576) (hm : x.marks.length ≤ 1048576) :
    Calls Tryd.prog 12 #[v, .int .i64 k] w fun e w' => e = .returned (.int .i64 (nextM k x)) ∧ Kept w w' := by
  obtain ⟨nv, mv, rfl, q1, q2⟩ := h
  obtain ⟨A, c, rfl, _, _, _⟩ := q1.1.out
  obtain ⟨A2, c2, rfl, _, _, _⟩ := q2.out
  have H1 := Lib.hid q1
  have H2 := Lib.hid q2
  clear q1 q2
  unfold markM
  dsimp only
  have K0 : Kept w (w.alloc (.cells #[.slice A (marksS k x.names.length).length c, .slice A2 (marksI (k + x.names.length) x.marks.length).length c2, .bool x.late] 25)) := (Kept.refl w).alloc _
  have B0 := Box.new w w.heap.size 25 #[.slice A (marksS k x.names.length).length c, .slice A2 (marksI (k + x.names.length) x.marks.length).length c2, .bool x.late] rfl
  go_enter Tryd.func12, Tryd.ntmps12
  go_wp2_with fail
  refine (heldStringS_any _ k x.names.length _ (H1.out.kept K0) hk (by omega) hn).mono ?_
  rintro e w1 ⟨rfl, k1⟩
  obtain ⟨x0, y0⟩ := (B0.kept k1).three
  have K1 := K0.trans k1
  go_wp2_with fail
  clear x0 y0
  refine (heldIntS_any _ _ x.marks.length _ (H2.out.kept K1) (by omega) (by omega) hm).mono ?_
  rintro e w2 ⟨rfl, k2⟩
  subst k2
  go_wp2_with fail
  go_ret
  exact ⟨ret_int (by unfold nextM; rfl), K1⟩
end Go.Proofs.YtfonfekejbmamaaDoor
