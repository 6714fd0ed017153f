/- Contracts of functions that the proof leans on. No condition. -/
import Derived.Test.YtapmlnpdjdneoaaMf74223ecc5
import Derived.Test.YtapmlnpdjdneoaaShelf
import Derived.Deep.RegionHeld3
import Derived.Deep.DeepCutAuto
import Derived.StillTailTactics
/- Items: slices.Sort and slices.Compact at rows of strings; NamesIn, both sides. -/
namespace Go.Proofs.Ytapmlnpdjdneoaa
set_option linter.unusedVariables false
set_option linter.unusedSimpArgs false
open Go.RowKit Go.Lib Go.Sort

theorem ownS_cases {w : World} {base : Nat} {v : Value} {zs : List ByteArray} (h : OwnS w base v zs) : (v = .slice none 0 0 ∧ zs = []) ∨ ∃ g cap, v = .slice (some ⟨g, 0, none⟩) zs.length cap ∧ zs.length ≤ cap ∧ cap ≤ maxLen := by
  rcases h.1.2 with ⟨e1, e2⟩ | ⟨g, cap, cur, e1, _, _, e4, e5, _⟩
  · exact .inl ⟨e1, List.eq_nil_of_length_eq_zero e2⟩
  · exact .inr ⟨g, cap, e1, e4, e5⟩
theorem own_shrink {w : World} {base g cap n m : Nat} {e : TypeId} {xs : List Value} (h : w.ownsRow base e 1 (.slice (some ⟨g, 0, none⟩) n cap) n xs) (hm : m ≤ n) : w.ownsRow base e 1 (.slice (some ⟨g, 0, none⟩) m cap) m (xs.take m) := by
  obtain ⟨hl, h2⟩ := h
  rcases h2 with ⟨e1, _⟩ | ⟨g', cap', cur, e1, hb, hg, hnc, hcm, hcs, ht⟩
  · cases e1
  · injection e1 with e1 e2 e3
    injection e1 with e1
    injection e1 with e1
    subst e1 e3
    refine ⟨by rw [List.length_take, hl]; omega, .inr ⟨g, cap, cur, rfl, hb, hg, by omega, hcm, hcs, ?_⟩⟩
    rw [← ht, List.take_take]
    congr 1
    omega
theorem enc_bl (zs : List ByteArray) : (zs.map bl).map encStr = zs.map Value.string := by
  rw [List.map_map]
  exact List.map_congr_left fun z _ => congrArg Value.string (bs_bl z)
theorem enc_bs (ls : List LB) : ls.map encStr = (ls.map bs).map Value.string := by
  rw [List.map_map]
  rfl
theorem names_len {zs : List LB} : (compact zs).length ≤ zs.length := by
  unfold compact compactUpTo
  rw [List.length_map]
  exact Nat.le_trans (List.length_filter_le _ _) (by simp)
theorem sortS_any (g cap : Nat) (zs : List ByteArray) (w : World) (base : Nat) (h : OwnS w base (.slice (some ⟨g, 0, none⟩) zs.length cap) zs) (hl : zs.length ≤ 1000000) :
    Calls Try.prog 33 #[.slice (some ⟨g, 0, none⟩) zs.length cap] w fun e w' => e = .returned (.tuple #[]) ∧ OwnS w' base (.slice (some ⟨g, 0, none⟩) zs.length cap) ((sortL (zs.map bl)).map bs) ∧ Only [g] w w' := by
  have h1 := h.1
  rw [← enc_bl] at h1
  have h2 : w.ownsRow base 9 1 (.slice (some ⟨g, 0, none⟩) (zs.map bl).length cap) (zs.map bl).length ((zs.map bl).map encStr) := by rw [List.length_map]; exact h1
  have c := Try.slices_Sort_string g 0 cap (zs.map bl) w (holds_own h2) (own_lt h1) (by rw [List.length_map]; omega)
  rw [List.length_map] at c
  refine c.mono ?_
  rintro e w' ⟨rfl, n, os, rfl⟩
  have q := putRow_own encStr h1 (ys := sortL (zs.map bl)) (by unfold sortL; rw [List.length_mergeSort, List.length_map]) n os
  refine ⟨rfl, ⟨?_, fun z hz => ?_⟩, q.2⟩
  · rw [← enc_bs, List.length_map, show (sortL (zs.map bl)).length = zs.length by unfold sortL; rw [List.length_mergeSort, List.length_map]]
    exact q.1
  · obtain ⟨l, hm, rfl⟩ := List.mem_map.1 hz
    obtain ⟨y, hy, e⟩ := List.mem_map.1 ((List.mergeSort_perm _ _).mem_iff.1 hm)
    subst e
    rw [bs_bl]
    exact h.2 y hy
theorem compactS_any (g cap : Nat) (zs : List ByteArray) (w : World) (base : Nat) (h : OwnS w base (.slice (some ⟨g, 0, none⟩) zs.length cap) ((sortL (zs.map bl)).map bs)) (hl : zs.length ≤ 1000000) (hcap : zs.length ≤ cap) (hsz : ∀ z ∈ zs, z.size ≤ maxLen) :
    Calls Try.prog 34 #[.slice (some ⟨g, 0, none⟩) zs.length cap] w fun e w' => ∃ v', e = .returned v' ∧ OwnS w' base v' (namesD zs) ∧ Only [g] w w' := by
  have hlen : (sortL (zs.map bl)).length = zs.length := by unfold sortL; rw [List.length_mergeSort, List.length_map]
  have h1 := h.1
  rw [List.length_map, hlen, ← enc_bs] at h1
  have h2 : w.ownsRow base 9 1 (.slice (some ⟨g, 0, none⟩) (sortL (zs.map bl)).length cap) (sortL (zs.map bl)).length ((sortL (zs.map bl)).map encStr) := by rw [hlen]; exact h1
  have c := Try.slices_Compact_string g 0 cap (sortL (zs.map bl)) w (holds_own h2) (by rw [hlen]; omega) (by rw [hlen]; exact hcap)
  have hcl := names_len (zs := sortL (zs.map bl))
  rw [hlen] at c hcl
  refine c.mono ?_
  rintro e w' ⟨rfl, n, rfl⟩
  have q := putRow_own encStr h1 (ys := compact (sortL (zs.map bl)) ++ List.replicate (zs.length - (compact (sortL (zs.map bl))).length) []) (by rw [List.length_append, List.length_replicate]; omega) n #[]
  rw [Go.Sort.grow_empty] at q
  refine ⟨_, rfl, ⟨?_, fun z hz => hsz z (names_mem hz)⟩, q.2⟩
  have s := own_shrink q.1 hcl
  have e1 : (namesD zs).length = (compact (sortL (zs.map bl))).length := by unfold namesD; rw [List.length_map]
  have e2 : ((compact (sortL (zs.map bl)) ++ List.replicate (zs.length - (compact (sortL (zs.map bl))).length) []).map encStr).take (compact (sortL (zs.map bl))).length = (namesD zs).map Value.string := by
    rw [← List.map_take, List.take_left, enc_bs]
    rfl
  rw [e2] at s
  rw [e1]
  exact s
def allN (its : List ItemD) : List ByteArray := its.flatMap ItemD.names
def niV (its : List ItemD) : List ByteArray := if itemsB its then namesD (allN its) else []
theorem niV_yes {its : List ItemD} (h : itemsB its = true) : niV its = namesD (allN its) := by unfold niV; rw [h]; rfl
theorem niV_no {its : List ItemD} (h : itemsB its = false) : niV its = [] := by unfold niV; rw [h]; rfl
theorem allN_snoc {its : List ItemD} {k : Nat} {it : ItemD} (h : its[k]? = some it) : allN (its.take (k + 1)) = allN (its.take k) ++ it.names := by
  unfold allN
  rw [take_snoc h, List.flatMap_append]
  simp
theorem allN_len : ∀ {its : List ItemD}, (∀ it ∈ its, itemB it = true) → (allN its).length ≤ 3 * its.length
  | [], _ => by simp [allN]
  | it :: t, h => by
    have h1 := allN_len (its := t) (fun x hx => h x (List.mem_cons_of_mem _ hx))
    have h2 := (itemB_true (h it (by simp)))
    have h3 : it.names.length ≤ 3 := by have := h2.2.2.1; omega
    unfold allN at *
    rw [List.flatMap_cons, List.length_append, List.length_cons]
    omega
theorem ret_vbN {v : Value} {b b' : Bool} (h : b = b') : Ending.returned (.tuple #[v, .bool b]) = .returned (.tuple #[v, .bool b']) := by rw [h]
theorem nilS (w : World) (base : Nat) : OwnS w base (.slice none 0 0) [] := ⟨⟨by simp, .inl ⟨rfl, rfl⟩⟩, fun _ h => by cases h⟩
theorem OwnS.base {w : World} {base base' : Nat} {v : Value} {zs : List ByteArray} (h : OwnS w base v zs) (hb : base' ≤ base) : OwnS w base' v zs := ⟨own_base h.1 hb, h.2⟩
theorem Only.above' {g : Nat} {a0 a b : World} (h : Only [g] a b) (k : Kept a0 a) (hg : a0.heap.size ≤ g) : Kept a0 b :=
  h.above k (fun x hx => by rw [List.mem_singleton] at hx; subst hx; exact hg)
set_option maxRecDepth 100000 in
theorem wpList_append_SL (w : World) {ops : Array Oper} {rest : List Oper} {o : Oper} {a : Act} {Q : Exit → Act → World → Prop} (hgd : o.guard = none) (s x : Operand)
    (ho : o.op = .call { callee := .builtin .append, args := #[s, x], argTypes := #[24, 24] })
    (base : Nat) (v : Value) (zs : List ByteArray) (hs : a.eval s = v) (hown : OwnS w base v zs) (u : Value) (ys : List ByteArray) (hx : a.eval x = u) (hr : Strs w u ys)
    (hl : zs.length + ys.length ≤ 16777216) (hbase : base ≤ w.heap.size)
    (h : ∀ v' w', OwnS w' base v' (zs ++ ys) → w.grownBy w' v.ownBlock → (v.ownBlock ≠ none → v'.ownBlock ≠ none) → wpList Try.prog ops Q rest (a.put o.dst v') w') : wpList Try.prog ops Q (o :: rest) a w := by
  refine wpList_plain hgd fun K hK => ?_
  obtain ⟨i0, hi, hz0, hz1, hz2⟩ := info_parts info_str
  obtain ⟨v', w', hrun, h2, h3, h4⟩ := run_append_locG (P := Try.prog) w base 24 o.type 9 i0 _ 1 16 Try.underlying24 hi hz0 hz1 hz2 rfl (by omega) v zs.length _ hown.1 u ys.length (ys.map Value.string) hr.1 (by simp) (fun y hy => by obtain ⟨_, _, rfl⟩ := List.mem_map.1 hy; rfl) (by unfold maxLen; omega) (by omega) hbase
  unfold Oper.wp execOp
  simp only [ho, resolve, invoke, builtin, Sem.run_bind, Sem.run_pure, Result.andThen_ok, List.map_toArray, List.map_cons, List.map_nil, hs, hx, hrun]
  refine hK _ _ (h v' w' ?_ h3 (fun hv => ?_))
  · refine ⟨by rw [List.length_append, List.map_append]; exact h2, fun e he => ?_⟩
    rcases List.mem_append.1 he with he | he
    · exact hown.2 e he
    · exact hr.2 e he
  · rcases h4 with h4 | h4
    · rw [h4]; exact hv
    · rw [h4]; simp
end Go.Proofs.Ytapmlnpdjdneoaa

/- Items: NamesIn, the reference's side. -/
namespace Go.Proofs.Ytapmlnpdjdneoaa
set_option linter.unusedVariables false
set_option linter.unusedSimpArgs false
open Go.RowKit Go.Lib

set_option maxRecDepth 100000 in
set_option maxHeartbeats 32000000 in
theorem specNamesIn_any (v0 : Value) (its : List ItemD) (w : World) (h0 : ItemsAt w v0 its)  :
    Calls Try.prog 8 #[v0] w fun e w' => ∃ v', e = .returned (.tuple #[v', .bool (itemsB its)]) ∧ OwnS w' w.heap.size v' (niV its) ∧ Kept w w' := by
  have H0 := Lib.hid h0
  obtain ⟨A0, c0, cs0, rfl, hnc0, hcm0, hA0⟩ := h0.out; have HA0 := Lib.hid hA0; clear hA0 h0; unfold maxLen at hcm0
  go_enter Try.func8, Try.ntmps8
  have K0 := Kept.refl w
  go_wp2_with fail
  refine (itList_any _ its _ (H0.out.kept K0)).mono ?_
  rintro e w1 ⟨rfl, k1⟩
  have sz1 := k1.size
  have K1 := K0.trans k1
  by_cases hq : itemsB its = true
  case neg =>
    simp only [Bool.not_eq_true] at hq
    rw [hq]
    have HO : Hid (itemsB its = false) := Lib.hid hq
    clear hq
    go_wp2_with fail
    go_ret2
    exact ⟨_, ret_vbN HO.out.symm, by rw [niV_no HO.out]; exact nilS _ _, K1⟩
  rw [hq]
  have HQ := Lib.hid hq
  have hl14 := (itemsB_true hq).1
  clear hq
  go_wp2_with fail
  go_loopw [4, 15] (fun s4 s15 wr => ∃ (k : Nat) (os : List ByteArray), k ≤ its.length ∧ s15 = .int .i64 k ∧ OwnS wr w.heap.size s4 os ∧ IsNames os (allN (its.take k)) ∧ os.length ≤ 3 * k ∧ Kept w1 wr) (fun _ i _ => its.length - (intOf i).toNat)
  case atStart => exact ⟨0, [], Nat.zero_le _, rfl, nilS _ _, isNames_nil, Nat.zero_le _, Kept.refl _⟩
  case round =>
    obtain ⟨wo, rfl⟩ : ∃ wo : World, wo = wr := ⟨_, rfl⟩
    obtain ⟨k, os0, hk, rfl, ho, hp, hol, hkept⟩ := hrel
    by_cases hlt : k < its.length
    · obtain ⟨b, o, A1, c1, A2, c2, it, rfl, hbb, h2, h3, hit, q0, q1, q2⟩ := items_at (HA0.out.kept (K1.trans hkept)) hlt
      have hib := (itemsB_true HQ.out).2 it (List.mem_of_getElem? h2)
      obtain ⟨-, hn1, hn3, -, -⟩ := itemB_true hib
      obtain ⟨nv, mv, ee, r1, r2⟩ := hit
      simp only [Value.agg.injEq] at ee
      simp at ee
      obtain ⟨rfl, rfl⟩ := ee
      have HS := Lib.hid r1
      have HAN := Lib.hid (allN_snoc h2)
      have HO0 := Lib.hid ho
      have HP0 := Lib.hid hp
      clear h2 h3 r1 r2 ho hp hib
      have hc1 : it.names.length ≤ c1 ∧ c1 ≤ maxLen := by obtain ⟨_, _, e, a, b, _⟩ := HS.out.1.out; injection e with _ _ e; subst e; exact ⟨a, b⟩
      obtain ⟨hc1, hc1m⟩ := hc1
      unfold maxLen at hc1m
      go_wp2_with fail
      go_loopw [4, 22] (fun s4 s22 wi => ∃ (j : Nat) (os : List ByteArray), j ≤ it.names.length ∧ s22 = .int .i64 j ∧ OwnS wi w.heap.size s4 os ∧ IsNames os (allN (its.take k) ++ it.names.take j) ∧ os.length ≤ 3 * k + j ∧ Kept wo wi) (fun _ i _ => it.names.length - (intOf i).toNat)
      case atStart => exact ⟨0, os0, Nat.zero_le _, rfl, HO0.out.kept ((Kept.refl _).alloc _), (by rw [List.take_zero, List.append_nil]; exact HP0.out), by omega, (Kept.refl _).alloc _⟩
      case round =>
        obtain ⟨wi, rfl⟩ : ∃ wi : World, wi = wr := ⟨_, rfl⟩
        obtain ⟨j, os, hj, rfl, ho, hp, hol2, hki⟩ := hrel
        have HP := Lib.hid hp
        clear hp
        by_cases hltj : j < it.names.length
        · obtain ⟨b1, o1, z, rfl, hb1, hz, hc⟩ := strs_at (HS.out.1.addr.kept hki) hltj
          have HZ := Lib.hid hz
          have HZS := Lib.hid (HS.out.2 z (List.mem_of_getElem? hz))
          clear hz
          rcases ownS_cases ho with ⟨rfl, rfl⟩ | ⟨g, cap, rfl, hcap1, hcap2⟩
          · have HO := Lib.hid ho
            clear ho
            go_wp2_with fail
            go_loop [9] (fun s9 => s9 = .int .i64 0) (fun _ => 0)
            case atStart => rfl
            case round =>
              subst hrel
              have HTO : Hid (Strs wi (.slice none 0 0) (([] : List ByteArray).take 0)) := Lib.hid ⟨Seq.nil wi, fun _ h => by cases h⟩
              have HFR : Hid (Strs wi (.slice none 0 0) (([] : List ByteArray).drop 0)) := Lib.hid ⟨Seq.nil wi, fun _ h => by cases h⟩
              have HLT : Hid ((([] : List ByteArray).take 0 ++ [z]).length + (([] : List ByteArray).drop 0).length ≤ 16777216) := Lib.hid (by simp)
              go_wp2_with fail
              have bA : Box (wi.alloc (.cells #[] 9)).drew wi.heap.size 9 #[] := Box.new wi _ _ _ rfl
              have bB : Box ((wi.alloc (.cells #[] 9)).alloc (.cells #[.string z] 9)).drew wi.heap.size 9 #[] := (Box.new wi wi.heap.size _ _ rfl).alloc _
              have bC : Box ((wi.alloc (.cells #[.string z] 9)).alloc (.cells #[] 9)).drew (wi.heap.size + 1) 9 #[] := Box.new (wi.alloc (.cells #[.string z] 9)) _ _ _ (by simp)
              have vB : Box ((wi.alloc (.cells #[] 9)).alloc (.cells #[.string z] 9)).drew (wi.heap.size + 1) 9 #[.string z] := Box.new (wi.alloc (.cells #[] 9)) _ _ _ (by simp)
              have vC : Box ((wi.alloc (.cells #[.string z] 9)).alloc (.cells #[] 9)).drew wi.heap.size 9 #[.string z] := (Box.new wi wi.heap.size _ _ rfl).alloc _
              have kA : Kept wi (wi.alloc (.cells #[] 9)).drew := ((Kept.refl wi).alloc _).drew
              have kB : Kept wi ((wi.alloc (.cells #[] 9)).alloc (.cells #[.string z] 9)).drew := (((Kept.refl wi).alloc _).alloc _).drew
              have kC : Kept wi ((wi.alloc (.cells #[.string z] 9)).alloc (.cells #[] 9)).drew := (((Kept.refl wi).alloc _).alloc _).drew
              go_region_held3 (fun _ => True) (trivial) (first | (refine step_put_S wi _ rfl (.tmp 52) (.tmp 55) rfl (.slice (some ⟨wi.heap.size, 0, none⟩) 0 0) [] rfl (own0_S (by first | exact Nat.le_refl _ | omega) bA) kA _ (([] : List ByteArray).take 0) rfl (HTO.out.kept kA) (by simp <;> omega) ?_; intro v1 w1 o1 k1 on1; rw [List.nil_append] at o1) | (refine step_put_S wi _ rfl (.tmp 52) (.tmp 55) rfl (.slice (some ⟨wi.heap.size, 0, none⟩) 0 0) [] rfl (own0_S (by first | exact Nat.le_refl _ | omega) bB) kB _ (([] : List ByteArray).take 0) rfl (HTO.out.kept kB) (by simp <;> omega) ?_; intro v1 w1 o1 k1 on1; rw [List.nil_append] at o1; have hv2 := strs_box1 (vB.only on1 (by simp [fp_some])) HZS.out) | (refine step_put_S wi _ rfl (.tmp 52) (.tmp 55) rfl (.slice (some ⟨wi.heap.size + 1, 0, none⟩) 0 0) [] rfl (own0_S (by first | exact Nat.le_refl _ | omega) bC) kC _ (([] : List ByteArray).take 0) rfl (HTO.out.kept kC) (by simp <;> omega) ?_; intro v1 w1 o1 k1 on1; rw [List.nil_append] at o1; have hv2 := strs_box1 (vC.only on1 (by simp [fp_some])) HZS.out) | (refine step_put_S wi _ rfl (.tmp 56) (.tmp 58) rfl _ (([] : List ByteArray).take 0) rfl o1 k1 _ [z] rfl hv2 (by simp <;> omega) ?_; intro v2 w2 o2 k2 on2) | (refine step_put_S wi _ rfl (.tmp 56) (.tmp 58) rfl _ (([] : List ByteArray).take 0) rfl (o1.kept ((Kept.refl w1).alloc (.cells #[.string z] 9))) (k1.alloc (.cells #[.string z] 9)) _ [z] rfl (strs_box1 (Box.new w1 _ _ _ rfl) HZS.out) (by simp <;> omega) ?_; intro v2 w2 o2 k2 on2) | (refine step_put_S wi _ rfl (.tmp 59) (.tmp 62) rfl _ (([] : List ByteArray).take 0 ++ [z]) rfl o2 k2 _ (([] : List ByteArray).drop 0) rfl (HFR.out.kept k2) HLT.out ?_; intro v3 w3 o3 k3 on3))
              all_goals
                go_wp2_with fail
                go_roundw
                case rel => exact ⟨j + 1, [z], by omega, by go_num, OwnS.base o3 (Nat.le_trans (Nat.le_trans K1.size hkept.size) hki.size), (by rw [take_snoc HZ.out, ← List.append_assoc]; exact isNames_ins (k := 0) HP.out (Nat.zero_le _) (fun _ _ h => absurd h (by omega)) (fun _ h => by cases h)), by simp; omega, hki.trans k3⟩
                case measure => simp [intOf]; omega
          · have HO := Lib.hid ho
            clear ho
            unfold maxLen at hcap2
            go_wp2_with fail
            go_loop [9] (fun s9 => ∃ m : Nat, m ≤ os.length ∧ s9 = .int .i64 m ∧ ∀ i x, i < m → os[i]? = some x → nlt x z = true) (fun s9 => os.length - (intOf s9).toNat)
            case atStart => exact ⟨0, Nat.zero_le _, rfl, fun i x hi _ => absurd hi (by omega)⟩
            case round =>
              obtain ⟨m, hm, rfl, hgt⟩ := hrel
              have HG := Lib.hid hgt
              clear hgt
              by_cases hme : m = os.length
              · have HX : Hid (∀ x, os[m]? = some x → nlt x z = false ∧ x ≠ z) := Lib.hid (fun x hx => absurd (List.getElem?_eq_some_iff.1 hx).1 (by omega))
                have hd1 : decide ((m : Int) < (os.length : Int)) = false := by simp; omega
                have hd2 : decide (m < os.length) = false := by simp; omega
                have he1 : ((m : Int) == (os.length : Int)) = true := by rw [hme]; simp
                have he2 : (m == os.length) = true := by rw [hme]; simp
                clear hme
                go_wp2_with fail
                clear hd1 hd2 he1 he2
                have HLT : Hid ((os.take m ++ [z]).length + (os.drop m).length ≤ 16777216) := Lib.hid (by rw [List.length_append, List.length_take, List.length_drop]; simp; omega)
                have htl : (os.take m).length ≤ 60 := by rw [List.length_take]; omega
                have HTO : Hid (Strs wi (.slice (some ⟨g, 0, none⟩) m cap) (os.take m)) := Lib.hid (strs_to HO.out.strs rfl hm)
                by_cases hcap : cap = m
                · subst hcap
                  have h9 : os.length = cap := by omega
                  have H9 := Lib.hid h9
                  have HFR : Hid (Strs wi (.slice (some ⟨g, 0, none⟩) 0 0) (os.drop cap)) := Lib.hid (strs_none (by omega))
                  have g2 : (cap : Int) ≤ (os.length : Int) := by omega
                  have g3 : (os.length : Int) ≤ (cap : Int) := by omega
                  have g5 : os.length ≤ cap := by omega
                  clear h9
                  have bA : Box (wi.alloc (.cells #[] 9)).drew wi.heap.size 9 #[] := Box.new wi _ _ _ rfl
                  have bB : Box ((wi.alloc (.cells #[] 9)).alloc (.cells #[.string z] 9)).drew wi.heap.size 9 #[] := (Box.new wi wi.heap.size _ _ rfl).alloc _
                  have bC : Box ((wi.alloc (.cells #[.string z] 9)).alloc (.cells #[] 9)).drew (wi.heap.size + 1) 9 #[] := Box.new (wi.alloc (.cells #[.string z] 9)) _ _ _ (by simp)
                  have vB : Box ((wi.alloc (.cells #[] 9)).alloc (.cells #[.string z] 9)).drew (wi.heap.size + 1) 9 #[.string z] := Box.new (wi.alloc (.cells #[] 9)) _ _ _ (by simp)
                  have vC : Box ((wi.alloc (.cells #[.string z] 9)).alloc (.cells #[] 9)).drew wi.heap.size 9 #[.string z] := (Box.new wi wi.heap.size _ _ rfl).alloc _
                  have kA : Kept wi (wi.alloc (.cells #[] 9)).drew := ((Kept.refl wi).alloc _).drew
                  have kB : Kept wi ((wi.alloc (.cells #[] 9)).alloc (.cells #[.string z] 9)).drew := (((Kept.refl wi).alloc _).alloc _).drew
                  have kC : Kept wi ((wi.alloc (.cells #[.string z] 9)).alloc (.cells #[] 9)).drew := (((Kept.refl wi).alloc _).alloc _).drew
                  go_region_held3 (fun _ => True) (trivial) (first | (refine step_put_S wi _ rfl (.tmp 52) (.tmp 55) rfl (.slice (some ⟨wi.heap.size, 0, none⟩) 0 0) [] rfl (own0_S (by first | exact Nat.le_refl _ | omega) bA) kA _ (os.take cap) rfl (HTO.out.kept kA) (by simp <;> omega) ?_; intro v1 w1 o1 k1 on1; rw [List.nil_append] at o1) | (refine step_put_S wi _ rfl (.tmp 52) (.tmp 55) rfl (.slice (some ⟨wi.heap.size, 0, none⟩) 0 0) [] rfl (own0_S (by first | exact Nat.le_refl _ | omega) bB) kB _ (os.take cap) rfl (HTO.out.kept kB) (by simp <;> omega) ?_; intro v1 w1 o1 k1 on1; rw [List.nil_append] at o1; have hv2 := strs_box1 (vB.only on1 (by simp [fp_some])) HZS.out) | (refine step_put_S wi _ rfl (.tmp 52) (.tmp 55) rfl (.slice (some ⟨wi.heap.size + 1, 0, none⟩) 0 0) [] rfl (own0_S (by first | exact Nat.le_refl _ | omega) bC) kC _ (os.take cap) rfl (HTO.out.kept kC) (by simp <;> omega) ?_; intro v1 w1 o1 k1 on1; rw [List.nil_append] at o1; have hv2 := strs_box1 (vC.only on1 (by simp [fp_some])) HZS.out) | (refine step_put_S wi _ rfl (.tmp 56) (.tmp 58) rfl _ (os.take cap) rfl o1 k1 _ [z] rfl hv2 (by simp <;> omega) ?_; intro v2 w2 o2 k2 on2) | (refine step_put_S wi _ rfl (.tmp 56) (.tmp 58) rfl _ (os.take cap) rfl (o1.kept ((Kept.refl w1).alloc (.cells #[.string z] 9))) (k1.alloc (.cells #[.string z] 9)) _ [z] rfl (strs_box1 (Box.new w1 _ _ _ rfl) HZS.out) (by simp <;> omega) ?_; intro v2 w2 o2 k2 on2) | (refine step_put_S wi _ rfl (.tmp 59) (.tmp 62) rfl _ (os.take cap ++ [z]) rfl o2 k2 _ (os.drop cap) (by first | rfl | (simp [Act.eval, Act.put, H9.out])) (HFR.out.kept k2) HLT.out ?_; intro v3 w3 o3 k3 on3))
                  all_goals
                    go_wp2_with fail
                    go_roundw
                    case rel => exact ⟨j + 1, os.take cap ++ z :: os.drop cap, by omega, by go_num, (by have q := OwnS.base o3 (Nat.le_trans (Nat.le_trans K1.size hkept.size) hki.size); rw [List.append_assoc] at q; exact q), (by rw [take_snoc HZ.out, ← List.append_assoc]; exact isNames_ins HP.out hm HG.out HX.out), (by rw [List.length_append, List.length_cons, List.length_take, List.length_drop]; omega), hki.trans k3⟩
                    case measure => simp [intOf]; omega
                · have HCAP := Lib.hid hcap
                  have HFR : Hid (Strs wi (.slice (some ⟨g, m, none⟩) (os.length - m) (cap - m)) (os.drop m)) := Lib.hid (by have q := strs_from HO.out.strs rfl hm; rw [Nat.zero_add] at q; exact q)
                  have hc2 : ¬ cap = m := hcap
                  have hc3 : (cap == m) = false := beq_eq_false_iff_ne.2 hcap
                  have g1 : (m : Int) ≤ (cap : Int) := by omega
                  have g2 : (m : Int) ≤ (os.length : Int) := by omega
                  have g3 : (os.length : Int) ≤ (cap : Int) := by omega
                  have g5 : os.length ≤ cap := by omega
                  have g4 : m ≤ cap := by omega
                  have bA : Box (wi.alloc (.cells #[] 9)).drew wi.heap.size 9 #[] := Box.new wi _ _ _ rfl
                  have bB : Box ((wi.alloc (.cells #[] 9)).alloc (.cells #[.string z] 9)).drew wi.heap.size 9 #[] := (Box.new wi wi.heap.size _ _ rfl).alloc _
                  have bC : Box ((wi.alloc (.cells #[.string z] 9)).alloc (.cells #[] 9)).drew (wi.heap.size + 1) 9 #[] := Box.new (wi.alloc (.cells #[.string z] 9)) _ _ _ (by simp)
                  have vB : Box ((wi.alloc (.cells #[] 9)).alloc (.cells #[.string z] 9)).drew (wi.heap.size + 1) 9 #[.string z] := Box.new (wi.alloc (.cells #[] 9)) _ _ _ (by simp)
                  have vC : Box ((wi.alloc (.cells #[.string z] 9)).alloc (.cells #[] 9)).drew wi.heap.size 9 #[.string z] := (Box.new wi wi.heap.size _ _ rfl).alloc _
                  have kA : Kept wi (wi.alloc (.cells #[] 9)).drew := ((Kept.refl wi).alloc _).drew
                  have kB : Kept wi ((wi.alloc (.cells #[] 9)).alloc (.cells #[.string z] 9)).drew := (((Kept.refl wi).alloc _).alloc _).drew
                  have kC : Kept wi ((wi.alloc (.cells #[.string z] 9)).alloc (.cells #[] 9)).drew := (((Kept.refl wi).alloc _).alloc _).drew
                  go_region_held3 (fun _ => True) (trivial) (first | (refine step_put_S wi _ rfl (.tmp 52) (.tmp 55) rfl (.slice (some ⟨wi.heap.size, 0, none⟩) 0 0) [] rfl (own0_S (by first | exact Nat.le_refl _ | omega) bA) kA _ (os.take m) rfl (HTO.out.kept kA) (by simp <;> omega) ?_; intro v1 w1 o1 k1 on1; rw [List.nil_append] at o1) | (refine step_put_S wi _ rfl (.tmp 52) (.tmp 55) rfl (.slice (some ⟨wi.heap.size, 0, none⟩) 0 0) [] rfl (own0_S (by first | exact Nat.le_refl _ | omega) bB) kB _ (os.take m) rfl (HTO.out.kept kB) (by simp <;> omega) ?_; intro v1 w1 o1 k1 on1; rw [List.nil_append] at o1; have hv2 := strs_box1 (vB.only on1 (by simp [fp_some])) HZS.out) | (refine step_put_S wi _ rfl (.tmp 52) (.tmp 55) rfl (.slice (some ⟨wi.heap.size + 1, 0, none⟩) 0 0) [] rfl (own0_S (by first | exact Nat.le_refl _ | omega) bC) kC _ (os.take m) rfl (HTO.out.kept kC) (by simp <;> omega) ?_; intro v1 w1 o1 k1 on1; rw [List.nil_append] at o1; have hv2 := strs_box1 (vC.only on1 (by simp [fp_some])) HZS.out) | (refine step_put_S wi _ rfl (.tmp 56) (.tmp 58) rfl _ (os.take m) rfl o1 k1 _ [z] rfl hv2 (by simp <;> omega) ?_; intro v2 w2 o2 k2 on2) | (refine step_put_S wi _ rfl (.tmp 56) (.tmp 58) rfl _ (os.take m) rfl (o1.kept ((Kept.refl w1).alloc (.cells #[.string z] 9))) (k1.alloc (.cells #[.string z] 9)) _ [z] rfl (strs_box1 (Box.new w1 _ _ _ rfl) HZS.out) (by simp <;> omega) ?_; intro v2 w2 o2 k2 on2) | (refine step_put_S wi _ rfl (.tmp 59) (.tmp 62) rfl _ (os.take m ++ [z]) rfl o2 k2 _ (os.drop m) rfl (HFR.out.kept k2) HLT.out ?_; intro v3 w3 o3 k3 on3))
                  all_goals
                    go_wp2_with fail
                    go_roundw
                    case rel => exact ⟨j + 1, os.take m ++ z :: os.drop m, by omega, by go_num, (by have q := OwnS.base o3 (Nat.le_trans (Nat.le_trans K1.size hkept.size) hki.size); rw [List.append_assoc] at q; exact q), (by rw [take_snoc HZ.out, ← List.append_assoc]; exact isNames_ins HP.out hm HG.out HX.out), (by rw [List.length_append, List.length_cons, List.length_take, List.length_drop]; omega), hki.trans k3⟩
                    case measure => simp [intOf]; omega
              · have hml : m < os.length := by omega
                obtain ⟨b', o', x, eA, hb', hx', q3⟩ := strs_at HO.out.strs.1.addr (k := m) hml
                injection eA with eA
                injection eA with eA1 eA2 eA3
                subst eA1 eA2
                have f3 : (m : Int) < (os.length : Int) := by omega
                have he1 : ((m : Int) == (os.length : Int)) = false := beq_eq_false_iff_ne.2 (by omega)
                have he2 : (m == os.length) = false := beq_eq_false_iff_ne.2 (by omega)
                have HXP := Lib.hid hx'
                have q4 : wi.cell? ⟨g, m, none⟩ = some (.string x) := by rw [Nat.zero_add] at q3; exact q3
                clear hx' eA3 hme
                by_cases hxz : nlt x z = true
                · have HXZ := Lib.hid hxz
                  unfold nlt at hxz
                  go_wp2_with fail
                  go_round
                  case rel => exact ⟨m + 1, by omega, by go_num, fun i y hi hy => by rcases Nat.lt_or_eq_of_le (Nat.le_of_lt_succ hi) with h1 | h1; exact HG.out i y h1 hy; subst h1; rw [HXP.out] at hy; injection hy with hy; subst hy; exact HXZ.out⟩
                  case measure => simp [intOf]; omega
                · simp only [Bool.not_eq_true] at hxz
                  have HXZ := Lib.hid hxz
                  unfold nlt at hxz
                  by_cases hxe : x = z
                  · have HXE := Lib.hid hxe
                    have hne : (!x.toList == z.toList) = false := by simp [hxe]
                    have heq : (x.toList == z.toList) = true := by simp [hxe]
                    clear hxe
                    go_wp2_with fail
                    go_roundw
                    case rel => exact ⟨j + 1, os, by omega, by go_num, HO.out, (by rw [take_snoc HZ.out, ← List.append_assoc]; exact isNames_in HP.out (by rw [← HXE.out]; exact List.mem_of_getElem? HXP.out)), by omega, hki⟩
                    case measure => simp [intOf]; omega
                  · have hnl : ¬ x.toList = z.toList := fun e => hxe (str_ext e)
                    have hne : (!x.toList == z.toList) = true := by simp [hnl]
                    have heq : (x.toList == z.toList) = false := by simp [hnl]
                    have HX : Hid (∀ y, os[m]? = some y → nlt y z = false ∧ y ≠ z) := Lib.hid (fun y hy => by rw [HXP.out] at hy; injection hy with hy; subst hy; exact ⟨HXZ.out, hxe⟩)
                    clear hxe hnl
                    go_wp2_with fail
                    clear f3 he1 he2 q3 q4 hxz hne heq
                    have HLT : Hid ((os.take m ++ [z]).length + (os.drop m).length ≤ 16777216) := Lib.hid (by rw [List.length_append, List.length_take, List.length_drop]; simp; omega)
                    have htl : (os.take m).length ≤ 60 := by rw [List.length_take]; omega
                    have HTO : Hid (Strs wi (.slice (some ⟨g, 0, none⟩) m cap) (os.take m)) := Lib.hid (strs_to HO.out.strs rfl hm)
                    by_cases hcap : cap = m
                    · subst hcap
                      have h9 : os.length = cap := by omega
                      have H9 := Lib.hid h9
                      have HFR : Hid (Strs wi (.slice (some ⟨g, 0, none⟩) 0 0) (os.drop cap)) := Lib.hid (strs_none (by omega))
                      have g2 : (cap : Int) ≤ (os.length : Int) := by omega
                      have g3 : (os.length : Int) ≤ (cap : Int) := by omega
                      have g5 : os.length ≤ cap := by omega
                      clear h9
                      have bA : Box (wi.alloc (.cells #[] 9)).drew wi.heap.size 9 #[] := Box.new wi _ _ _ rfl
                      have bB : Box ((wi.alloc (.cells #[] 9)).alloc (.cells #[.string z] 9)).drew wi.heap.size 9 #[] := (Box.new wi wi.heap.size _ _ rfl).alloc _
                      have bC : Box ((wi.alloc (.cells #[.string z] 9)).alloc (.cells #[] 9)).drew (wi.heap.size + 1) 9 #[] := Box.new (wi.alloc (.cells #[.string z] 9)) _ _ _ (by simp)
                      have vB : Box ((wi.alloc (.cells #[] 9)).alloc (.cells #[.string z] 9)).drew (wi.heap.size + 1) 9 #[.string z] := Box.new (wi.alloc (.cells #[] 9)) _ _ _ (by simp)
                      have vC : Box ((wi.alloc (.cells #[.string z] 9)).alloc (.cells #[] 9)).drew wi.heap.size 9 #[.string z] := (Box.new wi wi.heap.size _ _ rfl).alloc _
                      have kA : Kept wi (wi.alloc (.cells #[] 9)).drew := ((Kept.refl wi).alloc _).drew
                      have kB : Kept wi ((wi.alloc (.cells #[] 9)).alloc (.cells #[.string z] 9)).drew := (((Kept.refl wi).alloc _).alloc _).drew
                      have kC : Kept wi ((wi.alloc (.cells #[.string z] 9)).alloc (.cells #[] 9)).drew := (((Kept.refl wi).alloc _).alloc _).drew
                      go_region_held3 (fun _ => True) (trivial) (first | (refine step_put_S wi _ rfl (.tmp 52) (.tmp 55) rfl (.slice (some ⟨wi.heap.size, 0, none⟩) 0 0) [] rfl (own0_S (by first | exact Nat.le_refl _ | omega) bA) kA _ (os.take cap) rfl (HTO.out.kept kA) (by simp <;> omega) ?_; intro v1 w1 o1 k1 on1; rw [List.nil_append] at o1) | (refine step_put_S wi _ rfl (.tmp 52) (.tmp 55) rfl (.slice (some ⟨wi.heap.size, 0, none⟩) 0 0) [] rfl (own0_S (by first | exact Nat.le_refl _ | omega) bB) kB _ (os.take cap) rfl (HTO.out.kept kB) (by simp <;> omega) ?_; intro v1 w1 o1 k1 on1; rw [List.nil_append] at o1; have hv2 := strs_box1 (vB.only on1 (by simp [fp_some])) HZS.out) | (refine step_put_S wi _ rfl (.tmp 52) (.tmp 55) rfl (.slice (some ⟨wi.heap.size + 1, 0, none⟩) 0 0) [] rfl (own0_S (by first | exact Nat.le_refl _ | omega) bC) kC _ (os.take cap) rfl (HTO.out.kept kC) (by simp <;> omega) ?_; intro v1 w1 o1 k1 on1; rw [List.nil_append] at o1; have hv2 := strs_box1 (vC.only on1 (by simp [fp_some])) HZS.out) | (refine step_put_S wi _ rfl (.tmp 56) (.tmp 58) rfl _ (os.take cap) rfl o1 k1 _ [z] rfl hv2 (by simp <;> omega) ?_; intro v2 w2 o2 k2 on2) | (refine step_put_S wi _ rfl (.tmp 56) (.tmp 58) rfl _ (os.take cap) rfl (o1.kept ((Kept.refl w1).alloc (.cells #[.string z] 9))) (k1.alloc (.cells #[.string z] 9)) _ [z] rfl (strs_box1 (Box.new w1 _ _ _ rfl) HZS.out) (by simp <;> omega) ?_; intro v2 w2 o2 k2 on2) | (refine step_put_S wi _ rfl (.tmp 59) (.tmp 62) rfl _ (os.take cap ++ [z]) rfl o2 k2 _ (os.drop cap) (by first | rfl | (simp [Act.eval, Act.put, H9.out])) (HFR.out.kept k2) HLT.out ?_; intro v3 w3 o3 k3 on3))
                      all_goals
                        go_wp2_with fail
                        go_roundw
                        case rel => exact ⟨j + 1, os.take cap ++ z :: os.drop cap, by omega, by go_num, (by have q := OwnS.base o3 (Nat.le_trans (Nat.le_trans K1.size hkept.size) hki.size); rw [List.append_assoc] at q; exact q), (by rw [take_snoc HZ.out, ← List.append_assoc]; exact isNames_ins HP.out hm HG.out HX.out), (by rw [List.length_append, List.length_cons, List.length_take, List.length_drop]; omega), hki.trans k3⟩
                        case measure => simp [intOf]; omega
                    · have HCAP := Lib.hid hcap
                      have HFR : Hid (Strs wi (.slice (some ⟨g, m, none⟩) (os.length - m) (cap - m)) (os.drop m)) := Lib.hid (by have q := strs_from HO.out.strs rfl hm; rw [Nat.zero_add] at q; exact q)
                      have hc2 : ¬ cap = m := hcap
                      have hc3 : (cap == m) = false := beq_eq_false_iff_ne.2 hcap
                      have g1 : (m : Int) ≤ (cap : Int) := by omega
                      have g2 : (m : Int) ≤ (os.length : Int) := by omega
                      have g3 : (os.length : Int) ≤ (cap : Int) := by omega
                      have g5 : os.length ≤ cap := by omega
                      have g4 : m ≤ cap := by omega
                      have bA : Box (wi.alloc (.cells #[] 9)).drew wi.heap.size 9 #[] := Box.new wi _ _ _ rfl
                      have bB : Box ((wi.alloc (.cells #[] 9)).alloc (.cells #[.string z] 9)).drew wi.heap.size 9 #[] := (Box.new wi wi.heap.size _ _ rfl).alloc _
                      have bC : Box ((wi.alloc (.cells #[.string z] 9)).alloc (.cells #[] 9)).drew (wi.heap.size + 1) 9 #[] := Box.new (wi.alloc (.cells #[.string z] 9)) _ _ _ (by simp)
                      have vB : Box ((wi.alloc (.cells #[] 9)).alloc (.cells #[.string z] 9)).drew (wi.heap.size + 1) 9 #[.string z] := Box.new (wi.alloc (.cells #[] 9)) _ _ _ (by simp)
                      have vC : Box ((wi.alloc (.cells #[.string z] 9)).alloc (.cells #[] 9)).drew wi.heap.size 9 #[.string z] := (Box.new wi wi.heap.size _ _ rfl).alloc _
                      have kA : Kept wi (wi.alloc (.cells #[] 9)).drew := ((Kept.refl wi).alloc _).drew
                      have kB : Kept wi ((wi.alloc (.cells #[] 9)).alloc (.cells #[.string z] 9)).drew := (((Kept.refl wi).alloc _).alloc _).drew
                      have kC : Kept wi ((wi.alloc (.cells #[.string z] 9)).alloc (.cells #[] 9)).drew := (((Kept.refl wi).alloc _).alloc _).drew
                      go_region_held3 (fun _ => True) (trivial) (first | (refine step_put_S wi _ rfl (.tmp 52) (.tmp 55) rfl (.slice (some ⟨wi.heap.size, 0, none⟩) 0 0) [] rfl (own0_S (by first | exact Nat.le_refl _ | omega) bA) kA _ (os.take m) rfl (HTO.out.kept kA) (by simp <;> omega) ?_; intro v1 w1 o1 k1 on1; rw [List.nil_append] at o1) | (refine step_put_S wi _ rfl (.tmp 52) (.tmp 55) rfl (.slice (some ⟨wi.heap.size, 0, none⟩) 0 0) [] rfl (own0_S (by first | exact Nat.le_refl _ | omega) bB) kB _ (os.take m) rfl (HTO.out.kept kB) (by simp <;> omega) ?_; intro v1 w1 o1 k1 on1; rw [List.nil_append] at o1; have hv2 := strs_box1 (vB.only on1 (by simp [fp_some])) HZS.out) | (refine step_put_S wi _ rfl (.tmp 52) (.tmp 55) rfl (.slice (some ⟨wi.heap.size + 1, 0, none⟩) 0 0) [] rfl (own0_S (by first | exact Nat.le_refl _ | omega) bC) kC _ (os.take m) rfl (HTO.out.kept kC) (by simp <;> omega) ?_; intro v1 w1 o1 k1 on1; rw [List.nil_append] at o1; have hv2 := strs_box1 (vC.only on1 (by simp [fp_some])) HZS.out) | (refine step_put_S wi _ rfl (.tmp 56) (.tmp 58) rfl _ (os.take m) rfl o1 k1 _ [z] rfl hv2 (by simp <;> omega) ?_; intro v2 w2 o2 k2 on2) | (refine step_put_S wi _ rfl (.tmp 56) (.tmp 58) rfl _ (os.take m) rfl (o1.kept ((Kept.refl w1).alloc (.cells #[.string z] 9))) (k1.alloc (.cells #[.string z] 9)) _ [z] rfl (strs_box1 (Box.new w1 _ _ _ rfl) HZS.out) (by simp <;> omega) ?_; intro v2 w2 o2 k2 on2) | (refine step_put_S wi _ rfl (.tmp 59) (.tmp 62) rfl _ (os.take m ++ [z]) rfl o2 k2 _ (os.drop m) rfl (HFR.out.kept k2) HLT.out ?_; intro v3 w3 o3 k3 on3))
                      all_goals
                        go_wp2_with fail
                        go_roundw
                        case rel => exact ⟨j + 1, os.take m ++ z :: os.drop m, by omega, by go_num, (by have q := OwnS.base o3 (Nat.le_trans (Nat.le_trans K1.size hkept.size) hki.size); rw [List.append_assoc] at q; exact q), (by rw [take_snoc HZ.out, ← List.append_assoc]; exact isNames_ins HP.out hm HG.out HX.out), (by rw [List.length_append, List.length_cons, List.length_take, List.length_drop]; omega), hki.trans k3⟩
                        case measure => simp [intOf]; omega
        · obtain rfl : j = it.names.length := by omega
          have HO := Lib.hid ho
          clear ho
          go_wp2_with fail
          go_roundw
          case rel => exact ⟨k + 1, os, by omega, by go_num, HO.out, (by have q := HP.out; rw [List.take_length] at q; rw [HAN.out]; exact q), by omega, hkept.trans hki⟩
          case measure => simp [intOf]; omega
    · obtain rfl : k = its.length := by omega
      have HO := Lib.hid ho
      have HE : Hid (niV its = os0) := Lib.hid (by rw [niV_yes HQ.out]; rw [List.take_length] at hp; exact (isNames_eq hp).symm)
      clear ho hp
      go_wp2_with fail
      go_ret2
      exact ⟨_, ret_vbN HQ.out.symm, by rw [HE.out]; exact HO.out, K1.trans hkept⟩
end Go.Proofs.Ytapmlnpdjdneoaa

/- Items: NamesIn, the program's side. -/
namespace Go.Proofs.Ytapmlnpdjdneoaa
set_option linter.unusedVariables false
set_option linter.unusedSimpArgs false
open Go.RowKit Go.Lib

set_option maxRecDepth 100000 in
set_option maxHeartbeats 16000000 in
theorem implNamesIn_any (v0 : Value) (its : List ItemD) (w : World) (h0 : ItemsAt w v0 its)  :
    Calls Try.prog 10 #[v0] w fun e w' => ∃ v', e = .returned (.tuple #[v', .bool (itemsB its)]) ∧ OwnS w' w.heap.size v' (niV its) ∧ Kept w w' := by
  have H0 := Lib.hid h0
  obtain ⟨A0, c0, cs0, rfl, hnc0, hcm0, hA0⟩ := h0.out; have HA0 := Lib.hid hA0; clear hA0 h0; unfold maxLen at hcm0
  go_enter Try.func10, Try.ntmps10
  have K0 := Kept.refl w
  go_wp2_with fail
  refine (areItems_any _ its _ (H0.out.kept K0)).mono ?_
  rintro e w1 ⟨rfl, k1⟩
  have sz1 := k1.size
  have K1 := K0.trans k1
  by_cases hq : itemsB its = true
  case neg =>
    simp only [Bool.not_eq_true] at hq
    rw [hq]
    have HO : Hid (itemsB its = false) := Lib.hid hq
    clear hq
    go_wp2_with fail
    go_ret2
    exact ⟨_, ret_vbN HO.out.symm, by rw [niV_no HO.out]; exact nilS _ _, K1⟩
  rw [hq]
  have HQ := Lib.hid hq
  have hl14 := (itemsB_true hq).1
  have HAL : Hid ((allN its).length ≤ 3 * its.length) := Lib.hid (allN_len (itemsB_true hq).2)
  clear hq
  go_wp2_with fail
  go_loopw [4, 13] (fun s4 s13 wr => ∃ k : Nat, k ≤ its.length ∧ s13 = .int .i64 k ∧ OwnS wr w1.heap.size s4 (allN (its.take k)) ∧ s4.ownBlock ≠ none ∧ Kept w1 wr) (fun _ i _ => its.length - (intOf i).toNat)
  case atStart => exact ⟨0, Nat.zero_le _, rfl, ⟨own_made _ _ 1 (Nat.le_refl _) (Box.new _ _ _ _ rfl), fun _ h => by cases h⟩, (fun h => by cases h), (Kept.refl _).alloc _⟩
  case round =>
    obtain ⟨k, hk, rfl, ho, hnn, hkept⟩ := hrel
    by_cases hlt : k < its.length
    · obtain ⟨b, o, A1, c1, A2, c2, it, rfl, hbb, h2, h3, hit, q0, q1, q2⟩ := items_at (HA0.out.kept (K1.trans hkept)) hlt
      have hib := (itemsB_true HQ.out).2 it (List.mem_of_getElem? h2)
      obtain ⟨-, hn1, hn3, -, -⟩ := itemB_true hib
      obtain ⟨nv, mv, ee, r1, r2⟩ := hit
      simp only [Value.agg.injEq] at ee
      simp at ee
      obtain ⟨rfl, rfl⟩ := ee
      have HS := Lib.hid r1
      have HAN := Lib.hid (allN_snoc h2)
      have HO := Lib.hid ho
      have HNN := Lib.hid hnn
      have hlen : (allN (its.take k)).length ≤ 3 * k := by
        have q := allN_len (its := its.take k) (fun x hx => (itemsB_true HQ.out).2 x (List.mem_of_mem_take hx))
        rw [List.length_take] at q
        omega
      clear h2 h3 r1 r2 ho hib hnn
      go_wp2_with (at_builtin; refine wpList_append_SL _ rfl _ _ rfl w1.heap.size _ (allN (its.take k)) rfl (HO.out.kept ((Kept.refl _).alloc _)) _ it.names rfl (HS.out.kept ((Kept.refl _).alloc _)) (by omega) (by have := hkept.size; simp; omega) ?_; intro v3 w3 o3 g3 n3)
      have k3 := (hkept.alloc (.cells #[.slice A1 it.names.length c1, .slice A2 it.marks.length c2, .bool it.late] 52)).grew (HO.out.kept ((Kept.refl _).alloc _)).1 g3 (Nat.le_refl _)
      have N3 : Hid (v3.ownBlock ≠ none) := Lib.hid (n3 HNN.out)
      rw [← HAN.out] at o3
      have O3 := Lib.hid o3
      clear o3 n3 g3
      go_wp2_with fail
      go_roundw
      case rel => exact ⟨k + 1, by omega, by go_num, O3.out, N3.out, k3⟩
      case measure => simp [intOf]; omega
    · obtain rfl : k = its.length := by omega
      rw [List.take_length] at ho
      rcases ownS_cases ho with ⟨rfl, _⟩ | ⟨g, cap, rfl, hcap1, hcap2⟩
      · exact absurd rfl hnn
      have hal := HAL.out
      have HO := Lib.hid ho
      have hg1 : w1.heap.size ≤ g := (own_fp ho.1 g (by simp [fp_some])).1
      clear ho hnn
      go_wp2_with fail
      refine (sortS_any g cap (allN its) wr _ HO.out (by omega)).mono ?_
      rintro e w2 ⟨rfl, o2, on2⟩
      have k2 := on2.above' hkept hg1
      have O2 := Lib.hid o2
      clear o2 on2
      go_wp2_with fail
      refine (compactS_any g cap (allN its) w2 _ O2.out (by omega) hcap1 HO.out.2).mono ?_
      rintro e w3 ⟨v3, rfl, o3, on3⟩
      have k3 := on3.above' k2 hg1
      have O3 := Lib.hid o3
      clear o3 on3
      go_wp2_with fail
      go_ret2
      exact ⟨_, ret_vbN HQ.out.symm, by rw [niV_yes HQ.out]; exact OwnS.base O3.out K1.size, K1.trans k3⟩
end Go.Proofs.Ytapmlnpdjdneoaa

/- The texts that the laws write as marks. -/
namespace Go.Proofs.Ytapmlnpdjdneoaa
set_option linter.unusedVariables false
set_option linter.unusedSimpArgs false
open Go.RowKit

def dgc (q : Nat) : UInt8 := UInt8.ofNat (48 + q % 10)
theorem dgc_toNat (q : Nat) : (dgc q).toNat = 48 + q % 10 := by
  unfold dgc
  rw [UInt8.toNat_ofNat']
  omega
def digF : Nat → Nat → List UInt8 → List UInt8
  | 0, _, out => out
  | f + 1, q, out => if q = 0 then out else digF f (q / 10) (dgc q :: out)
def mt (k : Int) : ByteArray := ⟨(109 :: digF 20 k.toNat []).toArray⟩
theorem digF_zero (f : Nat) (out : List UInt8) : digF f 0 out = out := by cases f <;> simp [digF]
theorem ba_cons (c : UInt8) (l : List UInt8) : (⟨#[c]⟩ : ByteArray) ++ ⟨l.toArray⟩ = ⟨(c :: l).toArray⟩ := by
  apply ByteArray.ext
  simp
theorem conv_one (w : World) (c : UInt8) (n : Int) (hn : n = c.toNat) :
    (convert 81 9 (.slice (some ⟨w.heap.size, 0, none⟩) 1 1)).run Try.prog (w.alloc (.cells #[.int .u8 n] 5)) = .ok (.string ⟨#[c]⟩) (w.alloc (.cells #[.int .u8 n] 5)) := by
  subst hn
  exact run_convert_bytes_back (P := Try.prog) (w.alloc (.cells #[.int .u8 (c.toNat : Int)] 5)) 81 9 5 ⟨w.heap.size, 0, none⟩ 1 [c] Try.underlying81 Try.underlying5 Try.underlying9 (fun j hj => by
    obtain rfl : j = 0 := by simpa using hj
    simp [Addr.add])
set_option maxHeartbeats 1000000 in
theorem markText_any (k : Int) (w : World) (h0 : 1 ≤ k) (h1 : k ≤ 1099511627776) :
    Calls Try.prog 36 #[.int .i64 k] w fun e w' => e = .returned (.string (mt k)) ∧ Kept w w' := by
  go_enter Try.func36, Try.ntmps36
  go_wp2_with fail
  go_loopw [0, 3] (fun q o wr => ∃ (f q' : Nat) (out : List UInt8), q = .int .i64 q' ∧ o = .string ⟨out.toArray⟩ ∧ q' < 10 ^ f ∧ q' ≤ 1099511627776 ∧ out.length + f ≤ 20 ∧ digF f q' out = digF 20 k.toNat [] ∧ Kept w wr) (fun q _ _ => (intOf q).toNat)
  case atStart => exact ⟨20, k.toNat, [], by congr 1; omega, rfl, by omega, by omega, by simp, rfl, Kept.refl _⟩
  case round =>
    obtain ⟨f, q', out, rfl, rfl, hq, hq2, hf, hd, hkept⟩ := hrel
    have HD := Lib.hid hd
    clear hd
    by_cases hpos : 0 < q'
    · have hcv := conv_one wr (dgc q') (48 + (q' : Int) % 10) (by rw [dgc_toNat]; omega)
      have HQ := Lib.hid hq
      clear hq
      go_wp2_with fail
      go_roundw
      case rel =>
        cases f with
        | zero =>
          have := HQ.out
          simp at this
          omega
        | succ f =>
          refine ⟨f, q' / 10, dgc q' :: out, by go_num, by rw [ba_cons], ?_, by omega, by simp; omega, ?_, hkept.alloc _⟩
          · have := HQ.out
            rw [Nat.pow_succ] at this
            omega
          · rw [← HD.out, digF, if_neg (by omega)]
      case measure => simp [intOf]; omega
    · obtain rfl : q' = 0 := by omega
      go_wp2_with fail
      go_ret
      refine ⟨?_, hkept⟩
      have := HD.out
      rw [digF_zero] at this
      unfold mt
      rw [← this, ← ba_cons]
      rfl
theorem digF_length (f q : Nat) (out : List UInt8) : (digF f q out).length ≤ out.length + f := by
  induction f generalizing q out with
  | zero => simp [digF]
  | succ f ih =>
    rw [digF]
    split
    · omega
    · have := ih (q / 10) (dgc q :: out)
      simp at this
      omega
theorem mt_size (k : Int) : (mt k).size ≤ maxLen := by
  have := digF_length 20 k.toNat []
  have h : (mt k).size = (digF 20 k.toNat []).length + 1 := by
    show (109 :: digF 20 k.toNat []).toArray.size = _
    simp
  rw [h]
  unfold maxLen
  simp at this
  omega
def marksS (k : Int) (n : Nat) : List ByteArray := (List.range n).map fun (i : Nat) => mt (k + (i : Int))
theorem marksS_length (k : Int) (n : Nat) : (marksS k n).length = n := by simp [marksS]
theorem marksS_get {k : Int} {n i : Nat} (h : i < n) : (marksS k n)[i]? = some (mt (k + i)) := by simp [marksS, h]
theorem marksS_size (k : Int) (n : Nat) : ∀ z ∈ marksS k n, z.size ≤ maxLen := by
  intro z hz
  unfold marksS at hz
  obtain ⟨i, _, rfl⟩ := List.mem_map.1 hz
  exact mt_size _
end Go.Proofs.Ytapmlnpdjdneoaa

/- The marks that the laws write: strings. -/
namespace Go.Proofs.Ytapmlnpdjdneoaa
set_option linter.unusedVariables false
set_option linter.unusedSimpArgs false
open Go.RowKit

set_option maxHeartbeats 1000000 in
theorem markStringS_any (v : Value) (zs : List ByteArray) (k : Int) (w : World) (base : Nat) (h : OwnS w base v zs) (hk : 1 ≤ k) (hk2 : k ≤ 549755813888) (hn : zs.length ≤ 1048576) :
    Calls Try.prog 14 #[v, .int .i64 k] w fun e w' => e = .returned (.int .i64 (k + zs.length)) ∧ OwnS w' base v (marksS k zs.length) ∧ Only (fp v) w w' := by
  obtain ⟨A, c, rfl, hnc, hcm, hA⟩ := own_form h.1
  unfold maxLen at hcm
  have HA := Lib.hid hA
  have HI := Lib.hid h.1
  clear h hA
  go_enter Try.func14, Try.ntmps14
  go_wp2_with fail
  go_loopw [1, 5] (fun q i wr => ∃ (j : Nat) (xs : List Value), j ≤ zs.length ∧ i = .int .i64 j ∧ q = .int .i64 (k + j) ∧ wr.ownsRow base 9 1 (.slice A zs.length c) zs.length xs ∧ xs.take j = ((marksS k zs.length).map Value.string).take j ∧ Only (fp (.slice A zs.length c)) w wr) (fun _ i _ => zs.length - (intOf i).toNat)
  case atStart => exact ⟨0, _, Nat.zero_le _, rfl, by simp, HI.out, rfl, Only.refl _ _⟩
  case round =>
    obtain ⟨j, xs, hj, rfl, rfl, ho, ht, hon⟩ := hrel
    have hlen : xs.length = zs.length := by simpa using ho.1
    by_cases hlt : j < zs.length
    · obtain ⟨g, rfl⟩ := HA.out (by omega)
      have HT := Lib.hid ht
      have HO := Lib.hid hlen
      have HN := Lib.hid hon
      have HR := Lib.hid ho
      clear ht hlen ho hon
      go_wp2_with fail
      refine (markText_any _ _ (by omega) (by omega)).mono ?_
      rintro e w1 ⟨rfl, k1⟩
      have ho1 := own_kept HR.out k1
      obtain ⟨u0, hx, hd, hf⟩ := own_at ho1 (j := j) (by omega)
      have HS := Lib.hid (ho1.stored j (.string (mt (k + j))))
      clear ho1 hx
      go_wp2_with fail
      go_roundw
      case rel => exact ⟨j + 1, _, by omega, by go_num, by go_num, HS.out.1, set_take (by rw [HO.out]; exact hlt) HT.out (by rw [List.getElem?_map, marksS_get hlt]; rfl), (HN.out.trans (k1.only _)).setCell (by simp [fp_some]) _⟩
      case measure => simp [intOf]; omega
    · obtain rfl : j = zs.length := by omega
      have e := take_full (n := zs.length) hlen (by simp [marksS_length]) ht
      have HO := Lib.hid ho
      have HE := Lib.hid e
      clear ho ht hlen e
      go_wp2_with fail
      go_ret
      refine ⟨rfl, ⟨?_, marksS_size _ _⟩, hon⟩
      have := HO.out
      rw [HE.out] at this
      rw [marksS_length]
      exact this
set_option maxHeartbeats 1000000 in
theorem heldStringS_any (v : Value) (k : Int) (n : Nat) (w : World) (h : Strs w v (marksS k n)) (hk : 1 ≤ k) (hk2 : k ≤ 549755813888) (hn : n ≤ 1048576) :
    Calls Try.prog 15 #[v, .int .i64 k] w fun e w' => e = .returned (.int .i64 (k + n)) ∧ Kept w w' := by
  obtain ⟨A, c, rfl, hnc, hcm, hl⟩ := h.1.out
  have HL := Lib.hid hl
  have HM := Lib.hid (marksS_length k n)
  rw [HM.out] at hnc
  unfold maxLen at hcm
  clear hl h
  rw [HM.out]
  go_enter Try.func15, Try.ntmps15
  go_wp2_with fail
  go_loopw [1, 5] (fun q i wr => ∃ j : Nat, j ≤ n ∧ i = .int .i64 j ∧ q = .int .i64 (k + j) ∧ Kept w wr) (fun _ i _ => n - (intOf i).toNat)
  case atStart => exact ⟨0, Nat.zero_le _, rfl, by simp, Kept.refl _⟩
  case round =>
    obtain ⟨j, hj, rfl, rfl, hkept⟩ := hrel
    by_cases hlt : j < n
    · obtain ⟨b, o, z, rfl, hb, hz, hc⟩ := strs_at (HL.out.kept hkept) (k := j) (by rw [HM.out]; exact hlt)
      rw [marksS_get hlt] at hz
      injection hz with hz
      subst hz
      have hlt' : (j : Int) < (n : Int) := by omega
      go_wp2_with fail
      have hcd : wr.drew.cell? ⟨b, o + j, none⟩ = some (.string (mt (k + j))) := hc
      have hbd : b < wr.drew.heap.size := hb
      go_region_held3 (fun w' => w'.cell? ⟨b, o + j, none⟩ = some (.string (mt (k + j)))) (first | exact hcd | exact (Kept.cell (a := wr.drew) (by assumption) (p := ⟨b, o + j, none⟩) hbd).trans hcd)
        (first | (go_at_call 36; refine (markText_any _ _ (by omega) (by omega)).mono ?_; rintro e w1 ⟨rfl, k1⟩))
      go_wp2_with fail
      go_roundw
      case rel => exact ⟨j + 1, by omega, by go_num, by go_num, hkept.drew.trans k1⟩
      case measure => simp [intOf]; omega
    · obtain rfl : j = n := by omega
      go_wp2_with fail
      go_ret
      exact ⟨rfl, hkept⟩
/-! ### items marked -/
def nextK (k : Int) (it : ItemD) : Int := k + it.names.length + it.marks.length + 1
def markIt (k : Int) (it : ItemD) : ItemD := ⟨marksS k it.names.length, marksI (k + it.names.length) it.marks.length, ((k + it.names.length + it.marks.length) % 3 == 0)⟩
def ml : Int → List ItemD → List ItemD
  | _, [] => []
  | k, it :: l => markIt k it :: ml (nextK k it) l
def nk : Int → List ItemD → Int
  | k, [] => k
  | k, it :: l => nk (nextK k it) l
theorem ml_length (k : Int) (l : List ItemD) : (ml k l).length = l.length := by
  induction l generalizing k with
  | nil => rfl
  | cons it l ih => simp [ml, ih]
theorem ml_snoc (k : Int) (l : List ItemD) (it : ItemD) : ml k (l ++ [it]) = ml k l ++ [markIt (nk k l) it] := by
  induction l generalizing k with
  | nil => rfl
  | cons x l ih => simp [ml, nk, ih]
theorem nk_snoc (k : Int) (l : List ItemD) (it : ItemD) : nk k (l ++ [it]) = nextK (nk k l) it := by
  induction l generalizing k with
  | nil => rfl
  | cons x l ih => simp [nk, ih]
theorem nk_bd (k : Int) (l : List ItemD) : k ≤ nk k l ∧ nk k l ≤ k + itemsSize l := by
  induction l generalizing k with
  | nil => simp [nk, itemsSize]
  | cons it l ih =>
    have h := ih (nextK k it)
    have hp : it.names.length + it.marks.length ≤ it.size := by unfold ItemD.size strsSize; omega
    unfold nextK at h
    rw [nk]
    unfold nextK
    unfold itemsSize at *
    simp only [List.length_cons, List.map_cons, List.sum_cons]
    omega
theorem itemsSize_take (l : List ItemD) (k : Nat) : itemsSize (l.take k) ≤ itemsSize l := by
  unfold itemsSize
  have := sum_take _ ItemD.size l k
  have := List.length_take_le k l
  have : (l.take k).length ≤ l.length := by rw [List.length_take]; omega
  omega
/-- the list of items with the slices' values in hand -/
def OwnC (w : World) (base : Nat) (v : Value) (its : List ItemD) (cs : List (Value × Value)) : Prop :=
  cs.length = its.length ∧ w.ownsRow base 52 3 v its.length ((cs.zip its).flatMap row3) ∧
    (∀ (k : Nat) (nv mv : Value) (it : ItemD), cs[k]? = some (nv, mv) → its[k]? = some it → OwnS w base nv it.names ∧ OwnI w base mv it.marks) ∧ (fp v ++ fpL cs).Nodup
theorem fpL_other {cs : List (Value × Value)} (h : (fpL cs).Nodup) {i j : Nat} {p q : Value × Value} (hi : cs[i]? = some p) (hj : cs[j]? = some q) (hne : i ≠ j) {b : Nat} (hb : b ∈ fp p.1 ++ fp p.2) : b ∉ fp q.1 ++ fp q.2 := by
  have hp := (List.pairwise_flatMap.1 h).2
  rw [List.pairwise_iff_getElem] at hp
  obtain ⟨hil, rfl⟩ := List.getElem?_eq_some_iff.1 hi
  obtain ⟨hjl, rfl⟩ := List.getElem?_eq_some_iff.1 hj
  intro hb2
  rcases Nat.lt_or_gt_of_ne hne with hlt | hgt
  · exact hp i j hil hjl hlt b hb b hb2 rfl
  · exact hp j i hjl hil hgt b hb2 b hb rfl
theorem fpL_inner {cs : List (Value × Value)} (h : (fpL cs).Nodup) {i : Nat} {p : Value × Value} (hi : cs[i]? = some p) : (fp p.1 ++ fp p.2).Nodup := by
  exact (List.pairwise_flatMap.1 h).1 p (List.mem_of_getElem? hi)
theorem flat_row3 (cs : List (Value × Value)) (its : List ItemD) : (cs.zip its).flatMap row3 = (cs.zip (its.map ItemD.late)).flatMap fun p => [p.1.1, p.1.2, .bool p.2] := by
  rw [List.zip_map_right, List.flatMap_map]
  rfl
theorem set_same {α : Type} {l : List α} {k : Nat} {x : α} (h : l[k]? = some x) : l.set k x = l := by
  obtain ⟨hk, rfl⟩ := List.getElem?_eq_some_iff.1 h
  exact List.set_getElem_self hk
theorem OwnC.setItem {w w' : World} {base : Nat} {v : Value} {its : List ItemD} {cs : List (Value × Value)} {j : Nat} {it it' : ItemD} {nv mv : Value} {T : List Nat}
    (h : OwnC w base v its cs) (hi : its[j]? = some it) (hc : cs[j]? = some (nv, mv)) (ho : Only T w w') (hT : ∀ b ∈ T, b ∈ fp nv ++ fp mv) (hl : it'.late = it.late) (hn : OwnS w' base nv it'.names) (hm : OwnI w' base mv it'.marks) :
    OwnC w' base v (its.set j it') cs := by
  obtain ⟨h1, h2, h3, h4⟩ := h
  have hnd := (List.nodup_append.1 h4)
  refine ⟨by simpa using h1, ?_, ?_, h4⟩
  · have hz : (cs.zip (its.set j it')).flatMap row3 = (cs.zip its).flatMap row3 := by
      rw [flat_row3, flat_row3, List.map_set, hl, set_same (by rw [List.getElem?_map, hi]; rfl)]
    rw [hz, List.length_set]
    refine own_only h2 ho (fun b hb hbT => ?_)
    exact hnd.2.2 b hb b (mem_fpL hc (List.mem_append.1 (hT b hbT))) rfl
  · intro k nv' mv' x q1 q2
    by_cases hk : k = j
    · subst hk
      rw [hc] at q1
      simp at q1
      obtain ⟨rfl, rfl⟩ := q1
      have hlt : k < its.length := (List.getElem?_eq_some_iff.1 hi).1
      rw [List.getElem?_set_self hlt] at q2
      simp at q2
      subst q2
      exact ⟨hn, hm⟩
    · rw [List.getElem?_set_ne (Ne.symm hk)] at q2
      obtain ⟨r1, r2⟩ := h3 k nv' mv' x q1 q2
      have hd := fun b hb => fpL_other hnd.2.1 q1 hc hk (b := b) hb
      exact ⟨r1.only ho (fun b hb hbT => hd b (List.mem_append_left _ hb) (hT b hbT)), r2.only ho (fun b hb hbT => hd b (List.mem_append_right _ hb) (hT b hbT))⟩
end Go.Proofs.Ytapmlnpdjdneoaa
