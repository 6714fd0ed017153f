/- Contracts of functions that the proof leans on. No condition. -/
import Derived.Test.YtkekpolfdmmgeaaGreatM18c7872ff9
/- How often a name occurs in a list. -/
namespace Go.Proofs.YtkekpolfdmmgeaaGreat
set_option linter.unusedVariables false
set_option linter.unusedSimpArgs false
open Go.RowKit

def cnt (s : ByteArray) (l : List ByteArray) : Nat := (l.filter fun x => decide (x = s)).length
def cntC (s : ByteArray) (it : ItemD) : Nat := if 1 < it.names.length then cnt s it.names else 0
def times (its : List ItemD) (s : ByteArray) : Nat := (its.map fun it => cnt s it.names).sum
def timesC (its : List ItemD) (s : ByteArray) : Nat := (its.map (cntC s)).sum
theorem cnt_snoc {s z : ByteArray} {l : List ByteArray} {k : Nat} (h : l[k]? = some z) : cnt s (l.take (k + 1)) = cnt s (l.take k) + if z = s then 1 else 0 := by
  unfold cnt
  rw [take_snoc h, List.filter_append]
  by_cases hz : z = s <;> simp [List.filter_cons, hz]
theorem cnt_le (s : ByteArray) (l : List ByteArray) : cnt s l ≤ l.length := List.length_filter_le _ _
theorem itemsB_true {its : List ItemD} (h : itemsB its = true) : its.length ≤ 14 ∧ ∀ it ∈ its, itemB it = true := by
  unfold itemsB at h
  rw [Bool.and_eq_true] at h
  exact ⟨by simpa using h.2, fun it hi => List.all_eq_true.1 h.1 it hi⟩
theorem itemB_true {it : ItemD} (h : itemB it = true) : (∀ z ∈ it.names, nameB z = true) ∧ 1 ≤ it.names.length ∧ it.names.length ≤ 3 ∧ it.marks.length = it.names.length ∧ ∀ m ∈ it.marks, 0 ≤ m ∧ m ≤ 3 := by
  unfold itemB at h
  simp only [Bool.and_eq_true] at h
  obtain ⟨⟨⟨h1, h2⟩, h3⟩, h4⟩ := h
  have h5 := inB_true h2
  exact ⟨fun z hz => List.all_eq_true.1 h1 z hz, by omega, by omega, by simpa using h3, fun m hm => inB_true (List.all_eq_true.1 h4 m hm)⟩
theorem sum_le_mul (l : List Nat) (B : Nat) (h : ∀ x ∈ l, x ≤ B) : l.sum ≤ l.length * B := by
  induction l with
  | nil => simp
  | cons y l ih =>
    have h1 := h y (by simp)
    have h2 := ih (fun x hx => h x (by simp [hx]))
    rw [List.sum_cons, List.length_cons, Nat.succ_mul]
    omega
theorem times_bd {its : List ItemD} (hb : itemsB its = true) (s : ByteArray) (k : Nat) : ((its.take k).map fun it => cnt s it.names).sum ≤ 42 ∧ ((its.take k).map (cntC s)).sum ≤ 42 := by
  obtain ⟨h1, h2⟩ := itemsB_true hb
  have hl : (its.take k).length ≤ 14 := by rw [List.length_take]; omega
  have hc : ∀ it ∈ its.take k, cnt s it.names ≤ 3 := fun it hi => Nat.le_trans (cnt_le s _) (itemB_true (h2 it (List.mem_of_mem_take hi))).2.2.1
  constructor
  · have := sum_le_mul ((its.take k).map fun it => cnt s it.names) 3 (by
      intro x hx
      obtain ⟨it, hi, rfl⟩ := List.mem_map.1 hx
      exact hc it hi)
    rw [List.length_map] at this
    omega
  · have := sum_le_mul ((its.take k).map (cntC s)) 3 (by
      intro x hx
      obtain ⟨it, hi, rfl⟩ := List.mem_map.1 hx
      unfold cntC
      split
      · exact hc it hi
      · omega)
    rw [List.length_map] at this
    omega
theorem isCombined_any (v : Value) (it : ItemD) (w : World) (h : ItemAt w v it) :
    Calls Tryz.prog 68 #[v] w fun e w' => e = .returned (.bool (decide (1 < it.names.length))) ∧ Kept w w' := by
  obtain ⟨nv, mv, rfl, q1, _⟩ := h
  obtain ⟨A, c, rfl, _, hcm, _⟩ := q1.1.out
  go_enter Tryz.func68, Tryz.ntmps68
  go_wp2
  go_ret
  exact ⟨ret_bool (decide_eq_decide.2 (by omega)), (Kept.refl _).alloc _⟩
set_option maxHeartbeats 2000000 in
theorem timesOf_any (v : Value) (its : List ItemD) (s : ByteArray) (w : World) (h : ItemsAt w v its) (hb : itemsB its = true) :
    Calls Tryz.prog 41 #[v, .string s] w fun e w' => e = .returned (.tuple #[.int .i64 (times its s), .int .i64 (timesC its s)]) ∧ Kept w w' := by
  obtain ⟨A, c, cs, rfl, hnc, hcm, hA⟩ := h.out
  unfold maxLen at hcm
  have HA := Lib.hid hA
  have HB := Lib.hid hb
  have hl14 := (itemsB_true hb).1
  clear hA h hb
  go_enter Tryz.func41, Tryz.ntmps41
  go_wp2_with fail
  go_loopw [6, 7, 14] (fun t q i wr => ∃ k : Nat, k ≤ its.length ∧ i = .int .i64 k ∧ t = .int .i64 (((its.take k).map fun it => cnt s it.names).sum : Nat) ∧ q = .int .i64 (((its.take k).map (cntC s)).sum : Nat) ∧ Kept w wr) (fun _ _ i _ => its.length - (intOf i).toNat)
  case atStart => exact ⟨0, Nat.zero_le _, rfl, rfl, rfl, Kept.refl _⟩
  case round =>
    obtain ⟨wo, rfl⟩ : ∃ wo : World, wo = wr := ⟨_, rfl⟩
    obtain ⟨k, hk, rfl, rfl, rfl, hkept⟩ := hrel
    by_cases hlt : k < its.length
    · obtain ⟨b, o, A1, c1, A2, c2, it, rfl, hbb, h2, h3, hit, q0, q1, q2⟩ := items_at (HA.out.kept hkept) hlt
      have hib := (itemsB_true HB.out).2 it (List.mem_of_getElem? h2)
      obtain ⟨-, hn1, hn3, -, -⟩ := itemB_true hib
      obtain ⟨bd1, bd2⟩ := times_bd HB.out s k
      have T1 := Lib.hid (sum_snoc (fun it => cnt s it.names) h2)
      have T2 := Lib.hid (sum_snoc (cntC s) h2)
      obtain ⟨nv, mv, ee, r1, r2⟩ := hit
      simp only [Value.agg.injEq] at ee
      simp at ee
      obtain ⟨rfl, rfl⟩ := ee
      have HS := Lib.hid r1
      have HM := Lib.hid r2
      clear h2 h3 r1 r2
      generalize ((its.take k).map fun it => cnt s it.names).sum = tk at *
      generalize ((its.take k).map (cntC s)).sum = ck at *
      go_wp2_with fail
      go_loopw [6, 7, 21] (fun t q i wi => ∃ j : Nat, j ≤ it.names.length ∧ i = .int .i64 j ∧ t = .int .i64 ((tk + cnt s (it.names.take j) : Nat) : Int) ∧ q = .int .i64 ((ck + (if 1 < it.names.length then cnt s (it.names.take j) else 0) : Nat) : Int) ∧ Box wi wo.heap.size 30 #[.slice A1 it.names.length c1, .slice A2 it.marks.length c2, .bool it.late] ∧ Kept wo wi) (fun _ _ i _ => it.names.length - (intOf i).toNat)
      case atStart => exact ⟨0, Nat.zero_le _, rfl, by simp [cnt], by simp [cnt], Box.new wo _ _ _ rfl, (Kept.refl _).alloc _⟩
      case round =>
        obtain ⟨j, hj, rfl, rfl, rfl, hbox, hki⟩ := hrel
        by_cases hltj : j < it.names.length
        · obtain ⟨b1, o1, z, rfl, hb1, hz, hc⟩ := strs_at (HS.out.1.addr.kept hki) hltj
          have HZ := Lib.hid (cnt_snoc (s := s) hz)
          have hcl := cnt_le s (it.names.take j)
          have hct : (it.names.take j).length ≤ it.names.length := by rw [List.length_take]; omega
          have HI : Hid (ItemAt wr (.agg #[.slice (some ⟨b1, o1, none⟩) it.names.length c1, .slice A2 it.marks.length c2, .bool it.late]) it) := Lib.hid ⟨_, _, rfl, HS.out.kept hki, HM.out.kept hki⟩
          obtain ⟨x0, y0⟩ := hbox.three
          clear hz y0
          generalize cnt s (it.names.take j) = cj at *
          by_cases hzs : z = s
          · have hne : (!z.toList == s.toList) = false := by simp [hzs]
            have heq : (z.toList == s.toList) = true := by simp [hzs]
            have HE := Lib.hid hzs
            clear hzs
            by_cases hcm2 : 1 < it.names.length
            · have hd : decide (1 < it.names.length) = true := by simp [hcm2]
              rw [if_pos hcm2]
              go_wp2_with fail
              refine (isCombined_any _ it _ HI.out).mono ?_
              rintro e w1 ⟨rfl, k1⟩
              rw [hd]
              go_wp2_with fail
              go_roundw
              case rel =>
                refine ⟨j + 1, by omega, by go_num, by rw [HZ.out, if_pos HE.out]; go_num, by rw [HZ.out, if_pos HE.out, if_pos hcm2]; go_num, hbox.kept k1, hki.trans k1⟩
              case measure => simp [intOf]; omega
            · have hd : decide (1 < it.names.length) = false := by simp; omega
              rw [if_neg hcm2]
              go_wp2_with fail
              refine (isCombined_any _ it _ HI.out).mono ?_
              rintro e w1 ⟨rfl, k1⟩
              rw [hd]
              go_wp2_with fail
              go_roundw
              case rel =>
                refine ⟨j + 1, by omega, by go_num, by rw [HZ.out, if_pos HE.out]; go_num, by rw [if_neg hcm2] <;> simp, hbox.kept k1, hki.trans k1⟩
              case measure => simp [intOf]; omega
          · have hnl : ¬ z.toList = s.toList := fun e => hzs (str_ext e)
            have hne : (!z.toList == s.toList) = true := by simp [hnl]
            have heq : (z.toList == s.toList) = false := by simp [hnl]
            have HE := Lib.hid hzs
            clear hzs hnl
            go_wp2_with fail
            go_roundw
            case rel => exact ⟨j + 1, by omega, by go_num, by rw [HZ.out, if_neg HE.out]; rfl, by rw [HZ.out, if_neg HE.out]; rfl, hbox, hki⟩
            case measure => simp [intOf]; omega
        · obtain rfl : j = it.names.length := by omega
          go_wp2_with fail
          go_roundw
          case rel =>
            refine ⟨k + 1, by omega, by go_num, ?_, ?_, hkept.trans hki⟩
            · rw [T1.out, List.take_length]
            · rw [T2.out, List.take_length]; rfl
          case measure => simp [intOf]; omega
    · obtain rfl : k = its.length := by omega
      go_wp2_with fail
      go_ret2
      refine ⟨?_, hkept⟩
      simp [times, timesC]
set_option maxHeartbeats 2000000 in
theorem pgTimes_any (v : Value) (its : List ItemD) (s : ByteArray) (w : World) (h : ItemsAt w v its) (hb : itemsB its = true) :
    Calls Tryz.prog 44 #[v, .string s] w fun e w' => e = .returned (.tuple #[.int .i64 (times its s), .int .i64 (timesC its s)]) ∧ Kept w w' := by
  obtain ⟨A, c, cs, rfl, hnc, hcm, hA⟩ := h.out
  unfold maxLen at hcm
  have HA := Lib.hid hA
  have HB := Lib.hid hb
  have hl14 := (itemsB_true hb).1
  clear hA h hb
  go_enter Tryz.func44, Tryz.ntmps44
  go_wp2_with fail
  go_loopw [6, 7, 14] (fun t q i wr => ∃ k : Nat, k ≤ its.length ∧ i = .int .i64 k ∧ t = .int .i64 (((its.take k).map fun it => cnt s it.names).sum : Nat) ∧ q = .int .i64 (((its.take k).map (cntC s)).sum : Nat) ∧ Kept w wr) (fun _ _ i _ => its.length - (intOf i).toNat)
  case atStart => exact ⟨0, Nat.zero_le _, rfl, rfl, rfl, Kept.refl _⟩
  case round =>
    obtain ⟨wo, rfl⟩ : ∃ wo : World, wo = wr := ⟨_, rfl⟩
    obtain ⟨k, hk, rfl, rfl, rfl, hkept⟩ := hrel
    by_cases hlt : k < its.length
    · obtain ⟨b, o, A1, c1, A2, c2, it, rfl, hbb, h2, h3, hit, q0, q1, q2⟩ := items_at (HA.out.kept hkept) hlt
      have hib := (itemsB_true HB.out).2 it (List.mem_of_getElem? h2)
      obtain ⟨-, hn1, hn3, -, -⟩ := itemB_true hib
      obtain ⟨bd1, bd2⟩ := times_bd HB.out s k
      have T1 := Lib.hid (sum_snoc (fun it => cnt s it.names) h2)
      have T2 := Lib.hid (sum_snoc (cntC s) h2)
      obtain ⟨nv, mv, ee, r1, r2⟩ := hit
      simp only [Value.agg.injEq] at ee
      simp at ee
      obtain ⟨rfl, rfl⟩ := ee
      have HS := Lib.hid r1
      have HM := Lib.hid r2
      clear h2 h3 r1 r2
      generalize ((its.take k).map fun it => cnt s it.names).sum = tk at *
      generalize ((its.take k).map (cntC s)).sum = ck at *
      go_wp2_with fail
      go_loopw [6, 7, 21] (fun t q i wi => ∃ j : Nat, j ≤ it.names.length ∧ i = .int .i64 j ∧ t = .int .i64 ((tk + cnt s (it.names.take j) : Nat) : Int) ∧ q = .int .i64 ((ck + (if 1 < it.names.length then cnt s (it.names.take j) else 0) : Nat) : Int) ∧ Box wi wo.heap.size 30 #[.slice A1 it.names.length c1, .slice A2 it.marks.length c2, .bool it.late] ∧ Kept wo wi) (fun _ _ i _ => it.names.length - (intOf i).toNat)
      case atStart => exact ⟨0, Nat.zero_le _, rfl, by simp [cnt], by simp [cnt], Box.new wo _ _ _ rfl, (Kept.refl _).alloc _⟩
      case round =>
        obtain ⟨j, hj, rfl, rfl, rfl, hbox, hki⟩ := hrel
        by_cases hltj : j < it.names.length
        · obtain ⟨b1, o1, z, rfl, hb1, hz, hc⟩ := strs_at (HS.out.1.addr.kept hki) hltj
          have HZ := Lib.hid (cnt_snoc (s := s) hz)
          have hcl := cnt_le s (it.names.take j)
          have hct : (it.names.take j).length ≤ it.names.length := by rw [List.length_take]; omega
          have HI : Hid (ItemAt wr (.agg #[.slice (some ⟨b1, o1, none⟩) it.names.length c1, .slice A2 it.marks.length c2, .bool it.late]) it) := Lib.hid ⟨_, _, rfl, HS.out.kept hki, HM.out.kept hki⟩
          obtain ⟨x0, y0⟩ := hbox.three
          clear hz y0
          generalize cnt s (it.names.take j) = cj at *
          by_cases hzs : z = s
          · have hne : (!z.toList == s.toList) = false := by simp [hzs]
            have heq : (z.toList == s.toList) = true := by simp [hzs]
            have HE := Lib.hid hzs
            clear hzs
            by_cases hcm2 : 1 < it.names.length
            · have hd : decide (1 < it.names.length) = true := by simp [hcm2]
              rw [if_pos hcm2]
              go_wp2_with fail
              go_roundw
              case rel =>
                refine ⟨j + 1, by omega, by go_num, by rw [HZ.out, if_pos HE.out]; go_num, by rw [HZ.out, if_pos HE.out, if_pos hcm2]; go_num, hbox, hki⟩
              case measure => simp [intOf]; omega
            · have hd : decide (1 < it.names.length) = false := by simp; omega
              rw [if_neg hcm2]
              go_wp2_with fail
              go_roundw
              case rel =>
                refine ⟨j + 1, by omega, by go_num, by rw [HZ.out, if_pos HE.out]; go_num, by rw [if_neg hcm2] <;> simp, hbox, hki⟩
              case measure => simp [intOf]; omega
          · have hnl : ¬ z.toList = s.toList := fun e => hzs (str_ext e)
            have hne : (!z.toList == s.toList) = true := by simp [hnl]
            have heq : (z.toList == s.toList) = false := by simp [hnl]
            have HE := Lib.hid hzs
            clear hzs hnl
            go_wp2_with fail
            go_roundw
            case rel => exact ⟨j + 1, by omega, by go_num, by rw [HZ.out, if_neg HE.out]; rfl, by rw [HZ.out, if_neg HE.out]; rfl, hbox, hki⟩
            case measure => simp [intOf]; omega
        · obtain rfl : j = it.names.length := by omega
          go_wp2_with fail
          go_roundw
          case rel =>
            refine ⟨k + 1, by omega, by go_num, ?_, ?_, hkept.trans hki⟩
            · rw [T1.out, List.take_length]
            · rw [T2.out, List.take_length]; rfl
          case measure => simp [intOf]; omega
    · obtain rfl : k = its.length := by omega
      go_wp2_with fail
      go_ret2
      refine ⟨?_, hkept⟩
      simp [times, timesC]
def tmV (its : List ItemD) (s : ByteArray) : Int := if itemsB its && nameB s then (times its s : Int) else 0
def tmC (its : List ItemD) (s : ByteArray) : Int := if itemsB its && nameB s then (timesC its s : Int) else 0
theorem specTimesOf_any (v : Value) (its : List ItemD) (s : ByteArray) (w : World) (h : ItemsAt w v its) (hs : s.size ≤ maxLen) :
    Calls Tryz.prog 15 #[v, .string s] w fun e w' => e = .returned (.tuple #[.int .i64 (tmV its s), .int .i64 (tmC its s), .bool (itemsB its && nameB s)]) ∧ Kept w w' := by
  have H1 := Lib.hid h
  clear h
  by_cases b1 : itemsB its = true <;> by_cases b2 : nameB s = true
  all_goals
    (try simp only [Bool.not_eq_true] at b1)
    (try simp only [Bool.not_eq_true] at b2)
    go_enter Tryz.func15, Tryz.ntmps15
    go_wp2_with fail
    refine (itList_any _ its _ H1.out).mono ?_
    rintro e w1 ⟨rfl, k1⟩
    rw [b1]
    go_wp2_with fail
  · refine (cdName_any _ _ hs).mono ?_
    rintro e w2 ⟨rfl, k2⟩
    replace k2 := kept_of k2
    rw [b2]
    go_wp2_with fail
    refine (pgTimes_any _ its _ _ ((H1.out.kept k1).kept k2) b1).mono ?_
    rintro e w3 ⟨rfl, k3⟩
    go_wp2_with fail
    go_ret3
    exact ⟨by simp [tmV, tmC, b1, b2], (k1.trans k2).trans k3⟩
  · refine (cdName_any _ _ hs).mono ?_
    rintro e w2 ⟨rfl, k2⟩
    replace k2 := kept_of k2
    rw [b2]
    go_wp2_with fail
    go_ret3
    exact ⟨by simp [tmV, tmC, b1, b2], k1.trans k2⟩
  all_goals
    go_ret3
    exact ⟨by simp [tmV, tmC, b1, b2], k1⟩
theorem implTimesOf_any (v : Value) (its : List ItemD) (s : ByteArray) (w : World) (h : ItemsAt w v its) (hs : s.size ≤ maxLen) :
    Calls Tryz.prog 14 #[v, .string s] w fun e w' => e = .returned (.tuple #[.int .i64 (tmV its s), .int .i64 (tmC its s), .bool (itemsB its && nameB s)]) ∧ Kept w w' := by
  have H1 := Lib.hid h
  clear h
  by_cases b1 : itemsB its = true <;> by_cases b2 : nameB s = true
  all_goals
    (try simp only [Bool.not_eq_true] at b1)
    (try simp only [Bool.not_eq_true] at b2)
    go_enter Tryz.func14, Tryz.ntmps14
    go_wp2_with fail
    refine (areItems_any _ its _ H1.out).mono ?_
    rintro e w1 ⟨rfl, k1⟩
    rw [b1]
    go_wp2_with fail
  · refine (isName_any _ _ hs).mono ?_
    rintro e w2 ⟨rfl, k2⟩
    replace k2 := kept_of k2
    rw [b2]
    go_wp2_with fail
    refine (timesOf_any _ its _ _ ((H1.out.kept k1).kept k2) b1).mono ?_
    rintro e w3 ⟨rfl, k3⟩
    go_wp2_with fail
    go_ret3
    exact ⟨by simp [tmV, tmC, b1, b2], (k1.trans k2).trans k3⟩
  · refine (isName_any _ _ hs).mono ?_
    rintro e w2 ⟨rfl, k2⟩
    replace k2 := kept_of k2
    rw [b2]
    go_wp2_with fail
    go_ret3
    exact ⟨by simp [tmV, tmC, b1, b2], k1.trans k2⟩
  all_goals
    go_ret3
    exact ⟨by simp [tmV, tmC, b1, b2], k1⟩
end Go.Proofs.YtkekpolfdmmgeaaGreat

/- How often numbers occur, in plain lists. -/
namespace Go.Proofs.YtkekpolfdmmgeaaGreat
set_option linter.unusedVariables false
set_option linter.unusedSimpArgs false
open Go.RowKit

def cn (l : List Int) (d : Int) : Int := ((l.filter fun x => decide (x = d)).length : Int)
def cns (m : Nat) (l : List Int) : List Int := (List.range m).map fun (d : Nat) => cn l (d : Int)
theorem cn_snoc (l : List Int) (m d : Int) : cn (l ++ [m]) d = cn l d + if m = d then 1 else 0 := by
  unfold cn
  rw [List.filter_append]
  by_cases h : m = d <;> simp [List.filter_cons, h]
theorem cn_bd (l : List Int) (d : Int) : 0 ≤ cn l d ∧ cn l d ≤ l.length := by
  unfold cn
  have := List.length_filter_le (fun x => decide (x = d)) l
  omega
theorem cns_length (m : Nat) (l : List Int) : (cns m l).length = m := by simp [cns]
theorem cns_get {m : Nat} (l : List Int) {z : Int} (h0 : 0 ≤ z) (h1 : z < m) : (cns m l)[z.toNat]? = some (cn l z) := by
  unfold cns
  rw [List.getElem?_map, List.getElem?_range (by omega)]
  simp only [Option.map_some]
  rw [Int.toNat_of_nonneg h0]
theorem cns_snoc {m : Nat} (l : List Int) {z : Int} (h0 : 0 ≤ z) (h1 : z < m) : cns m (l ++ [z]) = (cns m l).set z.toNat (cn l z + 1) := by
  apply List.ext_getElem?
  intro i
  by_cases hi : i < m
  · rw [List.getElem?_set]
    unfold cns
    simp only [List.getElem?_map, List.getElem?_range hi, Option.map_some, cn_snoc, List.length_map, List.length_range]
    by_cases e : z.toNat = i
    · have : z = (i : Int) := by omega
      rw [if_pos e, if_pos this, if_pos (by omega), this]
    · rw [if_neg e, if_neg (by omega)]
      simp
  · rw [List.getElem?_eq_none (by rw [cns_length]; omega), List.getElem?_eq_none (by rw [List.length_set, cns_length]; omega)]
theorem cns_nil5 : cns 5 [] = [0, 0, 0, 0, 0] := by decide
end Go.Proofs.YtkekpolfdmmgeaaGreat

/- Items over a code: the plain functions (families, worths, bases). -/
namespace Go.Proofs.YtkekpolfdmmgeaaGreat
set_option linter.unusedVariables false
set_option linter.unusedSimpArgs false
open Go.RowKit

def famN (x : CodeD) (s : ByteArray) : Int := if 0 ≤ findV x.elems s then match x.elems[(findV x.elems s).toNat]? with | some y => y.family | none => -1 else -1
theorem famN_none {x : CodeD} {s : ByteArray} (h : findV x.elems s = -1) : famN x s = -1 := by unfold famN; rw [h]; rfl
theorem famN_hit {x : CodeD} {s : ByteArray} {k : Nat} {y : ElemD} (h : findV x.elems s = k) (hy : x.elems[k]? = some y) : famN x s = y.family := by
  unfold famN
  rw [h, if_pos (Int.natCast_nonneg k), Int.toNat_natCast, hy]
def famV (x : CodeD) (it : ItemD) : Int := match it.names[0]? with | some s => famN x s | none => -1
theorem famV_first {x : CodeD} {it : ItemD} {s : ByteArray} (h : it.names[0]? = some s) : famV x it = famN x s := by unfold famV; rw [h]
theorem famN_bd {x : CodeD} (hx : codeB x = true) (s : ByteArray) : -1 ≤ famN x s ∧ famN x s ≤ 4 := by
  rcases findV_cases x.elems s with h | ⟨k, y, h1, h2, _⟩
  · rw [famN_none h]; omega
  · rw [famN_hit h1 h2]
    have := (elemB_parts (codeB_elem hx h2)).1
    omega
theorem famV_bd {x : CodeD} (hx : codeB x = true) (it : ItemD) : -1 ≤ famV x it ∧ famV x it ≤ 4 := by
  unfold famV
  split
  · exact famN_bd hx _
  · omega

def knS (x : CodeD) (s : ByteArray) : Bool := decide (0 ≤ findV x.elems s)
def knI (x : CodeD) (it : ItemD) : Bool := it.names.all (knS x)
def knB (x : CodeD) (its : List ItemD) : Bool := its.all (knI x)
theorem knS_none {x : CodeD} {s : ByteArray} (h : findV x.elems s < 0) : knS x s = false := by unfold knS; exact decide_eq_false (by omega)
theorem knS_hit {x : CodeD} {s : ByteArray} (h : ¬ findV x.elems s < 0) : knS x s = true := by unfold knS; exact decide_eq_true (by omega)
theorem knS_at {x : CodeD} {s : ByteArray} (h : knS x s = true) : ∃ (k : Nat) (y : ElemD), findV x.elems s = k ∧ x.elems[k]? = some y := by
  unfold knS at h
  have h := of_decide_eq_true h
  rcases findV_cases x.elems s with h1 | ⟨k, y, h1, h2, _⟩
  · omega
  · exact ⟨k, y, h1, h2⟩
theorem knB_one (x : CodeD) (it : ItemD) : knB x [it] = knI x it := by simp [knB]

def gdB (x : CodeD) (its : List ItemD) : Bool := codeB x && itemsB its && knB x its
theorem gdB_true {x : CodeD} {its : List ItemD} (h : gdB x its = true) : codeB x = true ∧ itemsB its = true ∧ knB x its = true := by
  unfold gdB at h
  simp only [Bool.and_eq_true] at h
  exact ⟨h.1.1, h.1.2, h.2⟩
theorem itemsB_one (it : ItemD) : itemsB [it] = itemB it := by simp [itemsB]
theorem knI_name {x : CodeD} {it : ItemD} {j : Nat} {s : ByteArray} (h : knI x it = true) (hs : it.names[j]? = some s) : knS x s = true := by
  unfold knI at h
  exact List.all_eq_true.1 h s (List.mem_of_getElem? hs)
theorem knB_item {x : CodeD} {its : List ItemD} {j : Nat} {it : ItemD} (h : knB x its = true) (hs : its[j]? = some it) : knI x it = true := by
  unfold knB at h
  exact List.all_eq_true.1 h it (List.mem_of_getElem? hs)

/-! ### worths -/
theorem worthN_bd {keeps base : Int} (m : Int) (h1 : 0 ≤ keeps) (h2 : keeps ≤ 100) (h3 : 0 ≤ base) (h4 : base ≤ 2000) : 0 ≤ worthN keeps base m ∧ worthN keeps base m ≤ 2000 := by
  refine ⟨worthN_nonneg m h1 h3, ?_⟩
  have e1 : base * keeps ≤ base * 100 := Int.mul_le_mul_of_nonneg_left h2 h3
  have e0 : 0 ≤ base * keeps := Int.mul_nonneg h3 h1
  unfold worthN
  split
  · generalize base * keeps = bk at *; omega
  · split
    · omega
    · split <;> omega
theorem worthAt_bd {x : CodeD} {s : ByteArray} (m : Int) (hx : codeB x = true) (h : knS x s = true) : 0 ≤ worthAt x s m ∧ worthAt x s m ≤ 2000 := by
  obtain ⟨k, y, h1, h2⟩ := knS_at h
  rw [worthAt_hit m h1 h2]
  have e := codeB_rests hx
  have f := (elemB_parts (codeB_elem hx h2)).2.2
  exact worthN_bd m (by omega) (by omega) (by omega) (by omega)
def wsV (x : CodeD) (it : ItemD) : List Int := (it.names.zip it.marks).map fun p => worthAt x p.1 p.2
theorem wsV_length (x : CodeD) {it : ItemD} (h : it.marks.length = it.names.length) : (wsV x it).length = it.names.length := by simp [wsV, h]
theorem wsV_get (x : CodeD) {it : ItemD} {j : Nat} {s : ByteArray} {m : Int} (h1 : it.names[j]? = some s) (h2 : it.marks[j]? = some m) : (wsV x it)[j]? = some (worthAt x s m) := by
  unfold wsV
  rw [List.getElem?_map, (List.getElem?_zip_eq_some (z := (s, m))).2 ⟨h1, h2⟩]
  rfl
theorem wsV_snoc (x : CodeD) {it : ItemD} {j : Nat} {s : ByteArray} {m : Int} (h1 : it.names[j]? = some s) (h2 : it.marks[j]? = some m) : (wsV x it).take (j + 1) = (wsV x it).take j ++ [worthAt x s m] := take_snoc (wsV_get x h1 h2)
theorem wsV_bd {x : CodeD} {it : ItemD} (hx : codeB x = true) (hk : knI x it = true) : ∀ z ∈ wsV x it, 0 ≤ z ∧ z ≤ 2000 := by
  intro z hz
  unfold wsV at hz
  obtain ⟨p, hp, rfl⟩ := List.mem_map.1 hz
  have : p.1 ∈ it.names := (List.of_mem_zip hp).1
  unfold knI at hk
  exact worthAt_bd p.2 hx (List.all_eq_true.1 hk _ this)
theorem isum_bd (l : List Int) (B : Int) (hB : 0 ≤ B) (h : ∀ z ∈ l, 0 ≤ z ∧ z ≤ B) : 0 ≤ l.sum ∧ l.sum ≤ l.length * B := by
  induction l with
  | nil => simp
  | cons a l ih =>
    have h1 := h a (by simp)
    have h2 := ih (fun z hz => h z (by simp [hz]))
    simp only [List.sum_cons, List.length_cons]
    have : ((l.length + 1 : Nat) : Int) * B = (l.length : Int) * B + B := by rw [Int.natCast_add, Int.add_mul]; simp
    omega
theorem isum_snoc (l : List Int) (z : Int) : (l ++ [z]).sum = l.sum + z := by simp
def sumV (x : CodeD) (it : ItemD) : Int := (wsV x it).sum
theorem sum_take_bd {x : CodeD} {it : ItemD} (hx : codeB x = true) (hi : itemB it = true) (hk : knI x it = true) (j : Nat) : 0 ≤ ((wsV x it).take j).sum ∧ ((wsV x it).take j).sum ≤ 6000 := by
  have h3 := itemB_true hi
  have e := wsV_length x h3.2.2.2.1
  have b := isum_bd ((wsV x it).take j) 2000 (by omega) (fun z hz => wsV_bd hx hk z (List.mem_of_mem_take hz))
  have l : ((wsV x it).take j).length ≤ 3 := by rw [List.length_take]; omega
  generalize ((wsV x it).take j).sum = q at *
  generalize ((wsV x it).take j).length = r at *
  omega
theorem sumV_bd {x : CodeD} {it : ItemD} (hx : codeB x = true) (hi : itemB it = true) (hk : knI x it = true) : 0 ≤ sumV x it ∧ sumV x it ≤ 6000 := by
  have := sum_take_bd hx hi hk (wsV x it).length
  rw [List.take_length] at this
  exact this
def lateV (s bonus : Int) : Int := (2 * (s * (100 + bonus)) + 100) / (2 * 100)
def fullV (x : CodeD) (it : ItemD) : Int := if it.late = true then lateV (sumV x it) x.bonus else sumV x it
theorem late_mul {s bonus : Int} (h1 : 0 ≤ s) (h2 : s ≤ 6000) (h3 : 0 ≤ bonus) (h4 : bonus ≤ 20) : 0 ≤ s * (100 + bonus) ∧ s * (100 + bonus) ≤ 720000 := by
  have e1 : s * (100 + bonus) ≤ s * 120 := Int.mul_le_mul_of_nonneg_left (by omega) h1
  have e0 : 0 ≤ s * (100 + bonus) := Int.mul_nonneg h1 (by omega)
  generalize s * (100 + bonus) = q at *
  omega
theorem lateV_bd {s bonus : Int} (h1 : 0 ≤ s) (h2 : s ≤ 6000) (h3 : 0 ≤ bonus) (h4 : bonus ≤ 20) : 0 ≤ lateV s bonus ∧ lateV s bonus ≤ 7200 := by
  have := late_mul h1 h2 h3 h4
  unfold lateV
  generalize s * (100 + bonus) = q at *
  omega
theorem fullV_bd {x : CodeD} {it : ItemD} (hx : codeB x = true) (hi : itemB it = true) (hk : knI x it = true) : 0 ≤ fullV x it ∧ fullV x it ≤ 7200 := by
  have h := sumV_bd hx hi hk
  have e := codeB_rests hx
  unfold fullV
  split
  · exact lateV_bd h.1 h.2 e.2.1.1 e.2.1.2
  · omega

/-! ### repeats -/
def repP (s : ByteArray) (it : ItemD) : Bool := (it.names[0]? == some s) && !(it.marks[0]? == some 3)
def repN (its : List ItemD) (k : Nat) (s : ByteArray) : Nat := ((its.take k).filter (repP s)).length
def repF (its : List ItemD) (k : Nat) (it : ItemD) : Int := match it.names[0]? with | some s => (repN its k s : Int) | none => 0
def repV (its : List ItemD) (k : Nat) : Int := match its[k]? with | some it => repF its k it | none => 0
theorem repN_snoc {its : List ItemD} {j : Nat} {it : ItemD} (s : ByteArray) (h : its[j]? = some it) : repN its (j + 1) s = repN its j s + if repP s it then 1 else 0 := by
  unfold repN
  rw [take_snoc h, List.filter_append, List.length_append]
  by_cases e : repP s it <;> simp [e]
theorem repN_le (its : List ItemD) (k : Nat) (s : ByteArray) : repN its k s ≤ k := by
  unfold repN
  have h1 := List.length_filter_le (repP s) (its.take k)
  have h2 := List.length_take_le k its
  omega
theorem repV_at {its : List ItemD} {k : Nat} {it : ItemD} {s : ByteArray} (h : its[k]? = some it) (hs : it.names[0]? = some s) : repV its k = repN its k s := by
  unfold repV; rw [h]; simp only; unfold repF; rw [hs]
theorem repV_bd (its : List ItemD) (k : Nat) : 0 ≤ repV its k ∧ repV its k ≤ k := by
  unfold repV
  split
  · unfold repF
    split
    · rename_i s _; have := repN_le its k s; omega
    · omega
  · omega

/-! ### bases -/
def baseV (x : CodeD) (its : List ItemD) (k : Nat) : Int := match its[k]? with
  | some it => if repV its k < x.repeats then fullV x it else if repV its k = x.repeats then fullV x it * 7 / 10 else 0
  | none => 0
theorem baseV_at {x : CodeD} {its : List ItemD} {k : Nat} {it : ItemD} (h : its[k]? = some it) : baseV x its k = if repV its k < x.repeats then fullV x it else if repV its k = x.repeats then fullV x it * 7 / 10 else 0 := by
  unfold baseV; rw [h]
theorem baseV_bd {x : CodeD} {its : List ItemD} (h : gdB x its = true) (k : Nat) : 0 ≤ baseV x its k ∧ baseV x its k ≤ 7200 := by
  obtain ⟨h1, h2, h3⟩ := gdB_true h
  cases hk : its[k]? with
  | none => unfold baseV; rw [hk]; simp only; omega
  | some it =>
    rw [baseV_at hk]
    have b := fullV_bd h1 ((itemsB_true h2).2 it (List.mem_of_getElem? hk)) (knB_item h3 hk)
    split
    · omega
    · split <;> omega
def bases (x : CodeD) (its : List ItemD) : List Int := (List.range its.length).map (baseV x its)
theorem bases_length (x : CodeD) (its : List ItemD) : (bases x its).length = its.length := by simp [bases]
theorem bases_get {x : CodeD} {its : List ItemD} {k : Nat} (h : k < its.length) : (bases x its)[k]? = some (baseV x its k) := by
  unfold bases; rw [List.getElem?_map, List.getElem?_range h]; rfl
theorem bases_bd {x : CodeD} {its : List ItemD} (h : gdB x its = true) : ∀ z ∈ bases x its, 0 ≤ z ∧ z ≤ 7200 := by
  intro z hz
  unfold bases at hz
  obtain ⟨k, _, rfl⟩ := List.mem_map.1 hz
  exact baseV_bd h k

/-! ### counts of families -/
def fams (x : CodeD) (its : List ItemD) : List Int := its.map (famV x)
theorem cns_skip (m : Nat) (l : List Int) {z : Int} (h : z < 0) : cns m (l ++ [z]) = cns m l := by
  unfold cns
  apply List.map_congr_left
  intro d _
  rw [cn_snoc, if_neg (by omega), Int.add_zero]
theorem fams_snoc {x : CodeD} {its : List ItemD} {k : Nat} {it : ItemD} (h : its[k]? = some it) : (fams x its).take (k + 1) = (fams x its).take k ++ [famV x it] :=
  take_snoc (by unfold fams; rw [List.getElem?_map, h]; rfl)
def countsV (x : CodeD) (its : List ItemD) : List Int := cns 5 (fams x its)
def roomV (x : CodeD) (its : List ItemD) : List Int := List.zipWith (· - ·) x.limits (countsV x its)
end Go.Proofs.YtkekpolfdmmgeaaGreat

/- Items over a code: families, which items are known. -/
namespace Go.Proofs.YtkekpolfdmmgeaaGreat
set_option linter.unusedVariables false
set_option linter.unusedSimpArgs false
open Go.RowKit

theorem ItemAt.parts {w : World} {a b : Value} {l : Bool} {it : ItemD} (h : ItemAt w (.agg #[a, b, .bool l]) it) : Strs w a it.names ∧ Ints w b it.marks := by
  obtain ⟨nv, mv, e, h1, h2⟩ := h
  simp only [Value.agg.injEq] at e
  simp at e
  obtain ⟨rfl, rfl, _⟩ := e
  exact ⟨h1, h2⟩
/-- a row of one item -/
theorem items_one {w : World} {g : Nat} {A D : Option Addr} {c d : Nat} {it : ItemD} (hB : Box w g 30 #[.slice A it.names.length c, .slice D it.marks.length d, .bool it.late])
    (hi : ItemAt w (.agg #[.slice A it.names.length c, .slice D it.marks.length d, .bool it.late]) it) : ItemsAt w (.slice (some ⟨g, 0, none⟩) 1 1) [it] := by
  refine ⟨[(.slice A it.names.length c, .slice D it.marks.length d)], rfl, ⟨_, 1, rfl, Nat.le_refl _, by decide, (fun h => by cases h), fun _ => ⟨g, 0, rfl, hB.lt, fun j u hu => ?_⟩⟩, fun k nv mv it' q1 q2 => ?_⟩
  · rw [Nat.zero_add, hB.cell j]
    have e : (List.zip [((.slice A it.names.length c, .slice D it.marks.length d) : Value × Value)] [it]).flatMap row3 = [.slice A it.names.length c, .slice D it.marks.length d, .bool it.late] := rfl
    rw [e] at hu
    rw [← hu]
    exact (List.getElem?_toArray (xs := [Value.slice A it.names.length c, Value.slice D it.marks.length d, Value.bool it.late]) (i := j))
  · cases k with
    | zero =>
      simp only [List.getElem?_cons_zero, Option.some.injEq, Prod.mk.injEq] at q1 q2
      obtain ⟨rfl, rfl⟩ := q1
      subst q2
      exact hi.parts
    | succ k => simp at q2
theorem cdFind_is (n : Int) (v : Value) (x : CodeD) (s : ByteArray) (w : World) (hn : findV x.elems s = n) (h : CodeAt w v x) :
    Calls Tryz.prog 104 #[v, .string s] w fun e w' => e = .returned (.int .i64 n) ∧ Kept w w' := by rw [← hn]; exact cdFind_any v x s w h
theorem findElement_is (n : Int) (v : Value) (x : CodeD) (s : ByteArray) (w : World) (hn : findV x.elems s = n) (h : CodeAt w v x) :
    Calls Tryz.prog 96 #[v, .string s] w fun e w' => e = .returned (.int .i64 n) ∧ Kept w w' := by rw [← hn]; exact findElement_any v x s w h
theorem items_some {its : List ItemD} (h : itemsB its = true) {k : Nat} {it : ItemD} (hi : its[k]? = some it) : 1 ≤ it.names.length ∧ it.names.length ≤ 3 ∧ it.marks.length = it.names.length := by
  have := itemB_true ((itemsB_true h).2 it (List.mem_of_getElem? hi))
  omega
theorem item_some {it : ItemD} (h : itemB it = true) : 1 ≤ it.names.length ∧ it.names.length ≤ 3 ∧ it.marks.length = it.names.length := by
  have := itemB_true h
  omega
theorem OwnT.only {w w' : World} {base : Nat} {v : Value} {it : ItemD} {S : List Nat} (h : OwnT w base v it) (ho : Only S w w') (hd : ∀ b ∈ fpA v, b ∉ S) : OwnT w' base v it := by
  obtain ⟨nv, mv, rfl, h1, h2, h3⟩ := h
  rw [fpA_item] at hd
  exact ⟨nv, mv, rfl, h1.only ho (fun b hb => hd b (List.mem_append_left _ hb)), h2.only ho (fun b hb => hd b (List.mem_append_right _ hb)), h3⟩
theorem OwnT.kept {w w' : World} {base : Nat} {v : Value} {it : ItemD} (h : OwnT w base v it) (hk : Kept w w') : OwnT w' base v it := h.only (hk.only []) (fun _ _ => List.not_mem_nil)
theorem OwnT.fps {w : World} {base : Nat} {v : Value} {it : ItemD} (h : OwnT w base v it) : ∀ b ∈ fpA v, base ≤ b ∧ b < w.heap.size := by
  obtain ⟨nv, mv, rfl, h1, h2, h3⟩ := h
  rw [fpA_item]
  intro b hb
  rcases List.mem_append.1 hb with hb | hb
  · exact own_fp h1.1 b hb
  · exact own_fp h2 b hb
/-- a value that counts only if b holds -/
def onI (b : Bool) (v : Int) : Int := cond b v 0
def onL (b : Bool) (v : List Int) : List Int := cond b v []
def fmOk (x : CodeD) (it : ItemD) : Bool := codeB x && itemB it && decide (0 ≤ famV x it)
def ifOk (x : CodeD) (it : ItemD) : Bool := gdB x [it]
def kwOk (x : CodeD) (its : List ItemD) : Bool := codeB x && itemsB its
set_option maxHeartbeats 1000000 in
theorem pgFamily_any (v0 v1 : Value) (x : CodeD) (it : ItemD) (w : World) (h0 : CodeAt w v0 x) (h1 : ItemAt w v1 it) (hn : 1 ≤ it.names.length) :
    Calls Tryz.prog 99 #[v0, v1] w fun e w' => e = .returned (.int .i64 (famV x it)) ∧ Kept w w' := by
  have H0 := Lib.hid h0
  obtain ⟨n0, m0, rfl, p0, q0⟩ := h0
  have HE0 := Lib.hid p0; have HI0 := Lib.hid q0
  obtain ⟨A0, c0, rfl, hnc0, hcm0, _⟩ := p0.1.out; obtain ⟨D0, d0, rfl, hnd0, hdm0, _⟩ := q0.out; clear p0 q0; unfold maxLen at hcm0 hdm0
  have H1 := Lib.hid h1
  obtain ⟨n1, m1, rfl, p1, q1⟩ := h1
  have HN1 := Lib.hid p1; have HM1 := Lib.hid q1
  obtain ⟨A1, c1, rfl, hnc1, hcm1, _⟩ := p1.1.out; obtain ⟨D1, d1, rfl, hnd1, hdm1, _⟩ := q1.out; clear p1 q1; unfold maxLen at hcm1 hdm1
  go_enter Tryz.func99, Tryz.ntmps99
  have K0 := Kept.refl w
  go_wp2_with fail
  obtain ⟨wb1, hwb1⟩ : ∃ w' : World, w' = w.alloc (.cells #[.slice A0 x.elems.length c0, .slice D0 x.limits.length d0, .int .i64 x.repeats, .int .i64 x.bonus, .int .i64 x.keeps, .int .i64 x.fall] 26) := ⟨_, rfl⟩
  rw [← hwb1]
  have KB0 : Kept w wb1 := hwb1 ▸ (Kept.refl w).alloc _
  have B0 : Box wb1 (w.heap.size) 26 #[.slice A0 x.elems.length c0, .slice D0 x.limits.length d0, .int .i64 x.repeats, .int .i64 x.bonus, .int .i64 x.keeps, .int .i64 x.fall] := hwb1 ▸ Box.new w (w.heap.size) 26 #[.slice A0 x.elems.length c0, .slice D0 x.limits.length d0, .int .i64 x.repeats, .int .i64 x.bonus, .int .i64 x.keeps, .int .i64 x.fall] rfl
  have swb1 : wb1.heap.size = w.heap.size + 1 := by rw [hwb1]; simp
  clear hwb1
  have Kwb1 := K0.trans KB0
  obtain ⟨wb2, hwb2⟩ : ∃ w' : World, w' = wb1.alloc (.cells #[.slice A1 it.names.length c1, .slice D1 it.marks.length d1, .bool it.late] 30) := ⟨_, rfl⟩
  rw [← hwb2]
  have KB1 : Kept wb1 wb2 := hwb2 ▸ (Kept.refl wb1).alloc _
  have B1 : Box wb2 (w.heap.size + 1) 30 #[.slice A1 it.names.length c1, .slice D1 it.marks.length d1, .bool it.late] := hwb2 ▸ Box.new wb1 (w.heap.size + 1) 30 #[.slice A1 it.names.length c1, .slice D1 it.marks.length d1, .bool it.late] (by omega)
  have swb2 : wb2.heap.size = wb1.heap.size + 1 := by rw [hwb2]; simp
  clear hwb2
  replace B0 := B0.kept KB1
  have Kwb2 := Kwb1.trans KB1
  have Kd1_ : Kept wb2 wb2.drew := (Kept.refl _).drew
  replace B0 := B0.kept Kd1_
  replace B1 := B1.kept Kd1_
  have Kd1 := Kwb2.trans Kd1_
  obtain ⟨b, o, z, rfl, hb, hz, hc⟩ := strs_at (HN1.out.kept Kd1).1.addr (k := 0) (by omega)
  rw [Nat.add_zero] at hc
  have y0 := After.cell hc hb
  have HC := Lib.hid (H0.out.kept Kd1)
  have HF := Lib.hid (famV_first (x := x) hz)
  have hlen : (0 : Int) < (it.names.length : Int) := by omega
  clear hz hc
  have x0 := fun t : After (wb2.drew) => (B0.kept t.kept).six.1
  have x1 := fun t : After (wb2.drew) => (B1.kept t.kept).three.1
  refine region_after (by kernel_rfl) (by kernel_rfl) ?_
  repeat (go_big_quiet_step ((go_at_call 104; exact after_of (cdFind_any _ x z _ (HC.out.kept (After.kept _))))))
  refine wpQuiet_nil ?_
  intro wq hw'
  obtain ⟨⟨_, kq⟩, hw''⟩ := hw'
  subst hw''
  try dsimp only
  clear x0 x1
  replace B0 := B0.kept kq
  replace B1 := B1.kept kq
  have Kq2 := Kd1.trans kq
  clear y0
  rcases findV_cases x.elems z with hf | ⟨k, y, hf, hy, hit⟩
  · have HV := Lib.hid (HF.out.trans (famN_none hf))
    rw [hf]
    clear hf
    obtain ⟨x0, y0⟩ := B0.six
    obtain ⟨x1, y1⟩ := B1.three
    go_wp2_with fail
    clear x0 y0 x1 y1
    go_ret
    exact ⟨ret_int HV.out.symm, Kq2⟩
  · have HV := Lib.hid (HF.out.trans (famN_hit hf hy))
    rw [hf]
    have hlt : k < x.elems.length := (List.getElem?_eq_some_iff.1 hy).1
    obtain ⟨b', o', y', rfl, hb', h2, q0, q1, q2, q3⟩ := elems_at (HE0.out.kept Kq2).1.addr hlt
    rw [hy] at h2; injection h2 with h2; subst h2
    have hlt' : (k : Int) < (x.elems.length : Int) := by omega
    clear hf hy hit
    obtain ⟨x0, y0⟩ := B0.six
    obtain ⟨x1, y1⟩ := B1.three
    go_wp2_with fail
    clear x0 y0 x1 y1
    go_ret
    exact ⟨ret_int HV.out.symm, Kq2⟩
set_option maxHeartbeats 1000000 in
theorem familyOf_any (v0 v1 : Value) (x : CodeD) (it : ItemD) (w : World) (h0 : CodeAt w v0 x) (h1 : ItemAt w v1 it) (hn : 1 ≤ it.names.length) :
    Calls Tryz.prog 103 #[v0, v1] w fun e w' => e = .returned (.int .i64 (famV x it)) ∧ Kept w w' := by
  have H0 := Lib.hid h0
  obtain ⟨n0, m0, rfl, p0, q0⟩ := h0
  have HE0 := Lib.hid p0; have HI0 := Lib.hid q0
  obtain ⟨A0, c0, rfl, hnc0, hcm0, _⟩ := p0.1.out; obtain ⟨D0, d0, rfl, hnd0, hdm0, _⟩ := q0.out; clear p0 q0; unfold maxLen at hcm0 hdm0
  have H1 := Lib.hid h1
  obtain ⟨n1, m1, rfl, p1, q1⟩ := h1
  have HN1 := Lib.hid p1; have HM1 := Lib.hid q1
  obtain ⟨A1, c1, rfl, hnc1, hcm1, _⟩ := p1.1.out; obtain ⟨D1, d1, rfl, hnd1, hdm1, _⟩ := q1.out; clear p1 q1; unfold maxLen at hcm1 hdm1
  go_enter Tryz.func103, Tryz.ntmps103
  have K0 := Kept.refl w
  go_wp2_with fail
  obtain ⟨wb1, hwb1⟩ : ∃ w' : World, w' = w.alloc (.cells #[.slice A0 x.elems.length c0, .slice D0 x.limits.length d0, .int .i64 x.repeats, .int .i64 x.bonus, .int .i64 x.keeps, .int .i64 x.fall] 26) := ⟨_, rfl⟩
  rw [← hwb1]
  have KB0 : Kept w wb1 := hwb1 ▸ (Kept.refl w).alloc _
  have B0 : Box wb1 (w.heap.size) 26 #[.slice A0 x.elems.length c0, .slice D0 x.limits.length d0, .int .i64 x.repeats, .int .i64 x.bonus, .int .i64 x.keeps, .int .i64 x.fall] := hwb1 ▸ Box.new w (w.heap.size) 26 #[.slice A0 x.elems.length c0, .slice D0 x.limits.length d0, .int .i64 x.repeats, .int .i64 x.bonus, .int .i64 x.keeps, .int .i64 x.fall] rfl
  have swb1 : wb1.heap.size = w.heap.size + 1 := by rw [hwb1]; simp
  clear hwb1
  have Kwb1 := K0.trans KB0
  obtain ⟨wb2, hwb2⟩ : ∃ w' : World, w' = wb1.alloc (.cells #[.slice A1 it.names.length c1, .slice D1 it.marks.length d1, .bool it.late] 30) := ⟨_, rfl⟩
  rw [← hwb2]
  have KB1 : Kept wb1 wb2 := hwb2 ▸ (Kept.refl wb1).alloc _
  have B1 : Box wb2 (w.heap.size + 1) 30 #[.slice A1 it.names.length c1, .slice D1 it.marks.length d1, .bool it.late] := hwb2 ▸ Box.new wb1 (w.heap.size + 1) 30 #[.slice A1 it.names.length c1, .slice D1 it.marks.length d1, .bool it.late] (by omega)
  have swb2 : wb2.heap.size = wb1.heap.size + 1 := by rw [hwb2]; simp
  clear hwb2
  replace B0 := B0.kept KB1
  have Kwb2 := Kwb1.trans KB1
  have Kd1_ : Kept wb2 wb2.drew := (Kept.refl _).drew
  replace B0 := B0.kept Kd1_
  replace B1 := B1.kept Kd1_
  have Kd1 := Kwb2.trans Kd1_
  obtain ⟨b, o, z, rfl, hb, hz, hc⟩ := strs_at (HN1.out.kept Kd1).1.addr (k := 0) (by omega)
  rw [Nat.add_zero] at hc
  have y0 := After.cell hc hb
  have HC := Lib.hid (H0.out.kept Kd1)
  have HF := Lib.hid (famV_first (x := x) hz)
  have hlen : (0 : Int) < (it.names.length : Int) := by omega
  clear hz hc
  have x0 := fun t : After (wb2.drew) => (B0.kept t.kept).six.1
  have x1 := fun t : After (wb2.drew) => (B1.kept t.kept).three.1
  refine region_after (by kernel_rfl) (by kernel_rfl) ?_
  repeat (go_big_quiet_step ((go_at_call 96; exact after_of (findElement_any _ x z _ (HC.out.kept (After.kept _))))))
  refine wpQuiet_nil ?_
  intro wq hw'
  obtain ⟨⟨_, kq⟩, hw''⟩ := hw'
  subst hw''
  try dsimp only
  clear x0 x1
  replace B0 := B0.kept kq
  replace B1 := B1.kept kq
  have Kq2 := Kd1.trans kq
  clear y0
  rcases findV_cases x.elems z with hf | ⟨k, y, hf, hy, hit⟩
  · have HV := Lib.hid (HF.out.trans (famN_none hf))
    rw [hf]
    clear hf
    obtain ⟨x0, y0⟩ := B0.six
    obtain ⟨x1, y1⟩ := B1.three
    go_wp2_with fail
    clear x0 y0 x1 y1
    go_ret
    exact ⟨ret_int HV.out.symm, Kq2⟩
  · have HV := Lib.hid (HF.out.trans (famN_hit hf hy))
    rw [hf]
    have hlt : k < x.elems.length := (List.getElem?_eq_some_iff.1 hy).1
    obtain ⟨b', o', y', rfl, hb', h2, q0, q1, q2, q3⟩ := elems_at (HE0.out.kept Kq2).1.addr hlt
    rw [hy] at h2; injection h2 with h2; subst h2
    have hlt' : (k : Int) < (x.elems.length : Int) := by omega
    clear hf hy hit
    obtain ⟨x0, y0⟩ := B0.six
    obtain ⟨x1, y1⟩ := B1.three
    go_wp2_with fail
    clear x0 y0 x1 y1
    go_ret
    exact ⟨ret_int HV.out.symm, Kq2⟩
set_option maxHeartbeats 1000000 in
theorem isKnown_any (v0 v1 : Value) (x : CodeD) (its : List ItemD) (w : World) (h0 : CodeAt w v0 x) (h1 : ItemsAt w v1 its)  :
    Calls Tryz.prog 81 #[v0, v1] w fun e w' => e = .returned (.bool (knB x its)) ∧ Kept w w' := by
  have H0 := Lib.hid h0
  obtain ⟨n0, m0, rfl, p0, q0⟩ := h0
  have HE0 := Lib.hid p0; have HI0 := Lib.hid q0
  obtain ⟨A0, c0, rfl, hnc0, hcm0, _⟩ := p0.1.out; obtain ⟨D0, d0, rfl, hnd0, hdm0, _⟩ := q0.out; clear p0 q0; unfold maxLen at hcm0 hdm0
  have H1 := Lib.hid h1
  obtain ⟨A1, c1, cs1, rfl, hnc1, hcm1, hA1⟩ := h1.out; have HA1 := Lib.hid hA1; clear hA1 h1; unfold maxLen at hcm1
  go_enter Tryz.func81, Tryz.ntmps81
  have K0 := Kept.refl w
  go_wp2_with fail
  obtain ⟨wb1, hwb1⟩ : ∃ w' : World, w' = w.alloc (.cells #[.slice A0 x.elems.length c0, .slice D0 x.limits.length d0, .int .i64 x.repeats, .int .i64 x.bonus, .int .i64 x.keeps, .int .i64 x.fall] 26) := ⟨_, rfl⟩
  rw [← hwb1]
  have KB0 : Kept w wb1 := hwb1 ▸ (Kept.refl w).alloc _
  have B0 : Box wb1 (w.heap.size) 26 #[.slice A0 x.elems.length c0, .slice D0 x.limits.length d0, .int .i64 x.repeats, .int .i64 x.bonus, .int .i64 x.keeps, .int .i64 x.fall] := hwb1 ▸ Box.new w (w.heap.size) 26 #[.slice A0 x.elems.length c0, .slice D0 x.limits.length d0, .int .i64 x.repeats, .int .i64 x.bonus, .int .i64 x.keeps, .int .i64 x.fall] rfl
  have swb1 : wb1.heap.size = w.heap.size + 1 := by rw [hwb1]; simp
  clear hwb1
  have Kwb1 := K0.trans KB0
  go_loopw [11] (fun i wr => ∃ k : Nat, k ≤ its.length ∧ i = .int .i64 k ∧ (its.take k).all (knI x) = true ∧ Kept wb1 wr) (fun i _ => its.length - (intOf i).toNat)
  case atStart => exact ⟨0, Nat.zero_le _, rfl, rfl, Kept.refl _⟩
  case round =>
    obtain ⟨wo, rfl⟩ : ∃ wo : World, wo = wr := ⟨_, rfl⟩
    obtain ⟨k, hk, rfl, ha, hkept⟩ := hrel
    have HB := Lib.hid ha
    clear ha
    replace B0 := B0.kept hkept
    have szo := hkept.size
    have Ko := Kwb1.trans hkept
    by_cases hlt : k < its.length
    · obtain ⟨b, o, Aa, ca, Ab, cb, it, rfl, hbb, h2, h3, hit, q0, q1, q2⟩ := items_at (HA1.out.kept Ko) hlt
      have HS := Lib.hid hit.parts.1
      have HZ := Lib.hid h2
      clear h2 h3 hit
      have hle : it.names.length ≤ ca ∧ ca ≤ maxLen := by obtain ⟨_, _, e, h1, h2, _⟩ := HS.out.1.out; injection e with _ _ e; subst e; exact ⟨h1, h2⟩
      obtain ⟨hle1, hle2⟩ := hle
      unfold maxLen at hle2
      obtain ⟨x0, y0⟩ := B0.six
      go_wp2_with fail
      clear x0 y0
      go_loopw [18] (fun i wi => ∃ j : Nat, j ≤ it.names.length ∧ i = .int .i64 j ∧ (it.names.take j).all (knS x) = true ∧ Kept wo wi) (fun i _ => it.names.length - (intOf i).toNat)
      case atStart => exact ⟨0, Nat.zero_le _, rfl, rfl, (Kept.refl _).alloc _⟩
      case round =>
        obtain ⟨j, hj, rfl, ha, hki⟩ := hrel
        have HJ := Lib.hid ha
        clear ha
        replace B0 := B0.kept hki
        have szr := hki.size
        have Kr := Ko.trans hki
        by_cases hltj : j < it.names.length
        · obtain ⟨b1, o1, z, rfl, hb1, hz, hc⟩ := strs_at (HS.out.kept hki).1.addr hltj
          have HY := Lib.hid hz
          clear hz
          by_cases hf : findV x.elems z < 0
          · have HF := Lib.hid (knS_none hf)
            obtain ⟨x0, y0⟩ := B0.six
            go_wp2_with fail
            clear x0 y0
            refine (findElement_any _ x z _ (H0.out.kept Kr)).mono ?_
            rintro e w1 ⟨rfl, k1⟩
            replace B0 := B0.kept k1
            have sz1 := k1.size
            have K1 := Kr.trans k1
            obtain ⟨x0, y0⟩ := B0.six
            go_wp2_with fail
            clear x0 y0
            go_ret
            exact ⟨ret_bool (all_not HZ.out (all_not (p := knS x) HY.out HF.out)).symm, K1⟩
          · have HF := Lib.hid (knS_hit hf)
            obtain ⟨x0, y0⟩ := B0.six
            go_wp2_with fail
            clear x0 y0
            refine (findElement_any _ x z _ (H0.out.kept Kr)).mono ?_
            rintro e w2 ⟨rfl, k2⟩
            replace B0 := B0.kept k2
            have sz2 := k2.size
            have K2 := Kr.trans k2
            obtain ⟨x0, y0⟩ := B0.six
            go_wp2_with fail
            clear x0 y0
            go_roundw
            case rel => exact ⟨j + 1, by omega, by go_num, all_snoc HY.out HJ.out HF.out, hki.trans k2⟩
            case measure => simp [intOf]; omega
        · have HI := Lib.hid (all_full (p := knS x) (by omega) HJ.out)
          obtain ⟨x0, y0⟩ := B0.six
          go_wp2_with fail
          clear x0 y0
          go_roundw
          case rel => exact ⟨k + 1, by omega, by go_num, all_snoc (p := knI x) HZ.out HB.out HI.out, hkept.trans hki⟩
          case measure => simp [intOf]; omega
    · have HI := Lib.hid (all_full (p := knI x) (by omega) HB.out)
      obtain ⟨x0, y0⟩ := B0.six
      go_wp2_with fail
      clear x0 y0
      go_ret
      exact ⟨ret_bool HI.out.symm, Ko⟩
end Go.Proofs.YtkekpolfdmmgeaaGreat

/- Programmes: the plain functions (rules). -/
namespace Go.Proofs.YtkekpolfdmmgeaaGreat
set_option linter.unusedVariables false
set_option linter.unusedSimpArgs false
open Go.RowKit

def combB (it : ItemD) : Bool := decide (1 < it.names.length)
def jumpS (x : CodeD) (it : ItemD) (s : ByteArray) : Bool := !combB it || famN x s == 0
def jumpI (x : CodeD) (it : ItemD) : Bool := it.names.all (jumpS x it)
def jumpB (x : CodeD) (its : List ItemD) : Bool := its.all (jumpI x)
def cleanI (it : ItemD) : Bool := it.marks.all (inB · 0 0)
def cleanB (its : List ItemD) : Bool := its.all cleanI
def twoN (its : List ItemD) : Nat := (its.filter combB).length
def threeN (its : List ItemD) : Nat := (its.filter fun it => decide (2 < it.names.length)).length
def fewB (its : List ItemD) : Bool := decide (twoN its ≤ 3) && decide (threeN its ≤ 1)
def fitB (x : CodeD) (its : List ItemD) : Bool := ((countsV x its).zip x.limits).all fun p => decide (p.1 ≤ p.2)
def repS (x : CodeD) (its : List ItemD) (s : ByteArray) : Bool := decide ((times its s : Int) ≤ x.repeats) && (times its s == 1 || decide (0 < timesC its s))
def repI (x : CodeD) (its : List ItemD) (it : ItemD) : Bool := it.names.all (repS x its)
def repB (x : CodeD) (its : List ItemD) : Bool := its.all (repI x its)
def lateB (its : List ItemD) (k : Nat) : Bool := match its[k]? with | some it => it.late == decide (its.length ≤ 2 * k) | none => true
def halfB (its : List ItemD) : Bool := (List.range its.length).all (lateB its)
def ruleB (x : CodeD) (its : List ItemD) (r : Int) : Bool :=
  if r = 1 then decide (0 < its.length) else if r = 2 then knB x its else if r = 3 then cleanB its else if r = 4 then jumpB x its
  else if r = 5 then fewB its else if r = 6 then fitB x its else if r = 7 then repB x its else halfB its
def brokenV (x : CodeD) (its : List ItemD) (k : Nat) : List Int := ((List.range k).map fun (i : Nat) => ((i : Int) + 1)).filter fun r => !ruleB x its r
theorem brokenV_snoc (x : CodeD) (its : List ItemD) (k : Nat) : brokenV x its (k + 1) = brokenV x its k ++ (if ruleB x its ((k : Int) + 1) = true then [] else [(k : Int) + 1]) := by
  unfold brokenV
  rw [List.range_succ, List.map_append, List.filter_append]
  by_cases h : ruleB x its ((k : Int) + 1) = true <;> simp [h]
theorem brokenV_len (x : CodeD) (its : List ItemD) (k : Nat) : (brokenV x its k).length ≤ k := by
  unfold brokenV
  have := List.length_filter_le (fun r => !ruleB x its r) ((List.range k).map fun (i : Nat) => ((i : Int) + 1))
  simpa using this
def progB (x : CodeD) (its : List ItemD) : Bool := codeB x && itemsB its && (brokenV x its 8).isEmpty
theorem filter_snoc {α : Type} {l : List α} {k : Nat} {z : α} (p : α → Bool) (h : l[k]? = some z) : ((l.take (k + 1)).filter p).length = ((l.take k).filter p).length + if p z = true then 1 else 0 := by
  rw [take_snoc h, List.filter_append, List.length_append]
  by_cases e : p z = true <;> simp [e]
theorem filter_le14 {its : List ItemD} (hb : itemsB its = true) (p : ItemD → Bool) (k : Nat) : ((its.take k).filter p).length ≤ 14 := by
  have h1 := List.length_filter_le p (its.take k)
  have h2 := List.length_take_le k its
  have h3 := (itemsB_true hb).1
  rw [List.length_take] at h1
  omega
theorem times_pos {its : List ItemD} {k : Nat} {it : ItemD} {j : Nat} {s : ByteArray} (h : its[k]? = some it) (hs : it.names[j]? = some s) : 1 ≤ times its s := by
  have h1 : cnt s it.names ≤ times its s := mem_le_sum _ _ (List.mem_map_of_mem (f := fun it => cnt s it.names) (List.mem_of_getElem? h))
  have h2 : 1 ≤ cnt s it.names := by
    unfold cnt
    exact List.length_pos_iff.2 (fun e => by
      have : s ∈ it.names.filter fun x => decide (x = s) := List.mem_filter.2 ⟨List.mem_of_getElem? hs, by simp⟩
      rw [e] at this
      cases this)
  omega
theorem repS_impl {x : CodeD} {its : List ItemD} {s : ByteArray} (h : 1 ≤ times its s) : repS x its s = !(decide (x.repeats < (times its s : Int)) || decide (1 < times its s) && (timesC its s == 0)) := by
  unfold repS
  rw [Bool.eq_iff_iff]
  simp only [Bool.and_eq_true, Bool.or_eq_true, Bool.not_eq_true', Bool.or_eq_false_iff, Bool.and_eq_false_iff, decide_eq_true_eq, decide_eq_false_iff_not, beq_iff_eq, beq_eq_false_iff_ne, ne_eq]
  omega
end Go.Proofs.YtkekpolfdmmgeaaGreat
