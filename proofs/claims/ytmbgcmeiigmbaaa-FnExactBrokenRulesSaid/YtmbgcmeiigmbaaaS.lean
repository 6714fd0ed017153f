/- How often a name occurs in a list. -/
import Derived.Test.YtmbgcmeiigmbaaaK
namespace Go.Proofs.Ytmbgcmeiigmbaaa
open Go.RowKit

def cnt (s : ByteArray) (l : List ByteArray) : Nat := (l.filter fun x => decide (x = s)).length
def cntC (s : ByteArray) (it : ItemD) : Nat := if 1 < it.names.length then cnt s it.names else 0
def times (its : List ItemD) (s : ByteArray) : Nat := (its.map fun it => cnt s it.names).sum
def timesC (its : List ItemD) (s : ByteArray) : Nat := (its.map (cntC s)).sum
theorem cnt_snoc {s z : ByteArray} {l : List ByteArray} {k : Nat} (h : l[k]? = some z) : cnt s (l.take (k + 1)) = cnt s (l.take k) + if z = s then 1 else 0 := by
  unfold cnt
  rw [take_snoc h, List.filter_append]
  by_cases hz : z = s <;> simp [List.filter_cons, hz]
theorem cnt_le (s : ByteArray) (l : List ByteArray) : cnt s l ≤ l.length := List.length_filter_le _ _
theorem itemsB_true {its : List ItemD} (h : itemsB its = true) : its.length ≤ 14 ∧ ∀ it ∈ its, itemB it = true := by
  unfold itemsB at h
  rw [Bool.and_eq_true] at h
  exact ⟨by simpa using h.2, fun it hi => List.all_eq_true.1 h.1 it hi⟩
theorem itemB_true {it : ItemD} (h : itemB it = true) : (∀ z ∈ it.names, nameB z = true) ∧ 1 ≤ it.names.length ∧ it.names.length ≤ 3 ∧ it.marks.length = it.names.length ∧ ∀ m ∈ it.marks, 0 ≤ m ∧ m ≤ 3 := by
  unfold itemB at h
  simp only [Bool.and_eq_true] at h
  obtain ⟨⟨⟨h1, h2⟩, h3⟩, h4⟩ := h
  have h5 := inB_true h2
  exact ⟨fun z hz => List.all_eq_true.1 h1 z hz, by omega, by omega, by simpa using h3, fun m hm => inB_true (List.all_eq_true.1 h4 m hm)⟩
theorem sum_le_mul (l : List Nat) (B : Nat) (h : ∀ x ∈ l, x ≤ B) : l.sum ≤ l.length * B := by
  induction l with
  | nil => simp
  | cons y l ih =>
    have h1 := h y (by simp)
    have h2 := ih (fun x hx => h x (by simp [hx]))
    rw [List.sum_cons, List.length_cons, Nat.succ_mul]
    omega
theorem times_bd {its : List ItemD} (hb : itemsB its = true) (s : ByteArray) (k : Nat) : ((its.take k).map fun it => cnt s it.names).sum ≤ 42 ∧ ((its.take k).map (cntC s)).sum ≤ 42 := by
  obtain ⟨h1, h2⟩ := itemsB_true hb
  have hl : (its.take k).length ≤ 14 := by rw [List.length_take]; omega
  have hc : ∀ it ∈ its.take k, cnt s it.names ≤ 3 := fun it hi => Nat.le_trans (cnt_le s _) (itemB_true (h2 it (List.mem_of_mem_take hi))).2.2.1
  constructor
  · have := sum_le_mul ((its.take k).map fun it => cnt s it.names) 3 (by
      intro x hx
      obtain ⟨it, hi, rfl⟩ := List.mem_map.1 hx
      exact hc it hi)
    rw [List.length_map] at this
    omega
  · have := sum_le_mul ((its.take k).map (cntC s)) 3 (by
      intro x hx
      obtain ⟨it, hi, rfl⟩ := List.mem_map.1 hx
      unfold cntC
      split
      · exact hc it hi
      · omega)
    rw [List.length_map] at this
    omega
theorem isCombined_any (v : Value) (it : ItemD) (w : World) (h : ItemAt w v it) :
    Calls Try.prog 151 #[v] w fun e w' => e = .returned (.bool (decide (1 < it.names.length))) ∧ Kept w w' := by
  obtain ⟨nv, mv, rfl, q1, _⟩ := h
  obtain ⟨A, c, rfl, _, hcm, _⟩ := q1.1.out
  go_enter Try.func151, Try.ntmps151
  go_wp2
  go_ret
  exact ⟨ret_bool (decide_eq_decide.2 (by omega)), (Kept.refl _).alloc _⟩
set_option maxHeartbeats 2000000 in
theorem timesOf_any (v : Value) (its : List ItemD) (s : ByteArray) (w : World) (h : ItemsAt w v its) (hb : itemsB its = true) :
    Calls Try.prog 153 #[v, .string s] w fun e w' => e = .returned (.tuple #[.int .i64 (times its s), .int .i64 (timesC its s)]) ∧ Kept w w' := by
  obtain ⟨A, c, cs, rfl, hnc, hcm, hA⟩ := h.out
  unfold maxLen at hcm
  have HA := Lib.hid hA
  have HB := Lib.hid hb
  have hl14 := (itemsB_true hb).1
  clear hA h hb
  go_enter Try.func153, Try.ntmps153
  go_wp2_with fail
  go_loopw [6, 7, 14] (fun t q i wr => ∃ k : Nat, k ≤ its.length ∧ i = .int .i64 k ∧ t = .int .i64 (((its.take k).map fun it => cnt s it.names).sum : Nat) ∧ q = .int .i64 (((its.take k).map (cntC s)).sum : Nat) ∧ Kept w wr) (fun _ _ i _ => its.length - (intOf i).toNat)
  case atStart => exact ⟨0, Nat.zero_le _, rfl, rfl, rfl, Kept.refl _⟩
  case round =>
    obtain ⟨wo, rfl⟩ : ∃ wo : World, wo = wr := ⟨_, rfl⟩
    obtain ⟨k, hk, rfl, rfl, rfl, hkept⟩ := hrel
    by_cases hlt : k < its.length
    · obtain ⟨b, o, A1, c1, A2, c2, it, rfl, hbb, h2, h3, hit, q0, q1, q2⟩ := items_at (HA.out.kept hkept) hlt
      have hib := (itemsB_true HB.out).2 it (List.mem_of_getElem? h2)
      obtain ⟨-, hn1, hn3, -, -⟩ := itemB_true hib
      obtain ⟨bd1, bd2⟩ := times_bd HB.out s k
      have T1 := Lib.hid (sum_snoc (fun it => cnt s it.names) h2)
      have T2 := Lib.hid (sum_snoc (cntC s) h2)
      obtain ⟨nv, mv, ee, r1, r2⟩ := hit
      simp only [Value.agg.injEq] at ee
      simp at ee
      obtain ⟨rfl, rfl⟩ := ee
      have HS := Lib.hid r1
      have HM := Lib.hid r2
      clear h2 h3 r1 r2
      generalize ((its.take k).map fun it => cnt s it.names).sum = tk at *
      generalize ((its.take k).map (cntC s)).sum = ck at *
      go_wp2_with fail
      go_loopw [6, 7, 21] (fun t q i wi => ∃ j : Nat, j ≤ it.names.length ∧ i = .int .i64 j ∧ t = .int .i64 ((tk + cnt s (it.names.take j) : Nat) : Int) ∧ q = .int .i64 ((ck + (if 1 < it.names.length then cnt s (it.names.take j) else 0) : Nat) : Int) ∧ Box wi wo.heap.size 64 #[.slice A1 it.names.length c1, .slice A2 it.marks.length c2, .bool it.late] ∧ Kept wo wi) (fun _ _ i _ => it.names.length - (intOf i).toNat)
      case atStart => exact ⟨0, Nat.zero_le _, rfl, by simp [cnt], by simp [cnt], Box.new wo _ _ _ rfl, (Kept.refl _).alloc _⟩
      case round =>
        obtain ⟨j, hj, rfl, rfl, rfl, hbox, hki⟩ := hrel
        by_cases hltj : j < it.names.length
        · obtain ⟨b1, o1, z, rfl, hb1, hz, hc⟩ := strs_at (HS.out.1.addr.kept hki) hltj
          have HZ := Lib.hid (cnt_snoc (s := s) hz)
          have hcl := cnt_le s (it.names.take j)
          have hct : (it.names.take j).length ≤ it.names.length := by rw [List.length_take]; omega
          have HI : Hid (ItemAt wr (.agg #[.slice (some ⟨b1, o1, none⟩) it.names.length c1, .slice A2 it.marks.length c2, .bool it.late]) it) := Lib.hid ⟨_, _, rfl, HS.out.kept hki, HM.out.kept hki⟩
          obtain ⟨x0, y0⟩ := hbox.three
          clear hz y0
          generalize cnt s (it.names.take j) = cj at *
          by_cases hzs : z = s
          · have hne : (!z.toList == s.toList) = false := by simp [hzs]
            have heq : (z.toList == s.toList) = true := by simp [hzs]
            have HE := Lib.hid hzs
            clear hzs
            by_cases hcm2 : 1 < it.names.length
            · have hd : decide (1 < it.names.length) = true := by simp [hcm2]
              rw [if_pos hcm2]
              go_wp2_with fail
              refine (isCombined_any _ it _ HI.out).mono ?_
              rintro e w1 ⟨rfl, k1⟩
              rw [hd]
              go_wp2_with fail
              go_roundw
              case rel =>
                refine ⟨j + 1, by omega, by go_num, by rw [HZ.out, if_pos HE.out]; go_num, by rw [HZ.out, if_pos HE.out, if_pos hcm2]; go_num, hbox.kept k1, hki.trans k1⟩
              case measure => simp [intOf]; omega
            · have hd : decide (1 < it.names.length) = false := by simp; omega
              rw [if_neg hcm2]
              go_wp2_with fail
              refine (isCombined_any _ it _ HI.out).mono ?_
              rintro e w1 ⟨rfl, k1⟩
              rw [hd]
              go_wp2_with fail
              go_roundw
              case rel =>
                refine ⟨j + 1, by omega, by go_num, by rw [HZ.out, if_pos HE.out]; go_num, by rw [if_neg hcm2] <;> simp, hbox.kept k1, hki.trans k1⟩
              case measure => simp [intOf]; omega
          · have hnl : ¬ z.toList = s.toList := fun e => hzs (str_ext e)
            have hne : (!z.toList == s.toList) = true := by simp [hnl]
            have heq : (z.toList == s.toList) = false := by simp [hnl]
            have HE := Lib.hid hzs
            clear hzs hnl
            go_wp2_with fail
            go_roundw
            case rel => exact ⟨j + 1, by omega, by go_num, by rw [HZ.out, if_neg HE.out]; rfl, by rw [HZ.out, if_neg HE.out]; rfl, hbox, hki⟩
            case measure => simp [intOf]; omega
        · obtain rfl : j = it.names.length := by omega
          go_wp2_with fail
          go_roundw
          case rel =>
            refine ⟨k + 1, by omega, by go_num, ?_, ?_, hkept.trans hki⟩
            · rw [T1.out, List.take_length]
            · rw [T2.out, List.take_length]; rfl
          case measure => simp [intOf]; omega
    · obtain rfl : k = its.length := by omega
      go_wp2_with fail
      go_ret2
      refine ⟨?_, hkept⟩
      simp [times, timesC]
set_option maxHeartbeats 2000000 in
theorem pgTimes_any (v : Value) (its : List ItemD) (s : ByteArray) (w : World) (h : ItemsAt w v its) (hb : itemsB its = true) :
    Calls Try.prog 168 #[v, .string s] w fun e w' => e = .returned (.tuple #[.int .i64 (times its s), .int .i64 (timesC its s)]) ∧ Kept w w' := by
  obtain ⟨A, c, cs, rfl, hnc, hcm, hA⟩ := h.out
  unfold maxLen at hcm
  have HA := Lib.hid hA
  have HB := Lib.hid hb
  have hl14 := (itemsB_true hb).1
  clear hA h hb
  go_enter Try.func168, Try.ntmps168
  go_wp2_with fail
  go_loopw [6, 7, 14] (fun t q i wr => ∃ k : Nat, k ≤ its.length ∧ i = .int .i64 k ∧ t = .int .i64 (((its.take k).map fun it => cnt s it.names).sum : Nat) ∧ q = .int .i64 (((its.take k).map (cntC s)).sum : Nat) ∧ Kept w wr) (fun _ _ i _ => its.length - (intOf i).toNat)
  case atStart => exact ⟨0, Nat.zero_le _, rfl, rfl, rfl, Kept.refl _⟩
  case round =>
    obtain ⟨wo, rfl⟩ : ∃ wo : World, wo = wr := ⟨_, rfl⟩
    obtain ⟨k, hk, rfl, rfl, rfl, hkept⟩ := hrel
    by_cases hlt : k < its.length
    · obtain ⟨b, o, A1, c1, A2, c2, it, rfl, hbb, h2, h3, hit, q0, q1, q2⟩ := items_at (HA.out.kept hkept) hlt
      have hib := (itemsB_true HB.out).2 it (List.mem_of_getElem? h2)
      obtain ⟨-, hn1, hn3, -, -⟩ := itemB_true hib
      obtain ⟨bd1, bd2⟩ := times_bd HB.out s k
      have T1 := Lib.hid (sum_snoc (fun it => cnt s it.names) h2)
      have T2 := Lib.hid (sum_snoc (cntC s) h2)
      obtain ⟨nv, mv, ee, r1, r2⟩ := hit
      simp only [Value.agg.injEq] at ee
      simp at ee
      obtain ⟨rfl, rfl⟩ := ee
      have HS := Lib.hid r1
      have HM := Lib.hid r2
      clear h2 h3 r1 r2
      generalize ((its.take k).map fun it => cnt s it.names).sum = tk at *
      generalize ((its.take k).map (cntC s)).sum = ck at *
      go_wp2_with fail
      go_loopw [6, 7, 21] (fun t q i wi => ∃ j : Nat, j ≤ it.names.length ∧ i = .int .i64 j ∧ t = .int .i64 ((tk + cnt s (it.names.take j) : Nat) : Int) ∧ q = .int .i64 ((ck + (if 1 < it.names.length then cnt s (it.names.take j) else 0) : Nat) : Int) ∧ Box wi wo.heap.size 64 #[.slice A1 it.names.length c1, .slice A2 it.marks.length c2, .bool it.late] ∧ Kept wo wi) (fun _ _ i _ => it.names.length - (intOf i).toNat)
      case atStart => exact ⟨0, Nat.zero_le _, rfl, by simp [cnt], by simp [cnt], Box.new wo _ _ _ rfl, (Kept.refl _).alloc _⟩
      case round =>
        obtain ⟨j, hj, rfl, rfl, rfl, hbox, hki⟩ := hrel
        by_cases hltj : j < it.names.length
        · obtain ⟨b1, o1, z, rfl, hb1, hz, hc⟩ := strs_at (HS.out.1.addr.kept hki) hltj
          have HZ := Lib.hid (cnt_snoc (s := s) hz)
          have hcl := cnt_le s (it.names.take j)
          have hct : (it.names.take j).length ≤ it.names.length := by rw [List.length_take]; omega
          have HI : Hid (ItemAt wr (.agg #[.slice (some ⟨b1, o1, none⟩) it.names.length c1, .slice A2 it.marks.length c2, .bool it.late]) it) := Lib.hid ⟨_, _, rfl, HS.out.kept hki, HM.out.kept hki⟩
          obtain ⟨x0, y0⟩ := hbox.three
          clear hz y0
          generalize cnt s (it.names.take j) = cj at *
          by_cases hzs : z = s
          · have hne : (!z.toList == s.toList) = false := by simp [hzs]
            have heq : (z.toList == s.toList) = true := by simp [hzs]
            have HE := Lib.hid hzs
            clear hzs
            by_cases hcm2 : 1 < it.names.length
            · have hd : decide (1 < it.names.length) = true := by simp [hcm2]
              rw [if_pos hcm2]
              go_wp2_with fail
              go_roundw
              case rel =>
                refine ⟨j + 1, by omega, by go_num, by rw [HZ.out, if_pos HE.out]; go_num, by rw [HZ.out, if_pos HE.out, if_pos hcm2]; go_num, hbox, hki⟩
              case measure => simp [intOf]; omega
            · have hd : decide (1 < it.names.length) = false := by simp; omega
              rw [if_neg hcm2]
              go_wp2_with fail
              go_roundw
              case rel =>
                refine ⟨j + 1, by omega, by go_num, by rw [HZ.out, if_pos HE.out]; go_num, by rw [if_neg hcm2] <;> simp, hbox, hki⟩
              case measure => simp [intOf]; omega
          · have hnl : ¬ z.toList = s.toList := fun e => hzs (str_ext e)
            have hne : (!z.toList == s.toList) = true := by simp [hnl]
            have heq : (z.toList == s.toList) = false := by simp [hnl]
            have HE := Lib.hid hzs
            clear hzs hnl
            go_wp2_with fail
            go_roundw
            case rel => exact ⟨j + 1, by omega, by go_num, by rw [HZ.out, if_neg HE.out]; rfl, by rw [HZ.out, if_neg HE.out]; rfl, hbox, hki⟩
            case measure => simp [intOf]; omega
        · obtain rfl : j = it.names.length := by omega
          go_wp2_with fail
          go_roundw
          case rel =>
            refine ⟨k + 1, by omega, by go_num, ?_, ?_, hkept.trans hki⟩
            · rw [T1.out, List.take_length]
            · rw [T2.out, List.take_length]; rfl
          case measure => simp [intOf]; omega
    · obtain rfl : k = its.length := by omega
      go_wp2_with fail
      go_ret2
      refine ⟨?_, hkept⟩
      simp [times, timesC]
def tmV (its : List ItemD) (s : ByteArray) : Int := if itemsB its && nameB s then (times its s : Int) else 0
def tmC (its : List ItemD) (s : ByteArray) : Int := if itemsB its && nameB s then (timesC its s : Int) else 0
end Go.Proofs.Ytmbgcmeiigmbaaa
