/- The texts that the laws write as marks. -/
import Derived.Test.YtpkmngkepmoikaaN
import Derived.Test.YtpkmngkepmoikaaO
import Derived.StillTailTactics
import Derived.Deep.RegionHeld3
import Derived.Deep.DeepCutAuto
namespace Go.Proofs.Ytpkmngkepmoikaa
set_option linter.unusedVariables false
set_option linter.unusedSimpArgs false
open Go.RowKit

def dgc (q : Nat) : UInt8 := UInt8.ofNat (48 + q % 10)
theorem dgc_toNat (q : Nat) : (dgc q).toNat = 48 + q % 10 := by
  unfold dgc
  rw [UInt8.toNat_ofNat']
  omega
def digF : Nat → Nat → List UInt8 → List UInt8
  | 0, _, out => out
  | f + 1, q, out => if q = 0 then out else digF f (q / 10) (dgc q :: out)
def mt (k : Int) : ByteArray := ⟨(109 :: digF 20 k.toNat []).toArray⟩
theorem digF_zero (f : Nat) (out : List UInt8) : digF f 0 out = out := by cases f <;> simp [digF]
theorem ba_cons (c : UInt8) (l : List UInt8) : (⟨#[c]⟩ : ByteArray) ++ ⟨l.toArray⟩ = ⟨(c :: l).toArray⟩ := by
  apply ByteArray.ext
  simp
theorem conv_one (w : World) (c : UInt8) (n : Int) (hn : n = c.toNat) :
    (convert 98 9 (.slice (some ⟨w.heap.size, 0, none⟩) 1 1)).run Try.prog (w.alloc (.cells #[.int .u8 n] 5)) = .ok (.string ⟨#[c]⟩) (w.alloc (.cells #[.int .u8 n] 5)) := by
  subst hn
  exact run_convert_bytes_back (P := Try.prog) (w.alloc (.cells #[.int .u8 (c.toNat : Int)] 5)) 98 9 5 ⟨w.heap.size, 0, none⟩ 1 [c] Try.underlying98 Try.underlying5 Try.underlying9 (fun j hj => by
    obtain rfl : j = 0 := by simpa using hj
    simp [Addr.add])
set_option maxHeartbeats 1000000 in
theorem markText_any (k : Int) (w : World) (h0 : 1 ≤ k) (h1 : k ≤ 1099511627776) :
    Calls Try.prog 76 #[.int .i64 k] w fun e w' => e = .returned (.string (mt k)) ∧ Kept w w' := by
  go_enter Try.func76, Try.ntmps76
  go_wp2_with fail
  go_loopw [0, 3] (fun q o wr => ∃ (f q' : Nat) (out : List UInt8), q = .int .i64 q' ∧ o = .string ⟨out.toArray⟩ ∧ q' < 10 ^ f ∧ q' ≤ 1099511627776 ∧ out.length + f ≤ 20 ∧ digF f q' out = digF 20 k.toNat [] ∧ Kept w wr) (fun q _ _ => (intOf q).toNat)
  case atStart => exact ⟨20, k.toNat, [], by congr 1; omega, rfl, by omega, by omega, by simp, rfl, Kept.refl _⟩
  case round =>
    obtain ⟨f, q', out, rfl, rfl, hq, hq2, hf, hd, hkept⟩ := hrel
    have HD := Lib.hid hd
    clear hd
    by_cases hpos : 0 < q'
    · have hcv := conv_one wr (dgc q') (48 + (q' : Int) % 10) (by rw [dgc_toNat]; omega)
      have HQ := Lib.hid hq
      clear hq
      go_wp2_with fail
      go_roundw
      case rel =>
        cases f with
        | zero =>
          have := HQ.out
          simp at this
          omega
        | succ f =>
          refine ⟨f, q' / 10, dgc q' :: out, by go_num, by rw [ba_cons], ?_, by omega, by simp; omega, ?_, hkept.alloc _⟩
          · have := HQ.out
            rw [Nat.pow_succ] at this
            omega
          · rw [← HD.out, digF, if_neg (by omega)]
      case measure => simp [intOf]; omega
    · obtain rfl : q' = 0 := by omega
      go_wp2_with fail
      go_ret
      refine ⟨?_, hkept⟩
      have := HD.out
      rw [digF_zero] at this
      unfold mt
      rw [← this, ← ba_cons]
      rfl
theorem digF_length (f q : Nat) (out : List UInt8) : (digF f q out).length ≤ out.length + f := by
  induction f generalizing q out with
  | zero => simp [digF]
  | succ f ih =>
    rw [digF]
    split
    · omega
    · have := ih (q / 10) (dgc q :: out)
      simp at this
      omega
theorem mt_size (k : Int) : (mt k).size ≤ maxLen := by
  have := digF_length 20 k.toNat []
  have h : (mt k).size = (digF 20 k.toNat []).length + 1 := by
    show (109 :: digF 20 k.toNat []).toArray.size = _
    simp
  rw [h]
  unfold maxLen
  simp at this
  omega
def marksS (k : Int) (n : Nat) : List ByteArray := (List.range n).map fun (i : Nat) => mt (k + (i : Int))
theorem marksS_length (k : Int) (n : Nat) : (marksS k n).length = n := by simp [marksS]
theorem marksS_get {k : Int} {n i : Nat} (h : i < n) : (marksS k n)[i]? = some (mt (k + i)) := by simp [marksS, h]
theorem marksS_size (k : Int) (n : Nat) : ∀ z ∈ marksS k n, z.size ≤ maxLen := by
  intro z hz
  unfold marksS at hz
  obtain ⟨i, _, rfl⟩ := List.mem_map.1 hz
  exact mt_size _
end Go.Proofs.Ytpkmngkepmoikaa
