/- Parts of the proof: MarkText. -/
import Derived.Test.YtppfgepoegicgaaDoorZMarkT
import Derived.Test.YtppfgepoegicgaaDoorGa
import Derived.Laws.IdiomStrings
namespace Go.Proofs.YtppfgepoegicgaaDoor
open Go Go.RowKit

/-- string([]byte(b)), the one byte lying in a block that was just made. -/
theorem Tryd.byte_text (w : World) (n : Nat) (h : n < 256) : (convert 73 9 (.slice (some ⟨w.heap.size, 0, none⟩) 1 1)).run Tryd.prog (w.alloc (.cells #[.int .u8 (n : Int)] 5)) = .ok (.string ⟨#[UInt8.ofNat n]⟩) (w.alloc (.cells #[.int .u8 (n : Int)] 5)) := by
  have hc := run_convert_bytes_back (P := Tryd.prog) (w.alloc (.cells #[.int .u8 (n : Int)] 5)) 73 9 5 ⟨w.heap.size, 0, none⟩ 1 [UInt8.ofNat n] Tryd.underlying73 Tryd.underlying5 Tryd.underlying9 (fun j hj => by
    have : j = 0 := by simpa using hj
    subst this
    have := cell_one_new w (.int .u8 (n : Int)) 5 0 _ rfl
    simpa [Nat.mod_eq_of_lt h] using this)
  exact hc

set_option maxRecDepth 100000 in
set_option maxHeartbeats 2000000 in
theorem markText_calls (k : Int) (w : World) (hk : k ≤ 4611686018427387904) :
    Calls Tryd.prog 37 #[.int .i64 k] w fun e w' => e = .returned (.string (markT k)) ∧ Below w.heap.size w w' := by
  by_cases h0 : k ≤ 0
  · have HM := Lib.hid (show markT k = ⟨#[109, 48]⟩ by unfold markT; rw [if_pos h0])
    go_enter Tryd.func37, Tryd.ntmps37
    go_wp2
    go_ret
    exact ⟨by rw [HM.out]; rfl, Below.refl _ _⟩
  have h1 : 0 < k := by omega
  have H0 : decide (k ≤ 0) = false := by simpa using h0
  go_enter Tryd.func37, Tryd.ntmps37
  go_wp2
  go_loopw [0, 3] (fun i o w' => ∃ (n : Nat) (acc : ByteArray), i = .int .i64 n ∧ o = .string acc ∧ Hid (digs n ++ acc.data.toList = digs k.toNat) ∧ (n : Int) + acc.size ≤ k ∧ Below w.heap.size w w') (fun i _ _ => (intOf i).toNat)
  case atStart => exact ⟨k.toNat, ⟨#[]⟩, by go_num, rfl, (by simp : digs k.toNat ++ ([] : List UInt8) = digs k.toNat), (by show ((k.toNat : Nat) : Int) + ((0 : Nat) : Int) ≤ k; omega), Below.refl _ _⟩
  case round =>
    obtain ⟨n, acc, rfl, rfl, HD, hle, hb⟩ := hrel
    by_cases hlt : 0 < n
    · have hcv := Tryd.byte_text wr (48 + n % 10) (by omega)
      have e48 : (((48 + n % 10 : Nat)) : Int) = 48 + (n : Int) % 10 := by omega
      rw [e48, show UInt8.ofNat (48 + n % 10) = 48 + UInt8.ofNat (n % 10) by simp] at hcv
      have hdig := digs_pos hlt
      have HS := Lib.hid (show digs (n / 10) ++ ((⟨#[48 + UInt8.ofNat (n % 10)]⟩ : ByteArray) ++ acc).data.toList = digs k.toNat by
        rw [← HD.out, hdig]
        simp)
      have HL := Lib.hid (show (((⟨#[48 + UInt8.ofNat (n % 10)]⟩ : ByteArray) ++ acc).size : Int) = acc.size + 1 by
        simp [ByteArray.size_append]
        show (((1 : Nat)) : Int) + _ = _
        omega)
      clear e48 hdig
      go_wp2
      go_roundw
      case rel => exact ⟨n / 10, _, by go_num, rfl, HS, by rw [HL.out]; omega, hb.alloc hb.size _⟩
      case measure => simp [intOf]; omega
    · obtain rfl : n = 0 := by omega
      have HM := Lib.hid (show (⟨#[109]⟩ : ByteArray) ++ acc = markT k by
        have h := HD.out
        rw [digs_zero, List.nil_append] at h
        unfold markT
        rw [if_neg (by omega), ← h]
        apply str_inj
        simp [ByteArray.toList_eq])
      clear HD
      go_wp2
      go_ret
      exact ⟨by rw [← HM.out]; rfl, hb⟩
end Go.Proofs.YtppfgepoegicgaaDoor
