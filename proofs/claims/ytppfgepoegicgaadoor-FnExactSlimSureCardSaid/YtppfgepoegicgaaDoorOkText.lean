import Derived.Test.YtppfgepoegicgaaDoorOwn
import Derived.Test.YtppfgepoegicgaaDoorProg
import Derived.KernelRfl
import Derived.Outline
import Derived.Lib.Hide
import Derived.Deep.QuietTactic
import Derived.BigQuiet
import Derived.WalkLawsBesides
namespace Go.Proofs.YtppfgepoegicgaaDoor
open Go Go.RowKit

/-! ### texts in the order of their bytes -/
theorem bl_irrefl : ∀ a : List UInt8, Op.bytesLess a a = false
  | [] => rfl
  | x :: a => by simp [Op.bytesLess, bl_irrefl a]
theorem bl_tri : ∀ a b : List UInt8, Op.bytesLess a b = true ∨ a = b ∨ Op.bytesLess b a = true
  | [], [] => .inr (.inl rfl)
  | [], _ :: _ => .inl rfl
  | _ :: _, [] => .inr (.inr rfl)
  | x :: a, y :: b => by
    simp only [Op.bytesLess, Bool.or_eq_true, Bool.and_eq_true, decide_eq_true_eq, beq_iff_eq, List.cons.injEq]
    rcases Nat.lt_trichotomy x.toNat y.toNat with h | h | h
    · exact .inl (.inl (UInt8.lt_iff_toNat_lt.2 h))
    · have e : x = y := UInt8.toNat_inj.1 h
      subst e
      rcases bl_tri a b with h1 | h1 | h1
      · exact .inl (.inr ⟨rfl, h1⟩)
      · exact .inr (.inl ⟨rfl, h1⟩)
      · exact .inr (.inr (.inr ⟨rfl, h1⟩))
    · exact .inr (.inr (.inl (UInt8.lt_iff_toNat_lt.2 h)))
theorem bl_trans : ∀ a b c : List UInt8, Op.bytesLess a b = true → Op.bytesLess b c = true → Op.bytesLess a c = true
  | [], _, _ :: _, _, _ => rfl
  | [], [], [], h, _ => h
  | [], _ :: _, [], _, h => by simp [Op.bytesLess] at h
  | _ :: _, [], _, h, _ => by simp [Op.bytesLess] at h
  | _ :: _, _ :: _, [], _, h => by simp [Op.bytesLess] at h
  | x :: a, y :: b, z :: c, h1, h2 => by
    simp only [Op.bytesLess, Bool.or_eq_true, Bool.and_eq_true, decide_eq_true_eq, beq_iff_eq] at h1 h2 ⊢
    rcases h1 with h1 | ⟨rfl, h1⟩
    · rcases h2 with h2 | ⟨rfl, h2⟩
      · exact .inl (UInt8.lt_iff_toNat_lt.2 (Nat.lt_trans (UInt8.lt_iff_toNat_lt.1 h1) (UInt8.lt_iff_toNat_lt.1 h2)))
      · exact .inl h1
    · rcases h2 with h2 | ⟨rfl, h2⟩
      · exact .inl h2
      · exact .inr ⟨rfl, bl_trans a b c h1 h2⟩
theorem bl_asymm {a b : List UInt8} (h : Op.bytesLess a b = true) : Op.bytesLess b a = false := by
  rcases Bool.eq_false_or_eq_true (Op.bytesLess b a) with h2 | h2
  · have := bl_trans a b a h h2
    rw [bl_irrefl] at this
    cases this
  · exact h2

def TextOk (s : ByteArray) : Prop := (∀ i (h : i < s.size), 97 ≤ s[i].toNat ∧ s[i].toNat ≤ 122) ∧ s.size ≤ 12

set_option maxHeartbeats 1000000 in
theorem iTextOk_calls (s : ByteArray) (w : World) (hs : s.size ≤ 9223372036854775807) : Calls Tryd.prog 59 #[.string s] w (PSame (TextOk s) w) := by
  go_enter Tryd.func59, Tryd.ntmps59
  go_wp2
  go_loopw [6] (fun i w' => ∃ k : Nat, k ≤ s.size ∧ i = .int .i64 k ∧ Hid (∀ i (h : i < s.size), i < k → 97 ≤ s[i].toNat ∧ s[i].toNat ≤ 122) ∧ w' = w) (fun i _ => s.size - (intOf i).toNat)
  case atStart => exact ⟨0, by omega, rfl, fun _ _ h => by omega, rfl⟩
  case round =>
    obtain ⟨k, hk, rfl, HI, rfl⟩ := hrel
    by_cases hlt : k < s.size
    · by_cases t1 : s[k].toNat < 97
      · have t1' : ((s[k].toNat : Int) < 97) := by omega
        have HN := Lib.hid (show ¬ TextOk s from fun h => by have := (h.1 k hlt).1; omega)
        go_wp2
        go_ret
        exact PSame.no HN.out
      · have t1' : ¬ ((s[k].toNat : Int) < 97) := by omega
        by_cases t2 : 122 < s[k].toNat
        · have t2' : ((122 : Int) < (s[k].toNat : Int)) := by omega
          have HN := Lib.hid (show ¬ TextOk s from fun h => by have := (h.1 k hlt).2; omega)
          go_wp2
          go_ret
          exact PSame.no HN.out
        · have t2' : ¬ ((122 : Int) < (s[k].toNat : Int)) := by omega
          have HN := Lib.hid (show ∀ i (h : i < s.size), i < k + 1 → 97 ≤ s[i].toNat ∧ s[i].toNat ≤ 122 from fun i h h2 => by
            by_cases e : i = k
            · subst e
              omega
            · exact HI.out i h (by omega))
          go_wp2
          go_roundw
          case rel => exact ⟨k + 1, by omega, by go_num, HN, trivial⟩
          case measure => simp [intOf]; omega
    · by_cases t : s.size ≤ 12
      · have HN := Lib.hid (show TextOk s from ⟨fun i h => HI.out i h (by omega), t⟩)
        go_wp2
        go_ret
        exact ⟨_, rfl, by simp [HN.out]; omega, rfl⟩
      · have HN := Lib.hid (show ¬ TextOk s from fun h => t h.2)
        go_wp2
        go_ret
        exact ⟨_, rfl, by simp [HN.out]; omega, rfl⟩
set_option maxHeartbeats 1000000 in
theorem sTextOk_calls (s : ByteArray) (w : World) (hs : s.size ≤ 9223372036854775807) : Calls Tryd.prog 54 #[.string s] w (PSame (TextOk s) w) := by
  go_enter Tryd.func54, Tryd.ntmps54
  go_wp2
  go_loopw [3] (fun i w' => ∃ k : Nat, k ≤ s.size ∧ i = .int .i64 k ∧ Hid (∀ i (h : i < s.size), i < k → 97 ≤ s[i].toNat ∧ s[i].toNat ≤ 122) ∧ w' = w) (fun i _ => s.size - (intOf i).toNat)
  case atStart => exact ⟨0, by omega, rfl, fun _ _ h => by omega, rfl⟩
  case round =>
    obtain ⟨k, hk, rfl, HI, rfl⟩ := hrel
    by_cases hlt : k < s.size
    · by_cases t1 : s[k].toNat < 97
      · have t1' : ((s[k].toNat : Int) < 97) := by omega
        have HN := Lib.hid (show ¬ TextOk s from fun h => by have := (h.1 k hlt).1; omega)
        go_wp2
        go_ret
        exact PSame.no HN.out
      · have t1' : ¬ ((s[k].toNat : Int) < 97) := by omega
        by_cases t2 : 122 < s[k].toNat
        · have t2' : ((122 : Int) < (s[k].toNat : Int)) := by omega
          have HN := Lib.hid (show ¬ TextOk s from fun h => by have := (h.1 k hlt).2; omega)
          go_wp2
          go_ret
          exact PSame.no HN.out
        · have t2' : ¬ ((122 : Int) < (s[k].toNat : Int)) := by omega
          have HN := Lib.hid (show ∀ i (h : i < s.size), i < k + 1 → 97 ≤ s[i].toNat ∧ s[i].toNat ≤ 122 from fun i h h2 => by
            by_cases e : i = k
            · subst e
              omega
            · exact HI.out i h (by omega))
          go_wp2
          go_roundw
          case rel => exact ⟨k + 1, by omega, by go_num, HN, trivial⟩
          case measure => simp [intOf]; omega
    · by_cases t : s.size ≤ 12
      · have HN := Lib.hid (show TextOk s from ⟨fun i h => HI.out i h (by omega), t⟩)
        go_wp2
        go_ret
        exact ⟨_, rfl, by simp [HN.out]; omega, rfl⟩
      · have HN := Lib.hid (show ¬ TextOk s from fun h => t h.2)
        go_wp2
        go_ret
        exact ⟨_, rfl, by simp [HN.out]; omega, rfl⟩

theorem within_calls (n lo hi : Int) (w : World) : Calls Tryd.prog 57 #[.int .i64 n, .int .i64 lo, .int .i64 hi] w (PSame (lo ≤ n ∧ n ≤ hi) w) := by
  by_cases t1 : lo ≤ n
  · by_cases t2 : n ≤ hi
    all_goals
      go_enter Tryd.func57, Tryd.ntmps57
      go_wp2
      go_ret
      exact ⟨_, rfl, by simp [t1, t2], rfl⟩
  · go_enter Tryd.func57, Tryd.ntmps57
    go_wp2
    go_ret
    exact ⟨_, rfl, by simp; omega, rfl⟩

/-- Each is a text of a tree, and each is behind the one ahead of it. -/
def KeysOk (ks : List ByteArray) : Prop := (∀ k ∈ ks, TextOk k) ∧ ∀ i, i + 1 < ks.length → Op.bytesLess (ks.getD i ByteArray.empty).toList (ks.getD (i + 1) ByteArray.empty).toList = true
/-- So far. -/
def KeysTo (ks : List ByteArray) (k : Nat) : Prop := (∀ i, i < k → TextOk (ks.getD i ByteArray.empty)) ∧ ∀ i, i + 1 < k → Op.bytesLess (ks.getD i ByteArray.empty).toList (ks.getD (i + 1) ByteArray.empty).toList = true
theorem KeysTo.zero (ks : List ByteArray) : KeysTo ks 0 := ⟨fun _ h => by omega, fun _ h => by omega⟩
theorem KeysTo.all {ks : List ByteArray} (h : KeysTo ks ks.length) : KeysOk ks := ⟨fun k hk => by
  obtain ⟨i, hi, rfl⟩ := List.getElem_of_mem hk
  have := h.1 i hi
  simpa [List.getD_eq_getElem?_getD, hi] using this, h.2⟩
theorem KeysOk.text {ks : List ByteArray} (h : KeysOk ks) (i : Nat) (hi : i < ks.length) : TextOk (ks.getD i ByteArray.empty) := by
  have := h.1 ks[i] (List.getElem_mem hi)
  simpa [List.getD_eq_getElem?_getD, hi] using this
theorem KeysTo.step {ks : List ByteArray} {k : Nat} (h : KeysTo ks k) (h1 : TextOk (ks.getD k ByteArray.empty)) (h2 : ∀ j, j + 1 = k → Op.bytesLess (ks.getD j ByteArray.empty).toList (ks.getD k ByteArray.empty).toList = true) : KeysTo ks (k + 1) :=
  ⟨fun i hi => by
    by_cases e : i = k
    · subst e; exact h1
    · exact h.1 i (by omega), fun i hi => by
    by_cases e : i + 1 = k
    · subst e; exact h2 i rfl
    · exact h.2 i (by omega)⟩
theorem getD_of_drop {ks : List ByteArray} {k : Nat} {s : ByteArray} {r : List ByteArray} (h : ks.drop k = s :: r) : ks.getD k ByteArray.empty = s := by
  have := congrArg (fun l => l[0]?) h
  simp only [List.getElem?_drop, Nat.add_zero, List.getElem?_cons_zero] at this
  simp [List.getD_eq_getElem?_getD, this]
end Go.Proofs.YtppfgepoegicgaaDoor
