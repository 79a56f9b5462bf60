import Derived.Test.YtppfgepoegicgaaDoorOkKeys
import Derived.Test.YtppfgepoegicgaaDoorTo
namespace Go.Proofs.YtppfgepoegicgaaDoor
open Go Go.RowKit

/-- A tree has nothing that its kind has not. -/
def Clean (kind n : Int) (s : ByteArray) (keys : List ByteArray) (list : List Val) : Prop :=
  (kind ≠ 3 → n = 0) ∧ (kind ≠ 4 → s = ⟨#[]⟩) ∧ (kind ≠ 6 → keys = []) ∧ (kind < 5 → list = [])
def Head (kind n : Int) (s : ByteArray) (keys : List ByteArray) (list : List Val) : Prop :=
  Clean kind n s keys list ∧ (0 ≤ kind ∧ kind ≤ 6) ∧ (-1000000 ≤ n ∧ n ≤ 1000000) ∧ TextOk s ∧ (kind = 6 → keys.length = list.length ∧ KeysOk keys)
def Form : Nat → Val → Prop
  | 0, _ => False
  | d + 1, .mk kind n s keys list => Head kind n s keys list ∧ ∀ v ∈ list, Form d v

theorem textOk_nil : TextOk ⟨#[]⟩ := ⟨fun i h => by exact absurd h (Nat.not_lt_zero i), by decide⟩

def SForm (v : Val) : Prop := ∀ (us : List Value) (w : World) (B d : Nat) (di : Int), di = d → d ≤ 6 → B ≤ w.heap.size → RDv w B (valDs v) us →
  Calls Tryd.prog 75 #[.agg us.toArray, .int .i64 di] w (PBool (Form d v) w)

theorem empty_ne {s : ByteArray} (h : s ≠ ⟨#[]⟩) : s.toList.isEmpty = false := by
  rw [ByteArray.toList_eq]
  obtain ⟨⟨l⟩⟩ := s
  cases l with
  | nil => exact absurd rfl h
  | cons a l => rfl

set_option maxHeartbeats 2000000 in
theorem sForm_bad (kind n : Int) (s : ByteArray) (keys : List ByteArray) (list : List Val) (A1 A2 : Option Addr) (c1 c2 d : Nat) (w : World) (hd : d ≤ 6) (hk : keys.length ≤ 9223372036854775807) (hl : list.length ≤ 9223372036854775807) (h : d = 0 ∨ ¬ Clean kind n s keys list) :
    Calls Tryd.prog 75 #[.agg #[.int .i64 kind, .int .i64 n, .string s, .slice A1 keys.length c1, .slice A2 list.length c2], .int .i64 d] w fun e w' => e = .returned (.bool false) ∧ Below w.heap.size w w' := by
  have hbx := fun o1 => below_box w o1
  by_cases t0 : d = 0
  · subst t0
    clear h
    go_enter Tryd.func75, Tryd.ntmps75
    go_wp2
    go_ret
    exact ⟨rfl, hbx _⟩
  have h' : ¬ Clean kind n s keys list := by
    rcases h with h | h
    · exact absurd h t0
    · exact h
  clear h
  have t0' : ¬ ((d : Int) < 1) := by omega
  by_cases k3 : kind = 3
  · subst k3
    by_cases e2 : s = ⟨#[]⟩
    · subst e2
      by_cases e3 : keys = []
      · subst e3
        by_cases e4 : list = []
        · subst e4
          exact absurd ⟨fun h => absurd rfl h, fun _ => rfl, fun _ => rfl, fun _ => rfl⟩ h'
        · have l4 : (0 : Int) < (list.length : Int) := by have := List.length_pos_iff.2 e4; omega
          have l4' : 0 < list.length := by omega
          clear h' e4
          go_enter Tryd.func75, Tryd.ntmps75
          go_wp2
          go_ret
          exact ⟨rfl, hbx _⟩
      · have l3 : (0 : Int) < (keys.length : Int) := by have := List.length_pos_iff.2 e3; omega
        have l3' : 0 < keys.length := by omega
        clear h' e3
        go_enter Tryd.func75, Tryd.ntmps75
        go_wp2
        go_ret
        exact ⟨rfl, hbx _⟩
    · have l2 := empty_ne e2
      have l2' := str_ne e2
      clear h' e2
      go_enter Tryd.func75, Tryd.ntmps75
      go_wp2
      go_ret
      exact ⟨rfl, hbx _⟩
  have b3 : (kind != 3) = true := by simp [k3]
  by_cases e1 : n = 0
  case neg =>
    have b1 : (n != 0) = true := by simp [e1]
    clear h' e1
    go_enter Tryd.func75, Tryd.ntmps75
    go_wp2
    go_ret
    exact ⟨rfl, hbx _⟩
  subst e1
  by_cases k4 : kind = 4
  · subst k4
    by_cases e3 : keys = []
    · subst e3
      by_cases e4 : list = []
      · subst e4
        exact absurd ⟨fun _ => rfl, fun h => absurd rfl h, fun _ => rfl, fun _ => rfl⟩ h'
      · have l4 : (0 : Int) < (list.length : Int) := by have := List.length_pos_iff.2 e4; omega
        have l4' : 0 < list.length := by omega
        clear h' e4
        go_enter Tryd.func75, Tryd.ntmps75
        go_wp2
        go_ret
        exact ⟨rfl, hbx _⟩
    · have l3 : (0 : Int) < (keys.length : Int) := by have := List.length_pos_iff.2 e3; omega
      have l3' : 0 < keys.length := by omega
      clear h' e3
      go_enter Tryd.func75, Tryd.ntmps75
      go_wp2
      go_ret
      exact ⟨rfl, hbx _⟩
  have b4 : (kind != 4) = true := by simp [k4]
  by_cases e2 : s = ⟨#[]⟩
  case neg =>
    have l2 := empty_ne e2
    have l2' := str_ne e2
    clear h' e2
    go_enter Tryd.func75, Tryd.ntmps75
    go_wp2
    go_ret
    exact ⟨rfl, hbx _⟩
  subst e2
  by_cases k6 : kind = 6
  · subst k6
    exact absurd ⟨fun _ => rfl, fun _ => rfl, fun h => absurd rfl h, fun h => by omega⟩ h'
  have b6 : (kind != 6) = true := by simp [k6]
  by_cases e3 : keys = []
  case neg =>
    have l3 : (0 : Int) < (keys.length : Int) := by have := List.length_pos_iff.2 e3; omega
    have l3' : 0 < keys.length := by omega
    clear h' e3
    go_enter Tryd.func75, Tryd.ntmps75
    go_wp2
    go_ret
    exact ⟨rfl, hbx _⟩
  subst e3
  by_cases k5 : kind < 5
  · by_cases e4 : list = []
    · subst e4
      exact absurd ⟨fun _ => rfl, fun _ => rfl, fun _ => rfl, fun _ => rfl⟩ h'
    · have l4 : (0 : Int) < (list.length : Int) := by have := List.length_pos_iff.2 e4; omega
      have l4' : 0 < list.length := by omega
      clear h' e4
      go_enter Tryd.func75, Tryd.ntmps75
      go_wp2
      go_ret
      exact ⟨rfl, hbx _⟩
  · exact absurd ⟨fun _ => rfl, fun _ => rfl, fun _ => rfl, fun h => absurd h k5⟩ h'

theorem form_bad {d : Nat} {kind n : Int} {s : ByteArray} {keys : List ByteArray} {list : List Val} (h : d = 0 ∨ ¬ Clean kind n s keys list) : ¬ Form d (.mk kind n s keys list) := by
  cases d with
  | zero => exact fun h => h
  | succ d =>
    rcases h with h | h
    · omega
    · exact fun hf => h hf.1.1
theorem form_iff {d : Nat} (hd : d ≠ 0) {kind n : Int} {s : ByteArray} {keys : List ByteArray} {list : List Val} : Form d (.mk kind n s keys list) ↔ Head kind n s keys list ∧ ∀ v ∈ list, Form (d - 1) v := by
  obtain ⟨m, rfl⟩ : ∃ m, d = m + 1 := ⟨d - 1, by omega⟩
  exact Iff.rfl
theorem take_all_succ {α : Type} {P : α → Prop} {l : List α} {k : Nat} {x : α} (hd : l.drop k = x :: l.drop (k + 1)) : (∀ y ∈ l.take (k + 1), P y) ↔ (∀ y ∈ l.take k, P y) ∧ P x := by
  have e : l.take (k + 1) = l.take k ++ [x] := by rw [List.take_add, hd]; rfl
  rw [e]
  constructor
  · intro h
    exact ⟨fun y hy => h y (List.mem_append_left _ hy), h x (by simp)⟩
  · rintro ⟨h1, h2⟩ y hy
    rcases List.mem_append.1 hy with hy | hy
    · exact h1 y hy
    · rw [List.mem_singleton.1 hy]; exact h2

end Go.Proofs.YtppfgepoegicgaaDoor
