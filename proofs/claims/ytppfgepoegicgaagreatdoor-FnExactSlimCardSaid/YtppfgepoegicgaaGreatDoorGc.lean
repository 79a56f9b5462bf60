/- Parts of the proof: OkText, OkKeys, OkForm, OkForm2, OkForm3, OkMany. -/
import Derived.Test.YtppfgepoegicgaaGreatDoorGa
import Derived.Test.YtppfgepoegicgaaGreatDoorProg
import Derived.KernelRfl
import Derived.Outline
import Derived.Lib.Hide
import Derived.Deep.QuietTactic
import Derived.BigQuiet
import Derived.WalkLawsBesides
import Derived.StillTailTactics
import Derived.IntWalk
namespace Go.Proofs.YtppfgepoegicgaaGreatDoor
open Go Go.RowKit

/-! ### texts in the order of their bytes -/
theorem bl_irrefl : ∀ a : List UInt8, Op.bytesLess a a = false
  | [] => rfl
  | x :: a => by simp [Op.bytesLess, bl_irrefl a]
theorem bl_tri : ∀ a b : List UInt8, Op.bytesLess a b = true ∨ a = b ∨ Op.bytesLess b a = true
  | [], [] => .inr (.inl rfl)
  | [], _ :: _ => .inl rfl
  | _ :: _, [] => .inr (.inr rfl)
  | x :: a, y :: b => by
    simp only [Op.bytesLess, Bool.or_eq_true, Bool.and_eq_true, decide_eq_true_eq, beq_iff_eq, List.cons.injEq]
    rcases Nat.lt_trichotomy x.toNat y.toNat with h | h | h
    · exact .inl (.inl (UInt8.lt_iff_toNat_lt.2 h))
    · have e : x = y := UInt8.toNat_inj.1 h
      subst e
      rcases bl_tri a b with h1 | h1 | h1
      · exact .inl (.inr ⟨rfl, h1⟩)
      · exact .inr (.inl ⟨rfl, h1⟩)
      · exact .inr (.inr (.inr ⟨rfl, h1⟩))
    · exact .inr (.inr (.inl (UInt8.lt_iff_toNat_lt.2 h)))
theorem bl_trans : ∀ a b c : List UInt8, Op.bytesLess a b = true → Op.bytesLess b c = true → Op.bytesLess a c = true
  | [], _, _ :: _, _, _ => rfl
  | [], [], [], h, _ => h
  | [], _ :: _, [], _, h => by simp [Op.bytesLess] at h
  | _ :: _, [], _, h, _ => by simp [Op.bytesLess] at h
  | _ :: _, _ :: _, [], _, h => by simp [Op.bytesLess] at h
  | x :: a, y :: b, z :: c, h1, h2 => by
    simp only [Op.bytesLess, Bool.or_eq_true, Bool.and_eq_true, decide_eq_true_eq, beq_iff_eq] at h1 h2 ⊢
    rcases h1 with h1 | ⟨rfl, h1⟩
    · rcases h2 with h2 | ⟨rfl, h2⟩
      · exact .inl (UInt8.lt_iff_toNat_lt.2 (Nat.lt_trans (UInt8.lt_iff_toNat_lt.1 h1) (UInt8.lt_iff_toNat_lt.1 h2)))
      · exact .inl h1
    · rcases h2 with h2 | ⟨rfl, h2⟩
      · exact .inl h2
      · exact .inr ⟨rfl, bl_trans a b c h1 h2⟩
theorem bl_asymm {a b : List UInt8} (h : Op.bytesLess a b = true) : Op.bytesLess b a = false := by
  rcases Bool.eq_false_or_eq_true (Op.bytesLess b a) with h2 | h2
  · have := bl_trans a b a h h2
    rw [bl_irrefl] at this
    cases this
  · exact h2

def TextOk (s : ByteArray) : Prop := (∀ i (h : i < s.size), 97 ≤ s[i].toNat ∧ s[i].toNat ≤ 122) ∧ s.size ≤ 12

set_option maxHeartbeats 1000000 in
theorem iTextOk_calls (s : ByteArray) (w : World) (hs : s.size ≤ 9223372036854775807) : Calls Tryz.prog 62 #[.string s] w (PSame (TextOk s) w) := by
  go_enter Tryz.func62, Tryz.ntmps62
  go_wp2
  go_loopw [6] (fun i w' => ∃ k : Nat, k ≤ s.size ∧ i = .int .i64 k ∧ Hid (∀ i (h : i < s.size), i < k → 97 ≤ s[i].toNat ∧ s[i].toNat ≤ 122) ∧ w' = w) (fun i _ => s.size - (intOf i).toNat)
  case atStart => exact ⟨0, by omega, rfl, fun _ _ h => by omega, rfl⟩
  case round =>
    obtain ⟨k, hk, rfl, HI, rfl⟩ := hrel
    by_cases hlt : k < s.size
    · by_cases t1 : s[k].toNat < 97
      · have t1' : ((s[k].toNat : Int) < 97) := by omega
        have HN := Lib.hid (show ¬ TextOk s from fun h => by have := (h.1 k hlt).1; omega)
        go_wp2
        go_ret
        exact PSame.no HN.out
      · have t1' : ¬ ((s[k].toNat : Int) < 97) := by omega
        by_cases t2 : 122 < s[k].toNat
        · have t2' : ((122 : Int) < (s[k].toNat : Int)) := by omega
          have HN := Lib.hid (show ¬ TextOk s from fun h => by have := (h.1 k hlt).2; omega)
          go_wp2
          go_ret
          exact PSame.no HN.out
        · have t2' : ¬ ((122 : Int) < (s[k].toNat : Int)) := by omega
          have HN := Lib.hid (show ∀ i (h : i < s.size), i < k + 1 → 97 ≤ s[i].toNat ∧ s[i].toNat ≤ 122 from fun i h h2 => by
            by_cases e : i = k
            · subst e
              omega
            · exact HI.out i h (by omega))
          go_wp2
          go_roundw
          case rel => exact ⟨k + 1, by omega, by go_num, HN, trivial⟩
          case measure => simp [intOf]; omega
    · by_cases t : s.size ≤ 12
      · have HN := Lib.hid (show TextOk s from ⟨fun i h => HI.out i h (by omega), t⟩)
        go_wp2
        go_ret
        exact ⟨_, rfl, by simp [HN.out]; omega, rfl⟩
      · have HN := Lib.hid (show ¬ TextOk s from fun h => t h.2)
        go_wp2
        go_ret
        exact ⟨_, rfl, by simp [HN.out]; omega, rfl⟩
set_option maxHeartbeats 1000000 in
theorem sTextOk_calls (s : ByteArray) (w : World) (hs : s.size ≤ 9223372036854775807) : Calls Tryz.prog 56 #[.string s] w (PSame (TextOk s) w) := by
  go_enter Tryz.func56, Tryz.ntmps56
  go_wp2
  go_loopw [3] (fun i w' => ∃ k : Nat, k ≤ s.size ∧ i = .int .i64 k ∧ Hid (∀ i (h : i < s.size), i < k → 97 ≤ s[i].toNat ∧ s[i].toNat ≤ 122) ∧ w' = w) (fun i _ => s.size - (intOf i).toNat)
  case atStart => exact ⟨0, by omega, rfl, fun _ _ h => by omega, rfl⟩
  case round =>
    obtain ⟨k, hk, rfl, HI, rfl⟩ := hrel
    by_cases hlt : k < s.size
    · by_cases t1 : s[k].toNat < 97
      · have t1' : ((s[k].toNat : Int) < 97) := by omega
        have HN := Lib.hid (show ¬ TextOk s from fun h => by have := (h.1 k hlt).1; omega)
        go_wp2
        go_ret
        exact PSame.no HN.out
      · have t1' : ¬ ((s[k].toNat : Int) < 97) := by omega
        by_cases t2 : 122 < s[k].toNat
        · have t2' : ((122 : Int) < (s[k].toNat : Int)) := by omega
          have HN := Lib.hid (show ¬ TextOk s from fun h => by have := (h.1 k hlt).2; omega)
          go_wp2
          go_ret
          exact PSame.no HN.out
        · have t2' : ¬ ((122 : Int) < (s[k].toNat : Int)) := by omega
          have HN := Lib.hid (show ∀ i (h : i < s.size), i < k + 1 → 97 ≤ s[i].toNat ∧ s[i].toNat ≤ 122 from fun i h h2 => by
            by_cases e : i = k
            · subst e
              omega
            · exact HI.out i h (by omega))
          go_wp2
          go_roundw
          case rel => exact ⟨k + 1, by omega, by go_num, HN, trivial⟩
          case measure => simp [intOf]; omega
    · by_cases t : s.size ≤ 12
      · have HN := Lib.hid (show TextOk s from ⟨fun i h => HI.out i h (by omega), t⟩)
        go_wp2
        go_ret
        exact ⟨_, rfl, by simp [HN.out]; omega, rfl⟩
      · have HN := Lib.hid (show ¬ TextOk s from fun h => t h.2)
        go_wp2
        go_ret
        exact ⟨_, rfl, by simp [HN.out]; omega, rfl⟩

theorem within_calls (n lo hi : Int) (w : World) : Calls Tryz.prog 60 #[.int .i64 n, .int .i64 lo, .int .i64 hi] w (PSame (lo ≤ n ∧ n ≤ hi) w) := by
  by_cases t1 : lo ≤ n
  · by_cases t2 : n ≤ hi
    all_goals
      go_enter Tryz.func60, Tryz.ntmps60
      go_wp2
      go_ret
      exact ⟨_, rfl, by simp [t1, t2], rfl⟩
  · go_enter Tryz.func60, Tryz.ntmps60
    go_wp2
    go_ret
    exact ⟨_, rfl, by simp; omega, rfl⟩

/-- Each is a text of a tree, and each is behind the one ahead of it. -/
def KeysOk (ks : List ByteArray) : Prop := (∀ k ∈ ks, TextOk k) ∧ ∀ i, i + 1 < ks.length → Op.bytesLess (ks.getD i ByteArray.empty).toList (ks.getD (i + 1) ByteArray.empty).toList = true
/-- So far. -/
def KeysTo (ks : List ByteArray) (k : Nat) : Prop := (∀ i, i < k → TextOk (ks.getD i ByteArray.empty)) ∧ ∀ i, i + 1 < k → Op.bytesLess (ks.getD i ByteArray.empty).toList (ks.getD (i + 1) ByteArray.empty).toList = true
theorem KeysTo.zero (ks : List ByteArray) : KeysTo ks 0 := ⟨fun _ h => by omega, fun _ h => by omega⟩
theorem KeysTo.all {ks : List ByteArray} (h : KeysTo ks ks.length) : KeysOk ks := ⟨fun k hk => by
  obtain ⟨i, hi, rfl⟩ := List.getElem_of_mem hk
  have := h.1 i hi
  simpa [List.getD_eq_getElem?_getD, hi] using this, h.2⟩
theorem KeysOk.text {ks : List ByteArray} (h : KeysOk ks) (i : Nat) (hi : i < ks.length) : TextOk (ks.getD i ByteArray.empty) := by
  have := h.1 ks[i] (List.getElem_mem hi)
  simpa [List.getD_eq_getElem?_getD, hi] using this
theorem KeysTo.step {ks : List ByteArray} {k : Nat} (h : KeysTo ks k) (h1 : TextOk (ks.getD k ByteArray.empty)) (h2 : ∀ j, j + 1 = k → Op.bytesLess (ks.getD j ByteArray.empty).toList (ks.getD k ByteArray.empty).toList = true) : KeysTo ks (k + 1) :=
  ⟨fun i hi => by
    by_cases e : i = k
    · subst e; exact h1
    · exact h.1 i (by omega), fun i hi => by
    by_cases e : i + 1 = k
    · subst e; exact h2 i rfl
    · exact h.2 i (by omega)⟩
theorem getD_of_drop {ks : List ByteArray} {k : Nat} {s : ByteArray} {r : List ByteArray} (h : ks.drop k = s :: r) : ks.getD k ByteArray.empty = s := by
  have := congrArg (fun l => l[0]?) h
  simp only [List.getElem?_drop, Nat.add_zero, List.getElem?_cons_zero] at this
  simp [List.getD_eq_getElem?_getD, this]
end Go.Proofs.YtppfgepoegicgaaGreatDoor
namespace Go.Proofs.YtppfgepoegicgaaGreatDoor
open Go Go.RowKit

theorem bl_of_not {a b : ByteArray} (h : Op.bytesLess a.toList b.toList = true) : (Op.bytesLess b.toList a.toList || b.toList == a.toList) = false := by
  rw [bl_asymm h, Bool.false_or, beq_eq_false_iff_ne]
  intro e
  rw [e, bl_irrefl] at h
  cases h
theorem bl_not {a b : ByteArray} (h : ¬ Op.bytesLess a.toList b.toList = true) : (Op.bytesLess b.toList a.toList || b.toList == a.toList) = true := by
  rcases bl_tri a.toList b.toList with h1 | h1 | h1
  · exact absurd h1 h
  · rw [h1]; simp
  · rw [h1]; rfl

/-- The old world, some orders having been drawn. -/
structure Drawn (w w' : World) : Prop where
  out : ∃ n, w' = w.drewN n
theorem Drawn.refl (w : World) : Drawn w w := ⟨0, rfl⟩
theorem Drawn.step {w w' : World} (h : Drawn w w') (n : Nat) : Drawn w (w'.drewN n) := by
  obtain ⟨m, rfl⟩ := h.out
  exact ⟨m + n, World.drewN_drewN ..⟩
theorem Drawn.below {w w' : World} (h : Drawn w w') : Below w.heap.size w w' := by
  obtain ⟨n, rfl⟩ := h.out
  exact below_drewN (Below.refl _ _) n
def PDrawn (p : Prop) (w : World) (e : Ending) (w' : World) : Prop := ∃ r, e = .returned (.bool r) ∧ (r = true ↔ p) ∧ Drawn w w'
theorem PDrawn.yes {p : Prop} {w w' : World} (h : p) (hd : Drawn w w') : PDrawn p w (.returned (.bool true)) w' := ⟨true, rfl, ⟨fun _ => h, fun _ => rfl⟩, hd⟩
theorem PDrawn.no {p : Prop} {w w' : World} (h : ¬ p) (hd : Drawn w w') : PDrawn p w (.returned (.bool false)) w' := ⟨false, rfl, ⟨(fun e => by cases e), fun e => absurd e h⟩, hd⟩

set_option maxRecDepth 100000 in
set_option maxHeartbeats 2000000 in
theorem sKeys_calls (ks : List ByteArray) (A : Option Addr) (c : Nat) (w : World) (B : Nat) (h : RD w B (.row 1 ks.length (strDs ks)) (.slice A ks.length c)) :
    Calls Tryz.prog 90 #[.slice A ks.length c] w (PDrawn (KeysOk ks) w) := by
  have hn := h.len
  have H := Lib.hid h
  clear h
  go_enter Tryz.func90, Tryz.ntmps90
  go_wp2
  go_loopw [3] (fun i w' => ∃ k : Nat, k ≤ ks.length ∧ i = .int .i64 k ∧ Hid (KeysTo ks k) ∧ Drawn w w') (fun i _ => ks.length - (intOf i).toNat)
  case atStart => exact ⟨0, by omega, rfl, KeysTo.zero ks, Drawn.refl _⟩
  case round =>
    obtain ⟨k, hk, rfl, HI, HD⟩ := hrel
    by_cases hlt : k < ks.length
    · have H1 := Lib.hid (RD.keep (Nat.le_refl B) (fun p _ => by obtain ⟨n, rfl⟩ := HD.out; rfl) _ _ H.out : RD wr B _ _)
      obtain ⟨ad, s1, rfl, hbl, hc1, hs1, hd1⟩ := row1_at H1.out rfl hlt
      have E1 := Lib.hid (getD_of_drop hd1.out)
      have j0 : (0 : Int) ≤ (k : Int) := by omega
      have j1 : (k : Int) < (ks.length : Int) := by omega
      have hz0 : k = 0 → wr.cell? ad = some (.string s1) := fun e => by subst e; simpa [Addr.add] using hc1
      by_cases t : TextOk s1
      · by_cases k0 : k = 0
        · subst k0
          have hz := hz0 rfl
          have HN := Lib.hid (HI.out.step (by rw [E1.out]; exact t) (fun j h => by omega))
          clear hz0 hc1
          go_wp2_with fail
          go_quiet ((go_at_call 56; exact Calls.quiet_of_same ((sTextOk_calls s1 _ hs1).mono fun _ _ h => h.true_ t)))
          go_wp2
          go_roundw
          case rel => exact ⟨1, by omega, rfl, HN, HD.step _⟩
          case measure => simp [intOf]; omega
        · obtain ⟨ad', s0, ea, hbl0, hc0, hs0, hd0⟩ := row1_at H1.out rfl (show k - 1 < ks.length by omega)
          injection ea with ea
          subst ea
          have E0 := Lib.hid (getD_of_drop hd0.out)
          have j2 : (0 : Int) ≤ (k : Int) - 1 := by omega
          have j3 : (k : Int) - 1 < (ks.length : Int) := by omega
          have j4 : 0 < k := by omega
          have j5 : ((k : Int) - 1).toNat = k - 1 := by omega
          have j6 : IntKind.i64.wrap ((k : Int) - 1) = (k : Int) - 1 := IntWalk.i64_in _ (by omega)
          clear hz0
          by_cases t2 : Op.bytesLess s0.toList s1.toList = true
          · have d2 := bl_of_not t2
            have HN := Lib.hid (HI.out.step (by rw [E1.out]; exact t) (fun j h => by
              obtain rfl : j = k - 1 := by omega
              rw [E0.out, E1.out]
              exact t2))
            clear t2
            go_wp2_with fail
            go_quiet ((go_at_call 56; exact Calls.quiet_of_same ((sTextOk_calls s1 _ hs1).mono fun _ _ h => h.true_ t)))
            clear j5 j6
            go_wp2
            go_roundw
            case rel => exact ⟨k + 1, by omega, by go_num, HN, HD.step _⟩
            case measure => simp [intOf]; omega
          · have d2 := bl_not t2
            have HN := Lib.hid (show ¬ KeysOk ks from fun h => t2 (by
              have := h.2 (k - 1) (by omega)
              rw [show k - 1 + 1 = k by omega, E0.out, E1.out] at this
              exact this))
            clear t2
            go_wp2_with fail
            go_quiet ((go_at_call 56; exact Calls.quiet_of_same ((sTextOk_calls s1 _ hs1).mono fun _ _ h => h.true_ t)))
            clear j5 j6
            go_wp2
            go_ret
            exact PDrawn.no HN.out (HD.step _)
      · have HN := Lib.hid (show ¬ KeysOk ks from fun h => t (by have := h.text k hlt; rwa [E1.out] at this))
        by_cases k0 : k = 0
        · subst k0
          have hz := hz0 rfl
          clear hz0 hc1
          go_wp2_with fail
          go_quiet ((go_at_call 56; exact Calls.quiet_of_same ((sTextOk_calls s1 _ hs1).mono fun _ _ h => h.false_ t)))
          go_wp2
          go_ret
          exact PDrawn.no HN.out (HD.step _)
        · clear hz0
          go_wp2_with fail
          go_quiet ((go_at_call 56; exact Calls.quiet_of_same ((sTextOk_calls s1 _ hs1).mono fun _ _ h => h.false_ t)))
          go_wp2
          go_ret
          exact PDrawn.no HN.out (HD.step _)
    · have HN := Lib.hid (show KeysOk ks from KeysTo.all (by have := HI.out; rwa [show k = ks.length by omega] at this))
      go_wp2
      go_ret
      exact PDrawn.yes HN.out HD
end Go.Proofs.YtppfgepoegicgaaGreatDoor
namespace Go.Proofs.YtppfgepoegicgaaGreatDoor
open Go Go.RowKit

/-- A tree has nothing that its kind has not. -/
def Clean (kind n : Int) (s : ByteArray) (keys : List ByteArray) (list : List Val) : Prop :=
  (kind ≠ 3 → n = 0) ∧ (kind ≠ 4 → s = ⟨#[]⟩) ∧ (kind ≠ 6 → keys = []) ∧ (kind < 5 → list = [])
def Head (kind n : Int) (s : ByteArray) (keys : List ByteArray) (list : List Val) : Prop :=
  Clean kind n s keys list ∧ (0 ≤ kind ∧ kind ≤ 6) ∧ (-1000000 ≤ n ∧ n ≤ 1000000) ∧ TextOk s ∧ (kind = 6 → keys.length = list.length ∧ KeysOk keys)
def Form : Nat → Val → Prop
  | 0, _ => False
  | d + 1, .mk kind n s keys list => Head kind n s keys list ∧ ∀ v ∈ list, Form d v

theorem textOk_nil : TextOk ⟨#[]⟩ := ⟨fun i h => by exact absurd h (Nat.not_lt_zero i), by decide⟩

def SForm (v : Val) : Prop := ∀ (us : List Value) (w : World) (B d : Nat) (di : Int), di = d → d ≤ 6 → B ≤ w.heap.size → RDv w B (valDs v) us →
  Calls Tryz.prog 70 #[.agg us.toArray, .int .i64 di] w (PBool (Form d v) w)

theorem empty_ne {s : ByteArray} (h : s ≠ ⟨#[]⟩) : s.toList.isEmpty = false := by
  rw [ByteArray.toList_eq]
  obtain ⟨⟨l⟩⟩ := s
  cases l with
  | nil => exact absurd rfl h
  | cons a l => rfl

set_option maxHeartbeats 2000000 in
theorem sForm_bad (kind n : Int) (s : ByteArray) (keys : List ByteArray) (list : List Val) (A1 A2 : Option Addr) (c1 c2 d : Nat) (w : World) (hd : d ≤ 6) (hk : keys.length ≤ 9223372036854775807) (hl : list.length ≤ 9223372036854775807) (h : d = 0 ∨ ¬ Clean kind n s keys list) :
    Calls Tryz.prog 70 #[.agg #[.int .i64 kind, .int .i64 n, .string s, .slice A1 keys.length c1, .slice A2 list.length c2], .int .i64 d] w fun e w' => e = .returned (.bool false) ∧ Below w.heap.size w w' := by
  have hbx := fun o1 => below_box w o1
  by_cases t0 : d = 0
  · subst t0
    clear h
    go_enter Tryz.func70, Tryz.ntmps70
    go_wp2
    go_ret
    exact ⟨rfl, hbx _⟩
  have h' : ¬ Clean kind n s keys list := by
    rcases h with h | h
    · exact absurd h t0
    · exact h
  clear h
  have t0' : ¬ ((d : Int) < 1) := by omega
  by_cases k3 : kind = 3
  · subst k3
    by_cases e2 : s = ⟨#[]⟩
    · subst e2
      by_cases e3 : keys = []
      · subst e3
        by_cases e4 : list = []
        · subst e4
          exact absurd ⟨fun h => absurd rfl h, fun _ => rfl, fun _ => rfl, fun _ => rfl⟩ h'
        · have l4 : (0 : Int) < (list.length : Int) := by have := List.length_pos_iff.2 e4; omega
          have l4' : 0 < list.length := by omega
          clear h' e4
          go_enter Tryz.func70, Tryz.ntmps70
          go_wp2
          go_ret
          exact ⟨rfl, hbx _⟩
      · have l3 : (0 : Int) < (keys.length : Int) := by have := List.length_pos_iff.2 e3; omega
        have l3' : 0 < keys.length := by omega
        clear h' e3
        go_enter Tryz.func70, Tryz.ntmps70
        go_wp2
        go_ret
        exact ⟨rfl, hbx _⟩
    · have l2 := empty_ne e2
      have l2' := str_ne e2
      clear h' e2
      go_enter Tryz.func70, Tryz.ntmps70
      go_wp2
      go_ret
      exact ⟨rfl, hbx _⟩
  have b3 : (kind != 3) = true := by simp [k3]
  by_cases e1 : n = 0
  case neg =>
    have b1 : (n != 0) = true := by simp [e1]
    clear h' e1
    go_enter Tryz.func70, Tryz.ntmps70
    go_wp2
    go_ret
    exact ⟨rfl, hbx _⟩
  subst e1
  by_cases k4 : kind = 4
  · subst k4
    by_cases e3 : keys = []
    · subst e3
      by_cases e4 : list = []
      · subst e4
        exact absurd ⟨fun _ => rfl, fun h => absurd rfl h, fun _ => rfl, fun _ => rfl⟩ h'
      · have l4 : (0 : Int) < (list.length : Int) := by have := List.length_pos_iff.2 e4; omega
        have l4' : 0 < list.length := by omega
        clear h' e4
        go_enter Tryz.func70, Tryz.ntmps70
        go_wp2
        go_ret
        exact ⟨rfl, hbx _⟩
    · have l3 : (0 : Int) < (keys.length : Int) := by have := List.length_pos_iff.2 e3; omega
      have l3' : 0 < keys.length := by omega
      clear h' e3
      go_enter Tryz.func70, Tryz.ntmps70
      go_wp2
      go_ret
      exact ⟨rfl, hbx _⟩
  have b4 : (kind != 4) = true := by simp [k4]
  by_cases e2 : s = ⟨#[]⟩
  case neg =>
    have l2 := empty_ne e2
    have l2' := str_ne e2
    clear h' e2
    go_enter Tryz.func70, Tryz.ntmps70
    go_wp2
    go_ret
    exact ⟨rfl, hbx _⟩
  subst e2
  by_cases k6 : kind = 6
  · subst k6
    exact absurd ⟨fun _ => rfl, fun _ => rfl, fun h => absurd rfl h, fun h => by omega⟩ h'
  have b6 : (kind != 6) = true := by simp [k6]
  by_cases e3 : keys = []
  case neg =>
    have l3 : (0 : Int) < (keys.length : Int) := by have := List.length_pos_iff.2 e3; omega
    have l3' : 0 < keys.length := by omega
    clear h' e3
    go_enter Tryz.func70, Tryz.ntmps70
    go_wp2
    go_ret
    exact ⟨rfl, hbx _⟩
  subst e3
  by_cases k5 : kind < 5
  · by_cases e4 : list = []
    · subst e4
      exact absurd ⟨fun _ => rfl, fun _ => rfl, fun _ => rfl, fun _ => rfl⟩ h'
    · have l4 : (0 : Int) < (list.length : Int) := by have := List.length_pos_iff.2 e4; omega
      have l4' : 0 < list.length := by omega
      clear h' e4
      go_enter Tryz.func70, Tryz.ntmps70
      go_wp2
      go_ret
      exact ⟨rfl, hbx _⟩
  · exact absurd ⟨fun _ => rfl, fun _ => rfl, fun _ => rfl, fun h => absurd h k5⟩ h'

theorem form_bad {d : Nat} {kind n : Int} {s : ByteArray} {keys : List ByteArray} {list : List Val} (h : d = 0 ∨ ¬ Clean kind n s keys list) : ¬ Form d (.mk kind n s keys list) := by
  cases d with
  | zero => exact fun h => h
  | succ d =>
    rcases h with h | h
    · omega
    · exact fun hf => h hf.1.1
theorem form_iff {d : Nat} (hd : d ≠ 0) {kind n : Int} {s : ByteArray} {keys : List ByteArray} {list : List Val} : Form d (.mk kind n s keys list) ↔ Head kind n s keys list ∧ ∀ v ∈ list, Form (d - 1) v := by
  obtain ⟨m, rfl⟩ : ∃ m, d = m + 1 := ⟨d - 1, by omega⟩
  exact Iff.rfl
theorem take_all_succ {α : Type} {P : α → Prop} {l : List α} {k : Nat} {x : α} (hd : l.drop k = x :: l.drop (k + 1)) : (∀ y ∈ l.take (k + 1), P y) ↔ (∀ y ∈ l.take k, P y) ∧ P x := by
  have e : l.take (k + 1) = l.take k ++ [x] := by rw [List.take_add, hd]; rfl
  rw [e]
  constructor
  · intro h
    exact ⟨fun y hy => h y (List.mem_append_left _ hy), h x (by simp)⟩
  · rintro ⟨h1, h2⟩ y hy
    rcases List.mem_append.1 hy with hy | hy
    · exact h1 y hy
    · rw [List.mem_singleton.1 hy]; exact h2

end Go.Proofs.YtppfgepoegicgaaGreatDoor
namespace Go.Proofs.YtppfgepoegicgaaGreatDoor
open Go Go.RowKit

set_option maxRecDepth 100000 in
set_option maxHeartbeats 4000000 in
theorem sForm_most (v : Val) (h56 : ∀ kind n s keys list, v = .mk kind n s keys list → kind ≠ 5 ∧ kind ≠ 6) : SForm v := by
  intro us w B d di hdi hd hB h
  subst hdi
  obtain ⟨kind, n, s, keys, list, A1, c1, A2, c2, rfl, rfl, hs, hk, hl⟩ := valDs_open h
  have hn1 := hk.len
  have hn2 := hl.len
  by_cases hbad : d = 0 ∨ ¬ Clean kind n s keys list
  · exact (sForm_bad kind n s keys list A1 A2 c1 c2 d w hd hn1 hn2 hbad).mono fun e w' ⟨he, hb⟩ => by rw [he]; exact PBool.no (form_bad hbad) hb
  have hd0 : d ≠ 0 := fun e => hbad (.inl e)
  have hC : Clean kind n s keys list := Classical.byContradiction fun e => hbad (.inr e)
  have hFI := form_iff hd0 (kind := kind) (n := n) (s := s) (keys := keys) (list := list)
  have HF := Lib.hid hFI
  have HC := Lib.hid hC
  obtain ⟨k5', k6'⟩ := h56 _ _ _ _ _ rfl
  have HL := Lib.hid hl
  have HK := Lib.hid hk
  have hbx := fun o1 => below_box w o1
  have t0' : ¬ ((d : Int) < 1) := by omega
  clear hbad hFI h56 h hk hl hC hd0
  by_cases k012 : kind = 0 ∨ kind = 1 ∨ kind = 2
  · obtain rfl : n = 0 := HC.out.1 (by omega)
    obtain rfl : s = ⟨#[]⟩ := HC.out.2.1 (by omega)
    obtain rfl : keys = [] := HC.out.2.2.1 (by omega)
    obtain rfl : list = [] := HC.out.2.2.2 (by omega)
    have HP := Lib.hid (HF.out.2 ⟨⟨HC.out, by omega, by omega, textOk_nil, fun h => by omega⟩, fun v hv => by cases hv⟩)
    rcases k012 with rfl | rfl | rfl
    all_goals
      go_enter Tryz.func70, Tryz.ntmps70
      go_wp2
      go_ret
      exact PBool.yes HP.out (hbx _)
  by_cases k3 : kind = 3
  · subst k3
    obtain rfl : s = ⟨#[]⟩ := HC.out.2.1 (by omega)
    obtain rfl : keys = [] := HC.out.2.2.1 (by omega)
    obtain rfl : list = [] := HC.out.2.2.2 (by omega)
    by_cases t1 : -1000000 ≤ n
    · by_cases t2 : n ≤ 1000000
      · have HP := Lib.hid (HF.out.2 ⟨⟨HC.out, by omega, by omega, textOk_nil, fun h => by omega⟩, fun v hv => by cases hv⟩)
        go_enter Tryz.func70, Tryz.ntmps70
        go_wp2
        go_ret
        exact PBool.yes HP.out (hbx _)
      · have HP := Lib.hid (fun h => t2 (HF.out.1 h).1.2.2.1.2)
        go_enter Tryz.func70, Tryz.ntmps70
        go_wp2
        go_ret
        exact PBool.no HP.out (hbx _)
    · have HP := Lib.hid (fun h => t1 (HF.out.1 h).1.2.2.1.1)
      go_enter Tryz.func70, Tryz.ntmps70
      go_wp2
      go_ret
      exact PBool.no HP.out (hbx _)
  obtain rfl : n = 0 := HC.out.1 k3
  by_cases k4 : kind = 4
  · subst k4
    obtain rfl : keys = [] := HC.out.2.2.1 (by omega)
    obtain rfl : list = [] := HC.out.2.2.2 (by omega)
    by_cases t1 : TextOk s
    · have HP := Lib.hid (HF.out.2 ⟨⟨HC.out, by omega, by omega, t1, fun h => by omega⟩, fun v hv => by cases hv⟩)
      go_enter Tryz.func70, Tryz.ntmps70
      go_wp2_with fail
      refine ((sTextOk_calls s _ hs).mono fun e w' h => h.true_ t1).mono ?_
      rintro e w1 ⟨rfl, rfl⟩
      go_wp2
      go_ret
      exact PBool.yes HP.out (hbx _)
    · have HP := Lib.hid (fun h => t1 (HF.out.1 h).1.2.2.2.1)
      go_enter Tryz.func70, Tryz.ntmps70
      go_wp2_with fail
      refine ((sTextOk_calls s _ hs).mono fun e w' h => h.false_ t1).mono ?_
      rintro e w1 ⟨rfl, rfl⟩
      go_wp2
      go_ret
      exact PBool.no HP.out (hbx _)
  obtain rfl : s = ⟨#[]⟩ := HC.out.2.1 k4
  by_cases kx : kind < 0 ∨ 6 < kind
  · have HP := Lib.hid (show ¬ Form d _ from fun h => by have := (HF.out.1 h).1.2.1; omega)
    obtain rfl : keys = [] := HC.out.2.2.1 (by omega)
    have b0 : (kind == 0) = false := by simp; omega
    have b1 : (kind == 1) = false := by simp; omega
    have b2 : (kind == 2) = false := by simp; omega
    have b3 : (kind == 3) = false := by simp; omega
    have b4 : (kind == 4) = false := by simp; omega
    have b5 : (kind == 5) = false := by simp; omega
    have b6 : (kind == 6) = false := by simp; omega
    have c3 : (kind != 3) = true := by simp; omega
    have c4 : (kind != 4) = true := by simp; omega
    have c6 : (kind != 6) = true := by simp; omega
    by_cases k5 : kind < 5
    · obtain rfl : list = [] := HC.out.2.2.2 k5
      go_enter Tryz.func70, Tryz.ntmps70
      go_wp2
      go_ret
      exact PBool.no HP.out (hbx _)
    · go_enter Tryz.func70, Tryz.ntmps70
      go_wp2
      go_ret
      exact PBool.no HP.out (hbx _)
  omega
end Go.Proofs.YtppfgepoegicgaaGreatDoor
namespace Go.Proofs.YtppfgepoegicgaaGreatDoor
open Go Go.RowKit

theorem drawn_box {w w1 : World} {o : Obj} (h : Drawn (w.alloc o) w1) : Below (w.heap.size + 1) (w.alloc o) w1 := by
  have := h.below
  exact boxes1_of this

set_option maxRecDepth 100000 in
set_option maxHeartbeats 4000000 in
theorem sForm_loop (kind n : Int) (s : ByteArray) (keys : List ByteArray) (list : List Val) (k56 : kind = 5 ∨ kind = 6) (ih : ∀ x ∈ list, SForm x) : SForm (.mk kind n s keys list) := by
  intro us w B d di hdi hd hB h
  subst hdi
  obtain ⟨_, _, _, _, _, A1, c1, A2, c2, e, rfl, hs, hk, hl⟩ := valDs_open h
  injection e with e1 e2 e3 e4 e5
  subst e1 e2 e3 e4 e5
  have hn1 := hk.len
  have hn2 := hl.len
  by_cases hbad : d = 0 ∨ ¬ Clean kind n s keys list
  · exact (sForm_bad kind n s keys list A1 A2 c1 c2 d w hd hn1 hn2 hbad).mono fun e w' ⟨he, hb⟩ => by rw [he]; exact PBool.no (form_bad hbad) hb
  have hd0 : d ≠ 0 := fun e => hbad (.inl e)
  have hC : Clean kind n s keys list := Classical.byContradiction fun e => hbad (.inr e)
  have HF := Lib.hid (form_iff hd0 (kind := kind) (n := n) (s := s) (keys := keys) (list := list))
  have HC := Lib.hid hC
  have IH := Lib.hid ih
  have HL := Lib.hid hl
  have HK := Lib.hid hk
  have hbx := fun o1 => below_box w o1
  have t0' : ¬ ((d : Int) < 1) := by omega
  clear hbad ih h hk hl hC
  obtain rfl : n = 0 := HC.out.1 (by omega)
  obtain rfl : s = ⟨#[]⟩ := HC.out.2.1 (by omega)
  rcases k56 with rfl | rfl
  · obtain rfl : keys = [] := HC.out.2.2.1 (by omega)
    have HI := Lib.hid (show Form d (.mk 5 0 ⟨#[]⟩ [] list) ↔ ∀ v ∈ list, Form (d - 1) v from HF.out.trans ⟨fun h => h.2, fun h => ⟨⟨HC.out, by omega, by omega, textOk_nil, fun h => by omega⟩, h⟩⟩)
    clear HF HC
    go_enter Tryz.func70, Tryz.ntmps70
    go_wp2
    go_loopw [5] (fun i w' => ∃ k : Nat, k ≤ list.length ∧ i = .int .i64 k ∧ Hid (∀ y ∈ list.take k, Form (d - 1) y) ∧ Below (w.heap.size + 1) (w.alloc (.cells #[.int .i64 5, .int .i64 0, .string ⟨#[]⟩, .slice A1 0 c1, .slice A2 list.length c2] 32)) w') (fun i _ => list.length - (intOf i).toNat)
    case atStart => exact ⟨0, by omega, rfl, (fun y hy => by simp at hy), Below.refl _ _⟩
    case round =>
      obtain ⟨k, hk, rfl, HT, hb0⟩ := hrel
      obtain ⟨hb, hz, bP⟩ := boxes1 (P := [_, _, _, _, _]) hb0
      obtain ⟨cP, fP⟩ := blk_rules bP
      by_cases hlt : k < list.length
      · obtain ⟨ad, v, x0, x1, x2, x3, x4, rfl, hbl, hv, hm, hd1, y0, y1, y2, y3, y4⟩ := row5_at (HL.out.upto (hb.mono hB) (Nat.le_refl _)) rfl hlt
        go_wp2_with fail
        refine (IH.out v hm _ wr B (d - 1) _ (by omega) (by omega) (by omega) hv).mono ?_
        rintro e w1 ⟨r, rfl, hr, hb1⟩
        have HR := Lib.hid hr
        have hb2 := hb0.trans (hb1.mono hz)
        clear hr cP fP bP
        obtain ⟨hbb, hzz, bP2⟩ := boxes1 (P := [_, _, _, _, _]) hb2
        cases r with
        | true =>
          have HT3 := Lib.hid ((take_all_succ hd1.out).2 ⟨HT.out, HR.out.1 rfl⟩)
          go_wp2
          go_roundw
          case rel => exact ⟨k + 1, by omega, by go_num, HT3, hb2⟩
          case measure => simp [intOf]; omega
        | false =>
          have HN := Lib.hid (show ¬ Form d _ from fun h => absurd (HR.out.2 (HI.out.1 h v hm)) (by simp))
          go_wp2
          go_ret
          exact PBool.no HN.out hbb
      · have HN := Lib.hid (HI.out.2 (by have := HT.out; rwa [show k = list.length by omega, List.take_length] at this))
        go_wp2
        go_ret
        exact PBool.yes HN.out hb
  · by_cases tl : keys.length = list.length
    case neg =>
      have HN := Lib.hid (show ¬ Form d _ from fun h => tl ((HF.out.1 h).1.2.2.2.2 rfl).1)
      have d5 : ((keys.length : Int) != (list.length : Int)) = true := by simp; omega
      go_enter Tryz.func70, Tryz.ntmps70
      go_wp2
      go_ret
      exact PBool.no HN.out (hbx _)
    have d5 : ((keys.length : Int) != (list.length : Int)) = false := by simp; omega
    have TL := Lib.hid tl
    clear tl
    go_enter Tryz.func70, Tryz.ntmps70
    go_wp2_with fail
    refine (sKeys_calls keys A1 c1 _ B (HK.out.below ((hbx _).mono hB))).mono ?_
    rintro e w0 ⟨r0, rfl, hr0, hD0⟩
    have HR0 := Lib.hid hr0
    have hb00 := drawn_box hD0
    obtain ⟨hb, hz, bP⟩ := boxes1 (P := [_, _, _, _, _]) hb00
    obtain ⟨cP, fP⟩ := blk_rules bP
    clear hr0 hD0
    cases r0 with
    | false =>
      have HN := Lib.hid (show ¬ Form d _ from fun h => absurd (HR0.out.2 ((HF.out.1 h).1.2.2.2.2 rfl).2) (by simp))
      go_wp2
      go_ret
      exact PBool.no HN.out hb
    | true =>
      have HI := Lib.hid (show Form d (.mk 6 0 ⟨#[]⟩ keys list) ↔ ∀ v ∈ list, Form (d - 1) v from HF.out.trans ⟨fun h => h.2, fun h => ⟨⟨HC.out, by omega, by omega, textOk_nil, fun _ => ⟨TL.out, HR0.out.1 rfl⟩⟩, h⟩⟩)
      go_wp2
      clear HF HC bP cP fP d5
      go_loopw [5] (fun i w' => ∃ k : Nat, k ≤ list.length ∧ i = .int .i64 k ∧ Hid (∀ y ∈ list.take k, Form (d - 1) y) ∧ Below (w.heap.size + 1) (w.alloc (.cells #[.int .i64 6, .int .i64 0, .string ⟨#[]⟩, .slice A1 keys.length c1, .slice A2 list.length c2] 32)) w') (fun i _ => list.length - (intOf i).toNat)
      case atStart => exact ⟨0, by omega, rfl, (fun y hy => by simp at hy), hb00⟩
      case round =>
        clear hb hz hb00
        obtain ⟨k, hk, rfl, HT, hb0⟩ := hrel
        obtain ⟨hb, hz, bP⟩ := boxes1 (P := [_, _, _, _, _]) hb0
        obtain ⟨cP, fP⟩ := blk_rules bP
        by_cases hlt : k < list.length
        · obtain ⟨ad, v, x0, x1, x2, x3, x4, rfl, hbl, hv, hm, hd1, y0, y1, y2, y3, y4⟩ := row5_at (HL.out.upto (hb.mono hB) (Nat.le_refl _)) rfl hlt
          go_wp2_with fail
          refine (IH.out v hm _ wr B (d - 1) _ (by omega) (by omega) (by omega) hv).mono ?_
          rintro e w1 ⟨r, rfl, hr, hb1⟩
          have HR := Lib.hid hr
          have hb2 := hb0.trans (hb1.mono hz)
          clear hr cP fP bP
          obtain ⟨hbb, hzz, bP2⟩ := boxes1 (P := [_, _, _, _, _]) hb2
          cases r with
          | true =>
            have HT3 := Lib.hid ((take_all_succ hd1.out).2 ⟨HT.out, HR.out.1 rfl⟩)
            go_wp2
            go_roundw
            case rel => exact ⟨k + 1, by omega, by go_num, HT3, hb2⟩
            case measure => simp [intOf]; omega
          | false =>
            have HN := Lib.hid (show ¬ Form d _ from fun h => absurd (HR.out.2 (HI.out.1 h v hm)) (by simp))
            go_wp2
            go_ret
            exact PBool.no HN.out hbb
        · have HN := Lib.hid (HI.out.2 (by have := HT.out; rwa [show k = list.length by omega, List.take_length] at this))
          go_wp2
          go_ret
          exact PBool.yes HN.out hb

theorem sForm_calls : ∀ v, SForm v := Val.ind fun kind n s keys list ih => by
  by_cases h : kind = 5 ∨ kind = 6
  · exact sForm_loop kind n s keys list h ih
  · exact sForm_most _ fun _ _ _ _ _ e => by
      injection e with e1
      subst e1
      omega
end Go.Proofs.YtppfgepoegicgaaGreatDoor
namespace Go.Proofs.YtppfgepoegicgaaGreatDoor
open Go Go.RowKit

mutual
def valCnt : Val → Nat
  | .mk _ _ _ _ list => 1 + valsCnt list
def valsCnt : List Val → Nat
  | [] => 0
  | v :: r => valCnt v + valsCnt r
end
theorem valsCnt_mem : ∀ {vs : List Val} {v : Val}, v ∈ vs → valCnt v ≤ valsCnt vs
  | [], _, h => by cases h
  | x :: vs, v, h => by
    simp only [valsCnt]
    rcases List.mem_cons.1 h with rfl | h
    · omega
    · have := valsCnt_mem h
      omega
theorem form_pos {d : Nat} {v : Val} (h : Form d v) : d ≠ 0 := by
  rintro rfl
  exact h

def SMany (v : Val) : Prop := ∀ (us : List Value) (w : World) (B d : Nat) (di : Int), di = d → d ≤ 6 → B ≤ w.heap.size → RDv w B (valDs v) us → Form d v → valCnt v ≤ 1099511627776 →
  Calls Tryz.prog 71 #[.agg us.toArray, .int .i64 di] w fun e w' => e = .returned (.int .i64 (valCnt v)) ∧ Below w.heap.size w w'

set_option maxRecDepth 100000 in
set_option maxHeartbeats 4000000 in
theorem sMany_of (v : Val) (ih : ∀ kind n s keys list, v = .mk kind n s keys list → ∀ x ∈ list, SMany x) : SMany v := by
  intro us w B d di hdi hd hB h hF hC
  subst hdi
  obtain ⟨kind, n, s, keys, list, A1, c1, A2, c2, rfl, rfl, hs, hk, hl⟩ := valDs_open h
  have IH := Lib.hid (ih _ _ _ _ _ rfl)
  have HL := Lib.hid hl
  have hn2 := hl.len
  have hd0 := form_pos hF
  have HF := Lib.hid ((form_iff hd0).1 hF).2
  have t0 : (0 : Int) < (d : Int) := by omega
  have t0' : 0 < d := by omega
  have HC := Lib.hid (show 1 + valsCnt list ≤ 1099511627776 by simpa only [valCnt] using hC)
  clear h hk hl ih hF hC hd0
  go_enter Tryz.func71, Tryz.ntmps71
  go_wp2
  go_loopw [5, 6] (fun m i w' => ∃ (k j : Nat), k ≤ list.length ∧ i = .int .i64 k ∧ m = .int .i64 j ∧ j ≤ 1099511627776 ∧ Hid (j + valsCnt (list.drop k) = 1 + valsCnt list) ∧ Below (w.heap.size + 1) (w.alloc (.cells #[.int .i64 kind, .int .i64 n, .string s, .slice A1 keys.length c1, .slice A2 list.length c2] 32)) w') (fun _ i _ => list.length - (intOf i).toNat)
  case atStart => exact ⟨0, 1, by omega, rfl, rfl, by omega, rfl, Below.refl _ _⟩
  case round =>
    obtain ⟨k, j, hk, rfl, rfl, hj, HI, hb0⟩ := hrel
    obtain ⟨hb, hz, bP⟩ := boxes1 (P := [_, _, _, _, _]) hb0
    obtain ⟨cP, fP⟩ := blk_rules bP
    by_cases hlt : k < list.length
    · obtain ⟨ad, v, x0, x1, x2, x3, x4, rfl, hbl, hv, hm, hd1, y0, y1, y2, y3, y4⟩ := row5_at (HL.out.upto (hb.mono hB) (Nat.le_refl _)) rfl hlt
      have hj2 : j + valCnt v ≤ 1099511627776 := by
        have h1 := HI.out
        rw [hd1.out] at h1
        simp only [valsCnt] at h1
        have := HC.out
        omega
      have HI2 := Lib.hid (show j + valCnt v + valsCnt (list.drop (k + 1)) = 1 + valsCnt list by
        have h1 := HI.out
        rw [hd1.out] at h1
        simp only [valsCnt] at h1
        omega)
      go_wp2_with fail
      refine (IH.out v hm _ wr B (d - 1) _ (by omega) (by omega) (by omega) hv (HF.out v hm) (by omega)).mono ?_
      rintro e w1 ⟨rfl, hb1⟩
      have hb2 := hb0.trans (hb1.mono hz)
      clear cP fP bP
      obtain ⟨m, em⟩ : ∃ m, m = valCnt v := ⟨_, rfl⟩
      rw [← em] at hj2 HI2
      rw [← em]
      have EM := Lib.hid em
      clear em
      go_wp2
      go_roundw
      case rel => exact ⟨k + 1, j + m, by omega, by go_num, by go_num, by omega, HI2, hb2⟩
      case measure => simp [intOf]; omega
    · have HE := Lib.hid (show j = 1 + valsCnt list by
        have h1 := HI.out
        rw [show k = list.length by omega, List.drop_length] at h1
        simpa only [valsCnt, Nat.add_zero] using h1)
      go_wp2
      go_ret
      exact ⟨by rw [valCnt, ← HE.out]; rfl, hb⟩
theorem sMany_calls : ∀ v, SMany v := Val.ind fun kind n s keys list ih => sMany_of _ fun _ _ _ _ _ e => by
  injection e with e1 e2 e3 e4 e5
  subst e5
  exact ih

def ValOk (v : Val) : Prop := Form 6 v ∧ valCnt v ≤ 60

set_option maxHeartbeats 2000000 in
theorem sValOk_calls (v : Val) (us : List Value) (w : World) (B : Nat) (hB : B ≤ w.heap.size) (h : RDv w B (valDs v) us) (hC : valCnt v ≤ 1099511627776) :
    Calls Tryz.prog 57 #[.agg us.toArray] w (PBool (ValOk v) w) := by
  obtain ⟨a0, a1, a2, A3, n3, q3, A4, n4, q4, rfl⟩ := valDs_shape h
  have H := Lib.hid h
  clear h
  have hbx := fun o1 => below_box w o1
  go_enter Tryz.func57, Tryz.ntmps57
  go_wp2_with fail
  refine (sForm_calls v [_, _, _, _, _] _ B 6 6 (by omega) (by omega) (Nat.le_trans hB (hbx _).size) (H.out.below ((hbx _).mono hB))).mono ?_
  rintro e w1 ⟨r, rfl, hr, hb1⟩
  have HR := Lib.hid hr
  obtain ⟨hb, hz, bP⟩ := boxes1 (P := [_, _, _, _, _]) (boxes1_of hb1)
  obtain ⟨cP, fP⟩ := blk_rules bP
  clear hr hb1 bP
  cases r with
  | false =>
    have HN := Lib.hid (show ¬ ValOk v from fun h => absurd (HR.out.2 h.1) (by simp))
    go_wp2
    go_ret
    exact PBool.no HN.out hb
  | true =>
    have HT := Lib.hid (HR.out.1 rfl)
    go_wp2_with fail
    refine (sMany_calls v [_, _, _, _, _] _ B 6 6 (by omega) (by omega) (by omega) (H.out.below (hb.mono hB)) HT.out hC).mono ?_
    rintro e w2 ⟨rfl, hb2⟩
    obtain ⟨m, em⟩ : ∃ m, m = valCnt v := ⟨_, rfl⟩
    rw [← em] at hC ⊢
    have EM := Lib.hid em
    clear em
    go_wp2
    go_ret
    refine ⟨_, rfl, ⟨fun h => ⟨HT.out, ?_⟩, fun h => ?_⟩, hb.trans (hb2.mono (by omega))⟩
    · rw [← EM.out]; have : (m : Int) ≤ 60 := by simpa using h
      omega
    · have := h.2; rw [← EM.out] at this; simp; omega

end Go.Proofs.YtppfgepoegicgaaGreatDoor
