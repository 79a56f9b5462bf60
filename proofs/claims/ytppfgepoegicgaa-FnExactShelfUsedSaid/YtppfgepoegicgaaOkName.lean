import Derived.Test.YtppfgepoegicgaaOkIV
import Derived.Test.YtppfgepoegicgaaAskerRows
namespace Go.Proofs.Ytppfgepoegicgaa
open Go Go.RowKit

/-- r is the first place of s among the names, or -1. -/
def First (ns : List ByteArray) (s : ByteArray) (r : Int) : Prop := (r = -1 ∧ s ∉ ns) ∨ ∃ i : Nat, r = i ∧ ns[i]? = some s ∧ s ∉ ns.take i
def PFirst (ns : List ByteArray) (s : ByteArray) (w : World) (e : Ending) (w' : World) : Prop := ∃ r : Int, e = .returned (.int .i64 r) ∧ First ns s r ∧ Below w.heap.size w w'
theorem names_at {α : Type} {f : α → ByteArray} {vs : List α} {v : α} {k : Nat} (h : vs.drop k = v :: vs.drop (k + 1)) : (vs.map f)[k]? = some (f v) := by
  have : vs[k]? = some v := by
    have := congrArg (·[0]?) h
    simpa using this
  simp [this]
theorem First.hit {ns : List ByteArray} {s x : ByteArray} {k : Nat} (h : ns[k]? = some x) (e : x = s) (hn : s ∉ ns.take k) : First ns s (k : Int) := .inr ⟨k, rfl, by rw [h, e], hn⟩
theorem take_mem_succ {ns : List ByteArray} {s x : ByteArray} {k : Nat} (h : ns[k]? = some x) : s ∈ ns.take (k + 1) ↔ s ∈ ns.take k ∨ s = x := by
  rw [List.take_add_one, h]
  simp
theorem First.step {ns : List ByteArray} {s x : ByteArray} {k : Nat} (h : ns[k]? = some x) (e : x ≠ s) (hn : s ∉ ns.take k) : s ∉ ns.take (k + 1) := by
  rw [take_mem_succ h]
  rintro (h | h)
  · exact hn h
  · exact e h.symm
theorem First.none {ns : List ByteArray} {s : ByteArray} (h : s ∉ ns) : First ns s (-1) := .inl ⟨rfl, h⟩
theorem mem_of_take {ns : List ByteArray} {s : ByteArray} {i k : Nat} (h : ns[i]? = some s) (hik : i < k) : s ∈ ns.take k := by
  refine List.mem_of_getElem? (i := i) ?_
  rw [List.getElem?_take, if_pos hik, h]
/-- The first place of the k-th name is k, unless the name lies ahead of it. -/
theorem First.at {ns : List ByteArray} {s : ByteArray} {k : Nat} {r : Int} (h : First ns s r) (hk : ns[k]? = some s) : r = k ↔ s ∉ ns.take k := by
  rcases h with ⟨rfl, h⟩ | ⟨i, rfl, h1, h2⟩
  · exact absurd (List.mem_of_getElem? hk) h
  · constructor
    · intro e
      obtain rfl : i = k := by omega
      exact h2
    · intro e
      rcases Nat.lt_trichotomy i k with h | h | h
      · exact absurd (mem_of_take h1 h) e
      · rw [h]
      · exact absurd (mem_of_take hk h) h2
theorem First.nonneg {ns : List ByteArray} {s : ByteArray} {r : Int} (h : First ns s r) : r < 0 ↔ s ∉ ns := by
  rcases h with ⟨rfl, h⟩ | ⟨i, rfl, h1, h2⟩
  · simp [h]
  · exact ⟨fun h => by omega, fun h => absurd (List.mem_of_getElem? h1) h⟩
theorem First.det {ns : List ByteArray} {s : ByteArray} {r r' : Int} (h : First ns s r) (h' : First ns s r') : r = r' := by
  rcases h' with ⟨rfl, h'⟩ | ⟨i, rfl, h1, h2⟩
  · have := h.nonneg.2 h'
    rcases h with ⟨rfl, _⟩ | ⟨i, rfl, _⟩
    · rfl
    · omega
  · exact (h.at h1).2 h2

def NameOk (s : ByteArray) : Prop := TextOk s ∧ s.toList ≠ []
theorem iNameOk_calls (s : ByteArray) (w : World) (hs : s.size ≤ 9223372036854775807) : Calls Try.prog 41 #[.string s] w (PSame (NameOk s) w) := by
  by_cases t : TextOk s
  · by_cases t2 : s.toList = []
    all_goals
      go_enter Try.func41, Try.ntmps41
      go_wp2_with fail
      refine ((iTextOk_calls s _ hs).mono fun e w' h => h.true_ t).mono ?_
      rintro e w1 ⟨rfl, rfl⟩
      go_wp2
      go_ret
      exact ⟨_, rfl, by simp [NameOk, t, t2], rfl⟩
  · go_enter Try.func41, Try.ntmps41
    go_wp2_with fail
    refine ((iTextOk_calls s _ hs).mono fun e w' h => h.false_ t).mono ?_
    rintro e w1 ⟨rfl, rfl⟩
    go_wp2
    go_ret
    exact ⟨_, rfl, by simp [NameOk, t], rfl⟩
theorem sName_calls (s : ByteArray) (w : World) (hs : s.size ≤ 9223372036854775807) : Calls Try.prog 61 #[.string s] w (PSame (NameOk s) w) := by
  by_cases t : TextOk s
  · by_cases t2 : s.toList = []
    all_goals
      go_enter Try.func61, Try.ntmps61
      go_wp2_with fail
      refine ((sTextOk_calls s _ hs).mono fun e w' h => h.true_ t).mono ?_
      rintro e w1 ⟨rfl, rfl⟩
      go_wp2
      go_ret
      exact ⟨_, rfl, by simp [NameOk, t, t2], rfl⟩
  · go_enter Try.func61, Try.ntmps61
    go_wp2_with fail
    refine ((sTextOk_calls s _ hs).mono fun e w' h => h.false_ t).mono ?_
    rintro e w1 ⟨rfl, rfl⟩
    go_wp2
    go_ret
    exact ⟨_, rfl, by simp [NameOk, t], rfl⟩
theorem iBounds_calls (m f : Int) (w : World) : Calls Try.prog 43 #[.int .i64 m, .int .i64 f] w (PSame ((0 ≤ m ∧ m ≤ 150) ∧ (0 ≤ f ∧ f ≤ 5000)) w) := by
  by_cases t : 0 ≤ m ∧ m ≤ 150
  · go_enter Try.func43, Try.ntmps43
    go_wp2_with fail
    refine ((within_calls m 0 150 _).mono fun e w' h => h.true_ t).mono ?_
    rintro e w1 ⟨rfl, rfl⟩
    go_wp2_with fail
    refine (within_calls f 0 5000 _).mono ?_
    rintro e w1 ⟨r, rfl, hr, rfl⟩
    have HR := Lib.hid hr
    clear hr
    go_wp2
    go_ret
    exact ⟨r, rfl, by rw [HR.out]; simp [t], rfl⟩
  · go_enter Try.func43, Try.ntmps43
    go_wp2_with fail
    refine ((within_calls m 0 150 _).mono fun e w' h => h.false_ t).mono ?_
    rintro e w1 ⟨rfl, rfl⟩
    go_wp2
    go_ret
    exact ⟨_, rfl, by simp [t], rfl⟩
end Go.Proofs.Ytppfgepoegicgaa
