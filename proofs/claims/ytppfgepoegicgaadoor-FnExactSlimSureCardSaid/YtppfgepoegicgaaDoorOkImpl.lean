import Derived.Test.YtppfgepoegicgaaDoorOkMany
namespace Go.Proofs.YtppfgepoegicgaaDoor
open Go Go.RowKit

theorem grown_box (w : World) (g : Nat) (o : Obj) (u : Value) : w.grownBy ((w.setCell ⟨g, 0, none⟩ u).alloc o) (some g) :=
  ⟨rfl, rfl, rfl, by simp [World.setCell], fun k hk hne => (Below.heap_alloc _ _ _ (by simpa [World.setCell] using hk)).trans (Below.heap_setCell _ _ _ _ (fun e => hne (by rw [e])))⟩
theorem grown_below {w w' : World} {g B : Nat} (h : w.grownBy w' (some g)) (hB : B ≤ g) (hg : g < w.heap.size) : Below B w w' :=
  ⟨h.os, h.tape, h.output, h.size, fun k hk => h.block k (by omega) (fun e => by injection e; omega)⟩
theorem blk_box {w : World} {g : Nat} {t : TypeId} {c : Value} (h : Blk w g t [c]) (o : Obj) (u : Value) : Blk ((w.setCell ⟨g, 0, none⟩ u).alloc o) g t [u] := (h.set_ 0 u).alloc o

/-- What a tree's ok does: it takes its parts off the number behind the pointer. -/
def POk (p : Prop) (c : Nat) (l : Int) (g : Nat) (w : World) (e : Ending) (w' : World) : Prop :=
  ∃ (r : Bool) (l' : Int), e = .returned (.bool r) ∧ (r = true ↔ p ∧ (c : Int) ≤ l) ∧ (r = true → l' = l - c) ∧ Blk w' g 3 [.int .i64 l'] ∧ w.grownBy w' (some g)
theorem POk.no {p : Prop} {c : Nat} {l l' : Int} {g : Nat} {w w' : World} (h : ¬ (p ∧ (c : Int) ≤ l)) (h1 : Blk w' g 3 [.int .i64 l']) (h2 : w.grownBy w' (some g)) : POk p c l g w (.returned (.bool false)) w' :=
  ⟨false, l', rfl, ⟨(fun e => by cases e), fun e => absurd e h⟩, (fun e => by cases e), h1, h2⟩

def IOk (v : Val) : Prop := ∀ (us : List Value) (w : World) (B g d : Nat) (l di : Int), di = 7 - (d : Int) → d ≤ 6 → B ≤ g → Blk w g 3 [.int .i64 l] → 0 ≤ l → l ≤ 60 → RDv w B (valDs v) us →
  Calls Tryd.prog 78 #[.agg us.toArray, .int .i64 di, .pointer (some ⟨g, 0, none⟩)] w (POk (Form d v) (valCnt v) l g w)
theorem cnt_pos (v : Val) : 1 ≤ valCnt v := by
  obtain ⟨_, _, _, _, _⟩ := v
  simp only [valCnt]
  omega

set_option maxRecDepth 100000 in
set_option maxHeartbeats 4000000 in
theorem iOk_bad (kind n : Int) (s : ByteArray) (keys : List ByteArray) (list : List Val) (A1 A2 : Option Addr) (c1 c2 g d : Nat) (l : Int) (w : World) (hd : d ≤ 6) (hg : Blk w g 3 [.int .i64 l]) (hl0 : 0 ≤ l) (hl1 : l ≤ 60) (hk : keys.length ≤ 9223372036854775807) (hl : list.length ≤ 9223372036854775807) (h : l = 0 ∨ d = 0 ∨ ¬ Clean kind n s keys list) :
    Calls Tryd.prog 78 #[.agg #[.int .i64 kind, .int .i64 n, .string s, .slice A1 keys.length c1, .slice A2 list.length c2], .int .i64 (7 - (d : Int)), .pointer (some ⟨g, 0, none⟩)] w (POk (Form d (.mk kind n s keys list)) (valCnt (.mk kind n s keys list)) l g w) := by
  have hgx := fun o u => grown_box w g o u
  have hbx := fun o u => blk_box hg o u
  have HN := Lib.hid (show ¬ (Form d (.mk kind n s keys list) ∧ ((valCnt (.mk kind n s keys list) : Nat) : Int) ≤ l) from fun hf => by
    have := cnt_pos (.mk kind n s keys list)
    rcases h with h | h
    · omega
    · exact form_bad h hf.1)
  have hlt := hg.lt
  have q0 : w.cell? ⟨g, 0, none⟩ = some (.int .i64 l) := hg.cell 0
  have f0 : w.frozen? ⟨g, 0, none⟩ = false := hg.frozen 0
  have hne : g ≠ w.heap.size := by omega
  clear hg
  by_cases tl : l = 0
  · subst tl
    clear h
    go_enter Tryd.func78, Tryd.ntmps78
    go_wp2
    go_ret
    exact POk.no HN.out (hbx _ _) (hgx _ _)
  have tl' : ¬ (l - 1 < 0) := by omega
  by_cases t0 : d = 0
  · subst t0
    clear h
    go_enter Tryd.func78, Tryd.ntmps78
    go_wp2
    go_ret
    exact POk.no HN.out (hbx _ _) (hgx _ _)
  have t0' : ¬ ((6 : Int) < 7 - (d : Int)) := by omega
  have h' : ¬ Clean kind n s keys list := by
    rcases h with h | h | h
    · exact absurd h tl
    · exact absurd h t0
    · exact h
  clear h
  by_cases k3 : kind = 3
  · have b3 : (kind != 3) = false := by simp [k3]
    have b4 : (kind != 4) = true := by simp; omega
    have b6 : (kind != 6) = true := by simp; omega
    have b5 : kind < 5 := by omega
    by_cases e2 : s = ⟨#[]⟩
    · subst e2
      by_cases e3 : keys = []
      · subst e3
        by_cases e4 : list = []
        · subst e4
          exact absurd ⟨fun h => absurd k3 h, fun _ => rfl, fun _ => rfl, fun _ => rfl⟩ h'
        · have l4 : 0 < list.length := List.length_pos_iff.2 e4
          clear h' e4 k3
          go_enter Tryd.func78, Tryd.ntmps78
          go_wp2
          go_ret
          exact POk.no HN.out (hbx _ _) (hgx _ _)
      · have l3 : 0 < keys.length := List.length_pos_iff.2 e3
        clear h' e3 k3
        go_enter Tryd.func78, Tryd.ntmps78
        go_wp2
        go_ret
        exact POk.no HN.out (hbx _ _) (hgx _ _)
    · have l2 := empty_ne e2
      have l2' := str_ne e2
      clear h' e2 k3
      go_enter Tryd.func78, Tryd.ntmps78
      go_wp2
      go_ret
      exact POk.no HN.out (hbx _ _) (hgx _ _)
  have b3 : (kind != 3) = true := by simp [k3]
  by_cases e1 : n = 0
  case neg =>
    have b1 : (n != 0) = true := by simp [e1]
    clear h' e1 k3
    go_enter Tryd.func78, Tryd.ntmps78
    go_wp2
    go_ret
    exact POk.no HN.out (hbx _ _) (hgx _ _)
  subst e1
  by_cases k4 : kind = 4
  · have b4 : (kind != 4) = false := by simp [k4]
    have b6 : (kind != 6) = true := by simp; omega
    have b5 : kind < 5 := by omega
    by_cases e3 : keys = []
    · subst e3
      by_cases e4 : list = []
      · subst e4
        exact absurd ⟨fun _ => rfl, fun h => absurd k4 h, fun _ => rfl, fun _ => rfl⟩ h'
      · have l4 : 0 < list.length := List.length_pos_iff.2 e4
        clear h' e4 k4 k3
        go_enter Tryd.func78, Tryd.ntmps78
        go_wp2
        go_ret
        exact POk.no HN.out (hbx _ _) (hgx _ _)
    · have l3 : 0 < keys.length := List.length_pos_iff.2 e3
      clear h' e3 k4 k3
      go_enter Tryd.func78, Tryd.ntmps78
      go_wp2
      go_ret
      exact POk.no HN.out (hbx _ _) (hgx _ _)
  have b4 : (kind != 4) = true := by simp [k4]
  by_cases e2 : s = ⟨#[]⟩
  case neg =>
    have l2 := empty_ne e2
    have l2' := str_ne e2
    clear h' e2 k4 k3
    go_enter Tryd.func78, Tryd.ntmps78
    go_wp2
    go_ret
    exact POk.no HN.out (hbx _ _) (hgx _ _)
  subst e2
  by_cases k6 : kind = 6
  · exact absurd ⟨fun _ => rfl, fun _ => rfl, fun h => absurd k6 h, fun h => by omega⟩ h'
  have b6 : (kind != 6) = true := by simp [k6]
  by_cases e3 : keys = []
  case neg =>
    have l3 : 0 < keys.length := List.length_pos_iff.2 e3
    clear h' e3 k3 k4 k6
    go_enter Tryd.func78, Tryd.ntmps78
    go_wp2
    go_ret
    exact POk.no HN.out (hbx _ _) (hgx _ _)
  subst e3
  by_cases k5 : kind < 5
  · by_cases e4 : list = []
    · subst e4
      exact absurd ⟨fun _ => rfl, fun _ => rfl, fun _ => rfl, fun _ => rfl⟩ h'
    · have l4 : 0 < list.length := List.length_pos_iff.2 e4
      clear h' e4 k3 k4 k6
      go_enter Tryd.func78, Tryd.ntmps78
      go_wp2
      go_ret
      exact POk.no HN.out (hbx _ _) (hgx _ _)
  · exact absurd ⟨fun _ => rfl, fun _ => rfl, fun _ => rfl, fun h => absurd h k5⟩ h'
end Go.Proofs.YtppfgepoegicgaaDoor
