import Derived.Test.YtppfgepoegicgaaDoorOkForm
namespace Go.Proofs.YtppfgepoegicgaaDoor
open Go Go.RowKit

set_option maxRecDepth 100000 in
set_option maxHeartbeats 4000000 in
theorem sForm_most (v : Val) (h56 : ∀ kind n s keys list, v = .mk kind n s keys list → kind ≠ 5 ∧ kind ≠ 6) : SForm v := by
  intro us w B d di hdi hd hB h
  subst hdi
  obtain ⟨kind, n, s, keys, list, A1, c1, A2, c2, rfl, rfl, hs, hk, hl⟩ := valDs_open h
  have hn1 := hk.len
  have hn2 := hl.len
  by_cases hbad : d = 0 ∨ ¬ Clean kind n s keys list
  · exact (sForm_bad kind n s keys list A1 A2 c1 c2 d w hd hn1 hn2 hbad).mono fun e w' ⟨he, hb⟩ => by rw [he]; exact PBool.no (form_bad hbad) hb
  have hd0 : d ≠ 0 := fun e => hbad (.inl e)
  have hC : Clean kind n s keys list := Classical.byContradiction fun e => hbad (.inr e)
  have hFI := form_iff hd0 (kind := kind) (n := n) (s := s) (keys := keys) (list := list)
  have HF := Lib.hid hFI
  have HC := Lib.hid hC
  obtain ⟨k5', k6'⟩ := h56 _ _ _ _ _ rfl
  have HL := Lib.hid hl
  have HK := Lib.hid hk
  have hbx := fun o1 => below_box w o1
  have t0' : ¬ ((d : Int) < 1) := by omega
  clear hbad hFI h56 h hk hl hC hd0
  by_cases k012 : kind = 0 ∨ kind = 1 ∨ kind = 2
  · obtain rfl : n = 0 := HC.out.1 (by omega)
    obtain rfl : s = ⟨#[]⟩ := HC.out.2.1 (by omega)
    obtain rfl : keys = [] := HC.out.2.2.1 (by omega)
    obtain rfl : list = [] := HC.out.2.2.2 (by omega)
    have HP := Lib.hid (HF.out.2 ⟨⟨HC.out, by omega, by omega, textOk_nil, fun h => by omega⟩, fun v hv => by cases hv⟩)
    rcases k012 with rfl | rfl | rfl
    all_goals
      go_enter Tryd.func75, Tryd.ntmps75
      go_wp2
      go_ret
      exact PBool.yes HP.out (hbx _)
  by_cases k3 : kind = 3
  · subst k3
    obtain rfl : s = ⟨#[]⟩ := HC.out.2.1 (by omega)
    obtain rfl : keys = [] := HC.out.2.2.1 (by omega)
    obtain rfl : list = [] := HC.out.2.2.2 (by omega)
    by_cases t1 : -1000000 ≤ n
    · by_cases t2 : n ≤ 1000000
      · have HP := Lib.hid (HF.out.2 ⟨⟨HC.out, by omega, by omega, textOk_nil, fun h => by omega⟩, fun v hv => by cases hv⟩)
        go_enter Tryd.func75, Tryd.ntmps75
        go_wp2
        go_ret
        exact PBool.yes HP.out (hbx _)
      · have HP := Lib.hid (fun h => t2 (HF.out.1 h).1.2.2.1.2)
        go_enter Tryd.func75, Tryd.ntmps75
        go_wp2
        go_ret
        exact PBool.no HP.out (hbx _)
    · have HP := Lib.hid (fun h => t1 (HF.out.1 h).1.2.2.1.1)
      go_enter Tryd.func75, Tryd.ntmps75
      go_wp2
      go_ret
      exact PBool.no HP.out (hbx _)
  obtain rfl : n = 0 := HC.out.1 k3
  by_cases k4 : kind = 4
  · subst k4
    obtain rfl : keys = [] := HC.out.2.2.1 (by omega)
    obtain rfl : list = [] := HC.out.2.2.2 (by omega)
    by_cases t1 : TextOk s
    · have HP := Lib.hid (HF.out.2 ⟨⟨HC.out, by omega, by omega, t1, fun h => by omega⟩, fun v hv => by cases hv⟩)
      go_enter Tryd.func75, Tryd.ntmps75
      go_wp2_with fail
      refine ((sTextOk_calls s _ hs).mono fun e w' h => h.true_ t1).mono ?_
      rintro e w1 ⟨rfl, rfl⟩
      go_wp2
      go_ret
      exact PBool.yes HP.out (hbx _)
    · have HP := Lib.hid (fun h => t1 (HF.out.1 h).1.2.2.2.1)
      go_enter Tryd.func75, Tryd.ntmps75
      go_wp2_with fail
      refine ((sTextOk_calls s _ hs).mono fun e w' h => h.false_ t1).mono ?_
      rintro e w1 ⟨rfl, rfl⟩
      go_wp2
      go_ret
      exact PBool.no HP.out (hbx _)
  obtain rfl : s = ⟨#[]⟩ := HC.out.2.1 k4
  by_cases kx : kind < 0 ∨ 6 < kind
  · have HP := Lib.hid (show ¬ Form d _ from fun h => by have := (HF.out.1 h).1.2.1; omega)
    obtain rfl : keys = [] := HC.out.2.2.1 (by omega)
    have b0 : (kind == 0) = false := by simp; omega
    have b1 : (kind == 1) = false := by simp; omega
    have b2 : (kind == 2) = false := by simp; omega
    have b3 : (kind == 3) = false := by simp; omega
    have b4 : (kind == 4) = false := by simp; omega
    have b5 : (kind == 5) = false := by simp; omega
    have b6 : (kind == 6) = false := by simp; omega
    have c3 : (kind != 3) = true := by simp; omega
    have c4 : (kind != 4) = true := by simp; omega
    have c6 : (kind != 6) = true := by simp; omega
    by_cases k5 : kind < 5
    · obtain rfl : list = [] := HC.out.2.2.2 k5
      go_enter Tryd.func75, Tryd.ntmps75
      go_wp2
      go_ret
      exact PBool.no HP.out (hbx _)
    · go_enter Tryd.func75, Tryd.ntmps75
      go_wp2
      go_ret
      exact PBool.no HP.out (hbx _)
  omega
end Go.Proofs.YtppfgepoegicgaaDoor
