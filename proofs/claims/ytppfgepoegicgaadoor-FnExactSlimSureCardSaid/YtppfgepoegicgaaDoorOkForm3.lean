import Derived.Test.YtppfgepoegicgaaDoorOkForm2
import Derived.Test.YtppfgepoegicgaaDoorOwn
namespace Go.Proofs.YtppfgepoegicgaaDoor
open Go Go.RowKit

theorem drawn_box {w w1 : World} {o : Obj} (h : Drawn (w.alloc o) w1) : Below (w.heap.size + 1) (w.alloc o) w1 := by
  have := h.below
  exact boxes1_of this

set_option maxRecDepth 100000 in
set_option maxHeartbeats 4000000 in
theorem sForm_loop (kind n : Int) (s : ByteArray) (keys : List ByteArray) (list : List Val) (k56 : kind = 5 ∨ kind = 6) (ih : ∀ x ∈ list, SForm x) : SForm (.mk kind n s keys list) := by
  intro us w B d di hdi hd hB h
  subst hdi
  obtain ⟨_, _, _, _, _, A1, c1, A2, c2, e, rfl, hs, hk, hl⟩ := valDs_open h
  injection e with e1 e2 e3 e4 e5
  subst e1 e2 e3 e4 e5
  have hn1 := hk.len
  have hn2 := hl.len
  by_cases hbad : d = 0 ∨ ¬ Clean kind n s keys list
  · exact (sForm_bad kind n s keys list A1 A2 c1 c2 d w hd hn1 hn2 hbad).mono fun e w' ⟨he, hb⟩ => by rw [he]; exact PBool.no (form_bad hbad) hb
  have hd0 : d ≠ 0 := fun e => hbad (.inl e)
  have hC : Clean kind n s keys list := Classical.byContradiction fun e => hbad (.inr e)
  have HF := Lib.hid (form_iff hd0 (kind := kind) (n := n) (s := s) (keys := keys) (list := list))
  have HC := Lib.hid hC
  have IH := Lib.hid ih
  have HL := Lib.hid hl
  have HK := Lib.hid hk
  have hbx := fun o1 => below_box w o1
  have t0' : ¬ ((d : Int) < 1) := by omega
  clear hbad ih h hk hl hC
  obtain rfl : n = 0 := HC.out.1 (by omega)
  obtain rfl : s = ⟨#[]⟩ := HC.out.2.1 (by omega)
  rcases k56 with rfl | rfl
  · obtain rfl : keys = [] := HC.out.2.2.1 (by omega)
    have HI := Lib.hid (show Form d (.mk 5 0 ⟨#[]⟩ [] list) ↔ ∀ v ∈ list, Form (d - 1) v from HF.out.trans ⟨fun h => h.2, fun h => ⟨⟨HC.out, by omega, by omega, textOk_nil, fun h => by omega⟩, h⟩⟩)
    clear HF HC
    go_enter Tryd.func75, Tryd.ntmps75
    go_wp2
    go_loopw [5] (fun i w' => ∃ k : Nat, k ≤ list.length ∧ i = .int .i64 k ∧ Hid (∀ y ∈ list.take k, Form (d - 1) y) ∧ Below (w.heap.size + 1) (w.alloc (.cells #[.int .i64 5, .int .i64 0, .string ⟨#[]⟩, .slice A1 0 c1, .slice A2 list.length c2] 33)) w') (fun i _ => list.length - (intOf i).toNat)
    case atStart => exact ⟨0, by omega, rfl, (fun y hy => by simp at hy), Below.refl _ _⟩
    case round =>
      obtain ⟨k, hk, rfl, HT, hb0⟩ := hrel
      obtain ⟨hb, hz, bP⟩ := boxes1 (P := [_, _, _, _, _]) hb0
      obtain ⟨cP, fP⟩ := blk_rules bP
      by_cases hlt : k < list.length
      · obtain ⟨ad, v, x0, x1, x2, x3, x4, rfl, hbl, hv, hm, hd1, y0, y1, y2, y3, y4⟩ := row5_at (HL.out.upto (hb.mono hB) (Nat.le_refl _)) rfl hlt
        go_wp2_with fail
        refine (IH.out v hm _ wr B (d - 1) _ (by omega) (by omega) (by omega) hv).mono ?_
        rintro e w1 ⟨r, rfl, hr, hb1⟩
        have HR := Lib.hid hr
        have hb2 := hb0.trans (hb1.mono hz)
        clear hr cP fP bP
        obtain ⟨hbb, hzz, bP2⟩ := boxes1 (P := [_, _, _, _, _]) hb2
        cases r with
        | true =>
          have HT3 := Lib.hid ((take_all_succ hd1.out).2 ⟨HT.out, HR.out.1 rfl⟩)
          go_wp2
          go_roundw
          case rel => exact ⟨k + 1, by omega, by go_num, HT3, hb2⟩
          case measure => simp [intOf]; omega
        | false =>
          have HN := Lib.hid (show ¬ Form d _ from fun h => absurd (HR.out.2 (HI.out.1 h v hm)) (by simp))
          go_wp2
          go_ret
          exact PBool.no HN.out hbb
      · have HN := Lib.hid (HI.out.2 (by have := HT.out; rwa [show k = list.length by omega, List.take_length] at this))
        go_wp2
        go_ret
        exact PBool.yes HN.out hb
  · by_cases tl : keys.length = list.length
    case neg =>
      have HN := Lib.hid (show ¬ Form d _ from fun h => tl ((HF.out.1 h).1.2.2.2.2 rfl).1)
      have d5 : ((keys.length : Int) != (list.length : Int)) = true := by simp; omega
      go_enter Tryd.func75, Tryd.ntmps75
      go_wp2
      go_ret
      exact PBool.no HN.out (hbx _)
    have d5 : ((keys.length : Int) != (list.length : Int)) = false := by simp; omega
    have TL := Lib.hid tl
    clear tl
    go_enter Tryd.func75, Tryd.ntmps75
    go_wp2_with fail
    refine (sKeys_calls keys A1 c1 _ B (HK.out.below ((hbx _).mono hB))).mono ?_
    rintro e w0 ⟨r0, rfl, hr0, hD0⟩
    have HR0 := Lib.hid hr0
    have hb00 := drawn_box hD0
    obtain ⟨hb, hz, bP⟩ := boxes1 (P := [_, _, _, _, _]) hb00
    obtain ⟨cP, fP⟩ := blk_rules bP
    clear hr0 hD0
    cases r0 with
    | false =>
      have HN := Lib.hid (show ¬ Form d _ from fun h => absurd (HR0.out.2 ((HF.out.1 h).1.2.2.2.2 rfl).2) (by simp))
      go_wp2
      go_ret
      exact PBool.no HN.out hb
    | true =>
      have HI := Lib.hid (show Form d (.mk 6 0 ⟨#[]⟩ keys list) ↔ ∀ v ∈ list, Form (d - 1) v from HF.out.trans ⟨fun h => h.2, fun h => ⟨⟨HC.out, by omega, by omega, textOk_nil, fun _ => ⟨TL.out, HR0.out.1 rfl⟩⟩, h⟩⟩)
      go_wp2
      clear HF HC bP cP fP d5
      go_loopw [5] (fun i w' => ∃ k : Nat, k ≤ list.length ∧ i = .int .i64 k ∧ Hid (∀ y ∈ list.take k, Form (d - 1) y) ∧ Below (w.heap.size + 1) (w.alloc (.cells #[.int .i64 6, .int .i64 0, .string ⟨#[]⟩, .slice A1 keys.length c1, .slice A2 list.length c2] 33)) w') (fun i _ => list.length - (intOf i).toNat)
      case atStart => exact ⟨0, by omega, rfl, (fun y hy => by simp at hy), hb00⟩
      case round =>
        clear hb hz hb00
        obtain ⟨k, hk, rfl, HT, hb0⟩ := hrel
        obtain ⟨hb, hz, bP⟩ := boxes1 (P := [_, _, _, _, _]) hb0
        obtain ⟨cP, fP⟩ := blk_rules bP
        by_cases hlt : k < list.length
        · obtain ⟨ad, v, x0, x1, x2, x3, x4, rfl, hbl, hv, hm, hd1, y0, y1, y2, y3, y4⟩ := row5_at (HL.out.upto (hb.mono hB) (Nat.le_refl _)) rfl hlt
          go_wp2_with fail
          refine (IH.out v hm _ wr B (d - 1) _ (by omega) (by omega) (by omega) hv).mono ?_
          rintro e w1 ⟨r, rfl, hr, hb1⟩
          have HR := Lib.hid hr
          have hb2 := hb0.trans (hb1.mono hz)
          clear hr cP fP bP
          obtain ⟨hbb, hzz, bP2⟩ := boxes1 (P := [_, _, _, _, _]) hb2
          cases r with
          | true =>
            have HT3 := Lib.hid ((take_all_succ hd1.out).2 ⟨HT.out, HR.out.1 rfl⟩)
            go_wp2
            go_roundw
            case rel => exact ⟨k + 1, by omega, by go_num, HT3, hb2⟩
            case measure => simp [intOf]; omega
          | false =>
            have HN := Lib.hid (show ¬ Form d _ from fun h => absurd (HR.out.2 (HI.out.1 h v hm)) (by simp))
            go_wp2
            go_ret
            exact PBool.no HN.out hbb
        · have HN := Lib.hid (HI.out.2 (by have := HT.out; rwa [show k = list.length by omega, List.take_length] at this))
          go_wp2
          go_ret
          exact PBool.yes HN.out hb

theorem sForm_calls : ∀ v, SForm v := Val.ind fun kind n s keys list ih => by
  by_cases h : kind = 5 ∨ kind = 6
  · exact sForm_loop kind n s keys list h ih
  · exact sForm_most _ fun _ _ _ _ _ e => by
      injection e with e1
      subst e1
      omega
end Go.Proofs.YtppfgepoegicgaaDoor
