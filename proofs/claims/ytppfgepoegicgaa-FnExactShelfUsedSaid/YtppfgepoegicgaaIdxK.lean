import Derived.Test.YtppfgepoegicgaaOkName
namespace Go.Proofs.Ytppfgepoegicgaa
open Go Go.RowKit

theorem kept_first {w : World} {B : Nat} {x : Kept} {us : List Value} (h : RDv w B (keptDs x) us) : us.head? = some (.string x.name) := by
  obtain ⟨_, us', rfl, h1, h2⟩ := h
  rw [show _ = _ from h1.1]; rfl

set_option maxHeartbeats 1000000 in
theorem closK_calls (x : Kept) (us : List Value) (s : ByteArray) (g : Nat) (w : World) (B : Nat) (h : RDv w B (keptDs x) us) (hg : Blk w g 9 [.string s]) :
    Calls Try.prog 83 #[.agg us.toArray, .pointer (some ⟨g, 0, none⟩)] w (PBool (x.name = s) w) := by
  have h1 := kept_first h
  obtain ⟨a0, a1, a2, a3, A4, n4, q4, A5, n5, q5, rfl⟩ := keptDs_shape h
  obtain rfl : a0 = x.name := by simpa using h1
  have q0 := fun o => (hg.alloc o).cell 0
  have hb := fun o => below_box w o
  clear h h1 hg
  by_cases t : x.name = s
  · rw [t]
    go_enter Try.func83, Try.ntmps83
    go_wp2
    go_ret
    exact PBool.yes trivial (hb _)
  · have d := str_ne t
    go_enter Try.func83, Try.ntmps83
    go_wp2
    go_ret
    exact PBool.no t (hb _)

set_option maxRecDepth 100000 in
set_option maxHeartbeats 2000000 in
theorem indexK_calls (vs : List Kept) (s : ByteArray) (g : Nat) (A : Option Addr) (c : Nat) (w : World) (B : Nat) (hB : B ≤ w.heap.size) (h : RD w B (.row 6 vs.length (keptsDs vs)) (.slice A vs.length c)) (hg : Blk w g 9 [.string s]) :
    Calls Try.prog 82 #[.slice A vs.length c, .func (.func 83) #[] #[.pointer (some ⟨g, 0, none⟩)]] w (PFirst (vs.map (·.name)) s w) := by
  have hn1 := h.len
  have HL := Lib.hid h
  have HG := Lib.hid hg
  clear h hg
  go_enter Try.func82, Try.ntmps82
  go_wp2
  go_loopw [8] (fun i w' => ∃ (k : Nat), k ≤ vs.length ∧ i = .int .i64 k ∧ Hid (s ∉ (vs.map (·.name)).take k) ∧ Below w.heap.size w w') (fun i _ => vs.length - (intOf i).toNat)
  case atStart => exact ⟨0, by omega, rfl, (by simp : s ∉ (vs.map (·.name)).take 0), Below.refl _ _⟩
  case round =>
    obtain ⟨k, hk, rfl, HT, hb⟩ := hrel
    have hz := hb.size
    by_cases hlt : k < vs.length
    · obtain ⟨ad, v, c0, c1, c2, c3, c4, c5, rfl, hbl, hv, hm, hd, y0, y1, y2, y3, y4, y5⟩ := row6_at (HL.out.upto (hb.mono hB) (Nat.le_refl _)) rfl hlt
      have HD := Lib.hid (names_at (f := fun x : Kept => x.name) hd.out)
      have HV := Lib.hid hv
      have HGr := Lib.hid (HG.out.below hb)
      have j0 : (0 : Int) ≤ (k : Int) := by omega
      have j1 : (k : Int) < (vs.length : Int) := by omega
      obtain ⟨a0, a1, a2, a3, A4, n4, q4, A5, n5, q5, es⟩ := keptDs_shape hv
      simp only [List.cons.injEq, and_true] at es
      obtain ⟨rfl, rfl, rfl, rfl, rfl, rfl⟩ := es
      clear hv
      go_wp2_with fail
      refine (closK_calls v [_, _, _, _, _, _] s g _ _ HV.out HGr.out).mono ?_
      rintro e w1 ⟨r, rfl, hr, hb1⟩
      have HR := Lib.hid hr
      have hb2 := hb.trans (hb1.mono hz)
      clear hr hb1
      cases r with
      | true =>
        have HF := Lib.hid (First.hit HD.out (HR.out.1 rfl) HT.out)
        go_wp2
        go_ret
        exact ⟨_, rfl, HF.out, hb2⟩
      | false =>
        have HT3 := Lib.hid (First.step HD.out (fun e => absurd (HR.out.2 e) (by simp)) HT.out)
        go_wp2
        go_roundw
        case rel => exact ⟨k + 1, by omega, by go_num, HT3, hb2⟩
        case measure => simp [intOf]; omega
    · have HF := Lib.hid (First.none (by have := HT.out; rwa [show k = (vs.map (·.name)).length by simp; omega, List.take_length] at this))
      go_wp2
      go_ret
      exact ⟨_, rfl, HF.out, hb⟩

set_option maxHeartbeats 1000000 in
/-- The place of a name. -/
theorem iTree_calls (x : Asker) (us : List Value) (s : ByteArray) (w : World) (B : Nat) (hB : B ≤ w.heap.size) (h : RDv w B (askerDs x) us) :
    Calls Try.prog 44 #[.agg us.toArray, .string s] w (PFirst (x.trees.map (·.name)) s w) := by
  obtain ⟨A, c, rfl, hs, hl⟩ := askerDs_open h
  have H := Lib.hid hl
  clear h hl
  have hb := fun o1 o2 => below_box2 w o1 o2
  have hg : ∀ o1, Blk ((w.alloc o1).alloc (.cells #[.string s] 9)) (w.heap.size + 1) 9 [.string s] := fun o1 => by
    have := Blk.new (w.alloc o1) 9 [.string s]
    rwa [show (w.alloc o1).heap.size = w.heap.size + 1 by simp] at this
  go_enter Try.func44, Try.ntmps44
  go_wp2_with fail
  refine (indexK_calls x.trees s (w.heap.size + 1) A c _ B (Nat.le_trans hB (hb _ _).size) (H.out.below ((hb _ _).mono hB)) (hg _)).mono ?_
  rintro e w1 ⟨r, rfl, hr, hb1⟩
  have HR := Lib.hid hr
  have HB := Lib.hid ((hb _ _).trans (hb1.mono (hb _ _).size))
  clear hr hb1 hb hg
  go_wp2
  go_ret
  exact ⟨_, rfl, HR.out, HB.out⟩
end Go.Proofs.Ytppfgepoegicgaa
