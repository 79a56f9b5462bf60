import Derived.Test.YtppfgepoegicgaaOkName
namespace Go.Proofs.Ytppfgepoegicgaa
open Go Go.RowKit

theorem asker_first {w : World} {B : Nat} {x : Asker} {us : List Value} (h : RDv w B (askerDs x) us) : us.head? = some (.string x.name) := by
  obtain ⟨_, us', rfl, h1, h2⟩ := h
  rw [show _ = _ from h1.1]; rfl

set_option maxHeartbeats 1000000 in
theorem closA_calls (x : Asker) (us : List Value) (s : ByteArray) (g : Nat) (w : World) (B : Nat) (h : RDv w B (askerDs x) us) (hg : Blk w g 9 [.string s]) :
    Calls Try.prog 80 #[.agg us.toArray, .pointer (some ⟨g, 0, none⟩)] w (PBool (x.name = s) w) := by
  have h1 := asker_first h
  obtain ⟨a0, a1, a2, A3, n3, q3, rfl⟩ := askerDs_shape h
  obtain rfl : a0 = x.name := by simpa using h1
  have q0 := fun o => (hg.alloc o).cell 0
  have hb := fun o => below_box w o
  clear h h1 hg
  by_cases t : x.name = s
  · rw [t]
    go_enter Try.func80, Try.ntmps80
    go_wp2
    go_ret
    exact PBool.yes trivial (hb _)
  · have d := str_ne t
    go_enter Try.func80, Try.ntmps80
    go_wp2
    go_ret
    exact PBool.no t (hb _)

set_option maxRecDepth 100000 in
set_option maxHeartbeats 2000000 in
theorem indexA_calls (vs : List Asker) (s : ByteArray) (g : Nat) (A : Option Addr) (c : Nat) (w : World) (B : Nat) (hB : B ≤ w.heap.size) (h : RD w B (.row 4 vs.length (askersDs vs)) (.slice A vs.length c)) (hg : Blk w g 9 [.string s]) :
    Calls Try.prog 79 #[.slice A vs.length c, .func (.func 80) #[] #[.pointer (some ⟨g, 0, none⟩)]] w (PFirst (vs.map (·.name)) s w) := by
  have hn1 := h.len
  have HL := Lib.hid h
  have HG := Lib.hid hg
  clear h hg
  go_enter Try.func79, Try.ntmps79
  go_wp2
  go_loopw [8] (fun i w' => ∃ (k : Nat), k ≤ vs.length ∧ i = .int .i64 k ∧ Hid (s ∉ (vs.map (·.name)).take k) ∧ Below w.heap.size w w') (fun i _ => vs.length - (intOf i).toNat)
  case atStart => exact ⟨0, by omega, rfl, (by simp : s ∉ (vs.map (·.name)).take 0), Below.refl _ _⟩
  case round =>
    obtain ⟨k, hk, rfl, HT, hb⟩ := hrel
    have hz := hb.size
    by_cases hlt : k < vs.length
    · obtain ⟨ad, v, c0, c1, c2, c3, rfl, hbl, hv, hm, hd, y0, y1, y2, y3⟩ := row4_at (HL.out.upto (hb.mono hB) (Nat.le_refl _)) rfl hlt
      have HD := Lib.hid (names_at (f := fun x : Asker => x.name) hd.out)
      have HV := Lib.hid hv
      have HGr := Lib.hid (HG.out.below hb)
      have j0 : (0 : Int) ≤ (k : Int) := by omega
      have j1 : (k : Int) < (vs.length : Int) := by omega
      obtain ⟨a0, a1, a2, A3, n3, q3, es⟩ := askerDs_shape hv
      simp only [List.cons.injEq, and_true] at es
      obtain ⟨rfl, rfl, rfl, rfl⟩ := es
      clear hv
      go_wp2_with fail
      refine (closA_calls v [_, _, _, _] s g _ _ HV.out HGr.out).mono ?_
      rintro e w1 ⟨r, rfl, hr, hb1⟩
      have HR := Lib.hid hr
      have hb2 := hb.trans (hb1.mono hz)
      clear hr hb1
      cases r with
      | true =>
        have HF := Lib.hid (First.hit HD.out (HR.out.1 rfl) HT.out)
        go_wp2
        go_ret
        exact ⟨_, rfl, HF.out, hb2⟩
      | false =>
        have HT3 := Lib.hid (First.step HD.out (fun e => absurd (HR.out.2 e) (by simp)) HT.out)
        go_wp2
        go_roundw
        case rel => exact ⟨k + 1, by omega, by go_num, HT3, hb2⟩
        case measure => simp [intOf]; omega
    · have HF := Lib.hid (First.none (by have := HT.out; rwa [show k = (vs.map (·.name)).length by simp; omega, List.take_length] at this))
      go_wp2
      go_ret
      exact ⟨_, rfl, HF.out, hb⟩

set_option maxHeartbeats 1000000 in
/-- The place of a name. -/
theorem iAsker_calls (x : Shelf) (us : List Value) (s : ByteArray) (w : World) (B : Nat) (hB : B ≤ w.heap.size) (h : RDv w B (shelfDs x) us) :
    Calls Try.prog 42 #[.agg us.toArray, .string s] w (PFirst (x.askers.map (·.name)) s w) := by
  obtain ⟨A, c, rfl, hl⟩ := shelfDs_open h
  have H := Lib.hid hl
  clear h hl
  have hb := fun o1 o2 => below_box2 w o1 o2
  have hg : ∀ o1, Blk ((w.alloc o1).alloc (.cells #[.string s] 9)) (w.heap.size + 1) 9 [.string s] := fun o1 => by
    have := Blk.new (w.alloc o1) 9 [.string s]
    rwa [show (w.alloc o1).heap.size = w.heap.size + 1 by simp] at this
  go_enter Try.func42, Try.ntmps42
  go_wp2_with fail
  refine (indexA_calls x.askers s (w.heap.size + 1) A c _ B (Nat.le_trans hB (hb _ _).size) (H.out.below ((hb _ _).mono hB)) (hg _)).mono ?_
  rintro e w1 ⟨r, rfl, hr, hb1⟩
  have HR := Lib.hid hr
  have HB := Lib.hid ((hb _ _).trans (hb1.mono (hb _ _).size))
  clear hr hb1 hb hg
  go_wp2
  go_ret
  exact ⟨_, rfl, HR.out, HB.out⟩
end Go.Proofs.Ytppfgepoegicgaa
