import Derived.Test.YtppfgepoegicgaaKeptToR
import Derived.Test.YtppfgepoegicgaaAskerToR
namespace Go.Proofs.Ytppfgepoegicgaa
open Go Go.RowKit

/-- The end of a function that fills a variable of its own (block g + 2) and stores it whole into its result (block g + 1). -/
theorem to_end {w w1 W : World} {fp : List Nat} {ds : List Dat} {us us0 us' : List Value} {o1 o2 o3 : Obj} {i : Nat}
    (hF : Fresh (((w.alloc o1).alloc o2).alloc o3) w1 fp) (hO : ODv w1 ds us fp) (hb : Below w.heap.size w w1) (eW : W = setAll (setAll w1 (w.heap.size + 1 + 1) i us0) (w.heap.size + 1) 0 us') :
    ODv W ds us fp ∧ Fresh w W fp ∧ Below w.heap.size w W := by
  have hs1 : (((w.alloc o1).alloc o2).alloc o3).heap.size = w.heap.size + 1 + 1 + 1 := by simp
  have hsz : W.heap.size = w1.heap.size := by rw [eW, setAll_size, setAll_size]
  have g1 : ∀ b ∈ fp, w.heap.size + 1 + 1 + 1 ≤ b ∧ b < w1.heap.size := fun b hb => by
    have := hF.2 b hb
    rw [hs1] at this
    exact this
  refine ⟨ODv.keep ds us fp (fun b hb => ?_) hO, ⟨hF.1, fun b hb => ?_⟩, ?_⟩
  · have := g1 b hb
    rw [eW, setAll_other _ _ _ _ _ (by omega), setAll_other _ _ _ _ _ (by omega)]
  · have := g1 b hb
    omega
  · rw [eW]
    exact setAll_below _ (by omega) (setAll_below _ (by omega) hb)

set_option maxHeartbeats 1000000 in
theorem toKept_calls (v : Kept) : ToKept v := by
  intro us w B hB h hsm
  obtain ⟨vs, rfl, hs, hv⟩ := keptDs_open h
  obtain ⟨a, b, s, A1, n1, c1, A2, n2, c2, rfl⟩ := valDs_shape hv
  have HS := Lib.hid hsm.2
  have hbx := fun o1 o2 o3 => below_box3 w o1 o2 o3
  clear h hsm
  go_enter Try.func100, Try.ntmps100
  go_wp2_with fail
  refine (toVal_calls v.v [_, _, _, _, _] _ B (by simp; omega) (hv.below ((hbx _ _ _).mono hB)) HS.out).mono ?_
  rintro e w1 ⟨vs1, f1, rfl, hO1, hF1, hb1⟩
  obtain ⟨d0, d1, d2, A3, n3, c3, A4, n4, c4, rfl⟩ := valDs_shape hO1.rd'
  obtain ⟨hb, hz, bP, bR, bO⟩ := boxes3 (P := [_, _, _, _, _, _]) (R := [_, _, _, _, _, _]) (O := [_, _, _, _, _, _]) hb1
  have HO1 := Lib.hid hO1
  have HF1 := Lib.hid hF1
  obtain ⟨cR, fR⟩ := blk_rules bR
  obtain ⟨cO, fO⟩ := blk_rules bO
  clear hO1 hF1 bP bR bO hb1
  go_wp2
  refine bodyPost_ret (v := .agg #[.string v.name, .int .i64 d0, .int .i64 d1, .string d2, .slice A3 n3 c3, .slice A4 n4 c4]) (by simp [results, Try.results100, go_sem, cR]) rfl ?_
  obtain ⟨h1, h2, h3⟩ := to_end HF1.out HO1.out hb (show setAll (setAll w1 (w.heap.size + 1 + 1) 1 [.int .i64 d0, .int .i64 d1, .string d2, .slice A3 n3 c3, .slice A4 n4 c4]) (w.heap.size + 1) 0 [.string v.name, .int .i64 d0, .int .i64 d1, .string d2, .slice A3 n3 c3, .slice A4 n4 c4] = _ from rfl)
  exact ⟨[_, _, _, _, _, _], f1, rfl, ⟨_, _, [], f1, rfl, rfl, ⟨rfl, hs, rfl⟩, h1⟩, h2, h3⟩
theorem toKepts_calls (vs : List Kept) : ToKepts vs := toKepts_of vs fun v _ => toKept_calls v

set_option maxHeartbeats 1000000 in
theorem toAsker_calls (v : Asker) : ToAsker v := by
  intro us w B hB h hsm
  obtain ⟨A, c, rfl, hs, hv⟩ := askerDs_open h
  have HS := Lib.hid hsm.2.2.2.1
  have hbx := fun o1 o2 o3 => below_box3 w o1 o2 o3
  clear h hsm
  go_enter Try.func74, Try.ntmps74
  go_wp2_with fail
  refine (toKepts_calls v.trees A c _ B (by simp; omega) (hv.below ((hbx _ _ _).mono hB)) HS.out).mono ?_
  rintro e w1 ⟨v1, f1, rfl, hO1, hF1, hb1⟩
  obtain ⟨A3, c3, n3, rfl⟩ := row_shape hO1.rd'
  obtain ⟨hb, hz, bP, bR, bO⟩ := boxes3 (P := [_, _, _, _]) (R := [_, _, _, _]) (O := [_, _, _, _]) hb1
  have HO1 := Lib.hid (show ODv w1 [.row 6 v.trees.length (keptsDs v.trees)] [.slice A3 n3 c3] f1 from ⟨_, _, f1, [], rfl, (List.append_nil f1).symm, hO1, rfl, rfl⟩)
  have HF1 := Lib.hid hF1
  obtain ⟨cR, fR⟩ := blk_rules bR
  obtain ⟨cO, fO⟩ := blk_rules bO
  clear hO1 hF1 bP bR bO hb1
  go_wp2
  refine bodyPost_ret (v := .agg #[.string v.name, .int .i64 v.most, .int .i64 v.fuel, .slice A3 n3 c3]) (by simp [results, Try.results74, go_sem, cR]) rfl ?_
  obtain ⟨h1, h2, h3⟩ := to_end HF1.out HO1.out hb (show setAll (setAll w1 (w.heap.size + 1 + 1) 3 [.slice A3 n3 c3]) (w.heap.size + 1) 0 [.string v.name, .int .i64 v.most, .int .i64 v.fuel, .slice A3 n3 c3] = _ from rfl)
  exact ⟨[_, _, _, _], f1, rfl, ⟨_, _, [], f1, rfl, rfl, ⟨rfl, hs, rfl⟩, _, _, [], f1, rfl, rfl, ⟨rfl, rfl⟩, _, _, [], f1, rfl, rfl, ⟨rfl, rfl⟩, h1⟩, h2, h3⟩
theorem toAskers_calls (vs : List Asker) : ToAskers vs := toAskers_of vs fun v _ => toAsker_calls v

set_option maxHeartbeats 1000000 in
theorem toShelf_calls (v : Shelf) (us : List Value) (w : World) (B : Nat) (hB : B ≤ w.heap.size) (h : RDv w B (shelfDs v) us) (hsm : SmallDs (shelfDs v)) :
    Calls Try.prog 12 #[.agg us.toArray] w fun e w' => ∃ vs fp, e = .returned (.agg vs.toArray) ∧ ODv w' (shelfDs v) vs fp ∧ Fresh w w' fp ∧ Below w.heap.size w w' := by
  obtain ⟨A, c, rfl, hv⟩ := shelfDs_open h
  have HS := Lib.hid hsm.1
  have hbx := fun o1 o2 o3 => below_box3 w o1 o2 o3
  clear h hsm
  go_enter Try.func12, Try.ntmps12
  go_wp2_with fail
  refine (toAskers_calls v.askers A c _ B (by simp; omega) (hv.below ((hbx _ _ _).mono hB)) HS.out).mono ?_
  rintro e w1 ⟨v1, f1, rfl, hO1, hF1, hb1⟩
  obtain ⟨A3, c3, n3, rfl⟩ := row_shape hO1.rd'
  obtain ⟨hb, hz, bP, bR, bO⟩ := boxes3 (P := [_]) (R := [_]) (O := [_]) hb1
  have HO1 := Lib.hid (show ODv w1 [.row 4 v.askers.length (askersDs v.askers)] [.slice A3 n3 c3] f1 from ⟨_, _, f1, [], rfl, (List.append_nil f1).symm, hO1, rfl, rfl⟩)
  have HF1 := Lib.hid hF1
  obtain ⟨cR, fR⟩ := blk_rules bR
  obtain ⟨cO, fO⟩ := blk_rules bO
  clear hO1 hF1 bP bR bO hb1
  go_wp2
  refine bodyPost_ret (v := .agg #[.slice A3 n3 c3]) (by simp [results, Try.results12, go_sem, cR]) rfl ?_
  obtain ⟨h1, h2, h3⟩ := to_end HF1.out HO1.out hb (show setAll (setAll w1 (w.heap.size + 1 + 1) 0 [.slice A3 n3 c3]) (w.heap.size + 1) 0 [.slice A3 n3 c3] = _ from rfl)
  exact ⟨[_], f1, rfl, h1, h2, h3⟩
end Go.Proofs.Ytppfgepoegicgaa
