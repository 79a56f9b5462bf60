/- Slim: the reference's l6Pipe, l6Both, l6If, l6Two. -/
import Derived.Test.YtppfgepoegicgaaGreatDoorZSlimK
import Derived.Test.YtppfgepoegicgaaGreatDoorZTwoS
namespace Go.Proofs.YtppfgepoegicgaaGreatDoor
open Go Go.RowKit

/-- A filter comes back that is read of S. -/
def PF (S : Nat → Prop) (w : World) (x : Filt) (e : Ending) (w' : World) : Prop := ∃ vs, e = .returned (.agg vs.toArray) ∧ RT S w' (filtDs x) vs ∧ Below w.heap.size w w'
theorem pf_end {S : Nat → Prop} {w W : World} {x y : Filt} {zs : List Value} {R : Nat} (h : RT S w (filtDs y) zs) (hb : Below w.heap.size w W) (hR : w.heap.size ≤ R) (hx : x = y) : PF S w x (.returned (.agg zs.toArray)) (setAll W R 0 zs) :=
  ⟨zs, rfl, by rw [hx]; exact h.below (setAll_below _ hR hb), setAll_below _ hR hb⟩
theorem pf_far {S : Nat → Prop} {w W3 W4 W5 : World} {x y : Filt} {zs : List Value} {R : Nat} (h : RT (fun b => W3.heap.size ≤ b) W4 (filtDs y) zs) (h5 : Below W4.heap.size W4 W5) (hb : Below w.heap.size w W5) (hR : w.heap.size ≤ R) (hR3 : R < W3.heap.size) (h3 : w.heap.size ≤ W3.heap.size) (hS : ∀ b, w.heap.size ≤ b → S b) (hx : x = y) : PF S w x (.returned (.agg zs.toArray)) (setAll W5 R 0 zs) := by
  refine ⟨zs, rfl, ?_, setAll_below _ hR hb⟩
  rw [hx]
  exact h.to (by rw [setAll_size]; exact h5.size) fun b hlt hs => ⟨hS b (Nat.le_trans h3 hs), (setAll_other _ _ _ _ _ (by omega)).trans (h5.block b hlt)⟩
theorem cell_below {w w' : World} {p : Addr} {u : Value} (hc : w.cell? p = some u) (hb : Below w.heap.size w w') : w'.cell? p = some u := (hb.cell (World.block_lt_of_cell? w p hc)).trans hc

set_option maxRecDepth 100000 in
set_option maxHeartbeats 8000000 in
theorem pipe_calls (S : Nat → Prop) (w : World) (hS : ∀ b, w.heap.size ≤ b → S b) (n : Int) (s : ByteArray) (v : Val) (a b : Filt) (us : List Value) (h : RT S w (filtDs (.mk 6 n s v [a, b])) us) :
    Calls Tryz.prog 33 #[.agg us.toArray] w (PF S w (slimK (.mk 6 n s v [a, b]) [a, b])) := by
  obtain ⟨_, _, _, _, _, f3, f4, f5, A6, n6, q6, A7, n7, q7, A8, q8, ex, rfl, hs, hv, hk⟩ := filtDs_all h
  injection ex with e1 e2 e3 e4 e5
  subst e1 e2 e3 e4 e5
  obtain ⟨ada, ya, c0a, c1a, c2a, c3a, c4a, c5a, c6a, c7a, c8a, ea, hya, hga, t0a, t1a, t2a, t3a, t4a, t5a, t6a, t7a, t8a⟩ := rt_at hk rfl (k := 0) (by simp)
  obtain ⟨ad, rfl⟩ : ∃ ad, A8 = some ad := ⟨_, ea⟩
  injection ea with ea
  subst ea
  obtain rfl : a = ya := by simpa using hga
  clear hga
  have Ha := Lib.hid (show RT S w (filtDs a) _ from hya)
  obtain ⟨ka, na, sa, va, la, a3, a4, a5, aA, aB, aC, aD, aE, aG, aH, aI, rfl, eca, -, hva, -⟩ := filtDs_all hya
  simp only [List.cons.injEq, and_true] at eca
  obtain ⟨rfl, rfl, rfl, rfl, rfl, rfl, rfl, rfl, rfl⟩ := eca
  have HVa := Lib.hid hva
  clear hya hva
  obtain ⟨adb, yb, c0b, c1b, c2b, c3b, c4b, c5b, c6b, c7b, c8b, eb, hyb, hgb, t0b, t1b, t2b, t3b, t4b, t5b, t6b, t7b, t8b⟩ := rt_at hk rfl (k := 1) (by simp)
  injection eb with eb
  subst eb
  obtain rfl : b = yb := by simpa using hgb
  clear hgb
  have Hb := Lib.hid (show RT S w (filtDs b) _ from hyb)
  obtain ⟨kb, nb, sb, vb, lb, b3, b4, b5, bA, bB, bC, bD, bE, bG, bH, bI, rfl, ecb, -, hvb, -⟩ := filtDs_all hyb
  simp only [List.cons.injEq, and_true] at ecb
  obtain ⟨rfl, rfl, rfl, rfl, rfl, rfl, rfl, rfl, rfl⟩ := ecb
  have HVb := Lib.hid hvb
  clear hyb hvb
  have HF := Lib.hid h
  obtain ⟨W1, eW⟩ : ∃ W, W = (w.alloc (.cells #[.int .i64 6, .int .i64 n, .string s, .int .i64 f3, .int .i64 f4, .string f5, .slice A6 n6 q6, .slice A7 n7 q7, .slice (some ad) 2 q8] 35)).alloc (.cells #[.int .i64 0, .int .i64 0, .string ⟨#[]⟩, .int .i64 0, .int .i64 0, .string ⟨#[]⟩, .slice none 0 0, .slice none 0 0, .slice none 0 0] 35) := ⟨_, rfl⟩
  have hb1 : Below w.heap.size w W1 := by rw [eW]; exact below_box2 _ _ _
  have HP := Lib.hid (show Blk W1 w.heap.size 35 [.int .i64 6, .int .i64 n, .string s, .int .i64 f3, .int .i64 f4, .string f5, .slice A6 n6 q6, .slice A7 n7 q7, .slice (some ad) 2 q8] by rw [eW]; exact (Blk.new _ _ _).alloc _)
  have HR := Lib.hid (show Blk W1 (w.heap.size + 1) 35 [.int .i64 0, .int .i64 0, .string ⟨#[]⟩, .int .i64 0, .int .i64 0, .string ⟨#[]⟩, .slice none 0 0, .slice none 0 0, .slice none 0 0] by
    have := Blk.new (w.alloc (.cells #[.int .i64 6, .int .i64 n, .string s, .int .i64 f3, .int .i64 f4, .string f5, .slice A6 n6 q6, .slice A7 n7 q7, .slice (some ad) 2 q8] 35)) 35 [.int .i64 0, .int .i64 0, .string ⟨#[]⟩, .int .i64 0, .int .i64 0, .string ⟨#[]⟩, .slice none 0 0, .slice none 0 0, .slice none 0 0]
    rw [eW]
    simpa using this)
  have HW := Lib.hid hb1
  have hz1 : w.heap.size + 2 = W1.heap.size := by rw [eW]; simp
  have EW := Lib.hid eW
  have g0a : W1.cell? ad = some (.int .i64 ka) := by simpa [Addr.add] using cell_below t0a hb1
  have g1a : W1.cell? ⟨ad.block, ad.off + 1, none⟩ = some (.int .i64 na) := by simpa [Addr.add] using cell_below t1a hb1
  have g2a : W1.cell? ⟨ad.block, ad.off + 2, none⟩ = some (.string sa) := by simpa [Addr.add] using cell_below t2a hb1
  have g3a : W1.cell? ⟨ad.block, ad.off + 3, none⟩ = some (.int .i64 a3) := by simpa [Addr.add] using cell_below t3a hb1
  have g4a : W1.cell? ⟨ad.block, ad.off + 4, none⟩ = some (.int .i64 a4) := by simpa [Addr.add] using cell_below t4a hb1
  have g5a : W1.cell? ⟨ad.block, ad.off + 5, none⟩ = some (.string a5) := by simpa [Addr.add] using cell_below t5a hb1
  have g6a : W1.cell? ⟨ad.block, ad.off + 6, none⟩ = some (.slice aA aB aC) := by simpa [Addr.add] using cell_below t6a hb1
  have g7a : W1.cell? ⟨ad.block, ad.off + 7, none⟩ = some (.slice aD aE aG) := by simpa [Addr.add] using cell_below t7a hb1
  have g8a : W1.cell? ⟨ad.block, ad.off + 8, none⟩ = some (.slice aH la.length aI) := by simpa [Addr.add] using cell_below t8a hb1
  have gg0a := fun o => (World.cell?_alloc_lt W1 o ad (World.block_lt_of_cell? _ _ g0a)).trans g0a
  have gg1a := fun o => (World.cell?_alloc_lt W1 o ⟨ad.block, ad.off + 1, none⟩ (World.block_lt_of_cell? _ _ g1a)).trans g1a
  have gg2a := fun o => (World.cell?_alloc_lt W1 o ⟨ad.block, ad.off + 2, none⟩ (World.block_lt_of_cell? _ _ g2a)).trans g2a
  have gg3a := fun o => (World.cell?_alloc_lt W1 o ⟨ad.block, ad.off + 3, none⟩ (World.block_lt_of_cell? _ _ g3a)).trans g3a
  have gg4a := fun o => (World.cell?_alloc_lt W1 o ⟨ad.block, ad.off + 4, none⟩ (World.block_lt_of_cell? _ _ g4a)).trans g4a
  have gg5a := fun o => (World.cell?_alloc_lt W1 o ⟨ad.block, ad.off + 5, none⟩ (World.block_lt_of_cell? _ _ g5a)).trans g5a
  have gg6a := fun o => (World.cell?_alloc_lt W1 o ⟨ad.block, ad.off + 6, none⟩ (World.block_lt_of_cell? _ _ g6a)).trans g6a
  have gg7a := fun o => (World.cell?_alloc_lt W1 o ⟨ad.block, ad.off + 7, none⟩ (World.block_lt_of_cell? _ _ g7a)).trans g7a
  have gg8a := fun o => (World.cell?_alloc_lt W1 o ⟨ad.block, ad.off + 8, none⟩ (World.block_lt_of_cell? _ _ g8a)).trans g8a
  clear t0a t1a t2a t3a t4a t5a t6a t7a t8a
  have g0b : W1.cell? ⟨ad.block, ad.off + 9, none⟩ = some (.int .i64 kb) := by simpa [Addr.add] using cell_below t0b hb1
  have g1b : W1.cell? ⟨ad.block, ad.off + 10, none⟩ = some (.int .i64 nb) := by simpa [Addr.add] using cell_below t1b hb1
  have g2b : W1.cell? ⟨ad.block, ad.off + 11, none⟩ = some (.string sb) := by simpa [Addr.add] using cell_below t2b hb1
  have g3b : W1.cell? ⟨ad.block, ad.off + 12, none⟩ = some (.int .i64 b3) := by simpa [Addr.add] using cell_below t3b hb1
  have g4b : W1.cell? ⟨ad.block, ad.off + 13, none⟩ = some (.int .i64 b4) := by simpa [Addr.add] using cell_below t4b hb1
  have g5b : W1.cell? ⟨ad.block, ad.off + 14, none⟩ = some (.string b5) := by simpa [Addr.add] using cell_below t5b hb1
  have g6b : W1.cell? ⟨ad.block, ad.off + 15, none⟩ = some (.slice bA bB bC) := by simpa [Addr.add] using cell_below t6b hb1
  have g7b : W1.cell? ⟨ad.block, ad.off + 16, none⟩ = some (.slice bD bE bG) := by simpa [Addr.add] using cell_below t7b hb1
  have g8b : W1.cell? ⟨ad.block, ad.off + 17, none⟩ = some (.slice bH lb.length bI) := by simpa [Addr.add] using cell_below t8b hb1
  have gg0b := fun o => (World.cell?_alloc_lt W1 o ⟨ad.block, ad.off + 9, none⟩ (World.block_lt_of_cell? _ _ g0b)).trans g0b
  have gg1b := fun o => (World.cell?_alloc_lt W1 o ⟨ad.block, ad.off + 10, none⟩ (World.block_lt_of_cell? _ _ g1b)).trans g1b
  have gg2b := fun o => (World.cell?_alloc_lt W1 o ⟨ad.block, ad.off + 11, none⟩ (World.block_lt_of_cell? _ _ g2b)).trans g2b
  have gg3b := fun o => (World.cell?_alloc_lt W1 o ⟨ad.block, ad.off + 12, none⟩ (World.block_lt_of_cell? _ _ g3b)).trans g3b
  have gg4b := fun o => (World.cell?_alloc_lt W1 o ⟨ad.block, ad.off + 13, none⟩ (World.block_lt_of_cell? _ _ g4b)).trans g4b
  have gg5b := fun o => (World.cell?_alloc_lt W1 o ⟨ad.block, ad.off + 14, none⟩ (World.block_lt_of_cell? _ _ g5b)).trans g5b
  have gg6b := fun o => (World.cell?_alloc_lt W1 o ⟨ad.block, ad.off + 15, none⟩ (World.block_lt_of_cell? _ _ g6b)).trans g6b
  have gg7b := fun o => (World.cell?_alloc_lt W1 o ⟨ad.block, ad.off + 16, none⟩ (World.block_lt_of_cell? _ _ g7b)).trans g7b
  have gg8b := fun o => (World.cell?_alloc_lt W1 o ⟨ad.block, ad.off + 17, none⟩ (World.block_lt_of_cell? _ _ g8b)).trans g8b
  clear t0b t1b t2b t3b t4b t5b t6b t7b t8b
  clear h hk hv eW hb1
  go_enter Tryz.func33, Tryz.ntmps33
  go_upto_region 1 with fail
  rw [← EW.out]
  obtain ⟨cP, fP⟩ := blk_rules HP.out
  obtain ⟨cR, fR⟩ := blk_rules HR.out
  have cPa := fun o => (HP.out.alloc o).cell
  go_upto_region 3 with fail
  obtain ⟨W3, eW3⟩ : ∃ W, W = (W1.alloc (.cells #[.int .i64 ka, .int .i64 na, .string sa, .int .i64 a3, .int .i64 a4, .string a5, .slice aA aB aC, .slice aD aE aG, .slice aH la.length aI] 35)).alloc (.cells #[.int .i64 kb, .int .i64 nb, .string sb, .int .i64 b3, .int .i64 b4, .string b5, .slice bA bB bC, .slice bD bE bG, .slice bH lb.length bI] 35) := ⟨_, rfl⟩
  rw [← eW3]
  have HW3 := Lib.hid (show Below w.heap.size w W3 from by rw [eW3]; exact HW.out.trans ((below_box2 W1 _ _).mono (by omega)))
  have HP3 := Lib.hid (show Blk W3 w.heap.size 35 _ from by rw [eW3]; exact (HP.out.alloc _).alloc _)
  have HR3 := Lib.hid (show Blk W3 (w.heap.size + 1) 35 _ from by rw [eW3]; exact (HR.out.alloc _).alloc _)
  have HA3 := Lib.hid (show Blk W3 W1.heap.size 35 [.int .i64 ka, .int .i64 na, .string sa, .int .i64 a3, .int .i64 a4, .string a5, .slice aA aB aC, .slice aD aE aG, .slice aH la.length aI] from by rw [eW3]; exact (Blk.new _ _ _).alloc _)
  have HB3 := Lib.hid (show Blk W3 (W1.heap.size + 1) 35 [.int .i64 kb, .int .i64 nb, .string sb, .int .i64 b3, .int .i64 b4, .string b5, .slice bA bB bC, .slice bD bE bG, .slice bH lb.length bI] from by
    have := Blk.new (W1.alloc (.cells #[.int .i64 ka, .int .i64 na, .string sa, .int .i64 a3, .int .i64 a4, .string a5, .slice aA aB aC, .slice aD aE aG, .slice aH la.length aI] 35)) 35 [.int .i64 kb, .int .i64 nb, .string sb, .int .i64 b3, .int .i64 b4, .string b5, .slice bA bB bC, .slice bD bE bG, .slice bH lb.length bI]
    rw [eW3]
    simpa using this)
  have hz3 : W1.heap.size + 2 = W3.heap.size := by rw [eW3]; simp
  clear eW3 cP fP cR fR cPa g0a gg0a g1a gg1a g2a gg2a g3a gg3a g4a gg4a g5a gg5a g6a gg6a g7a gg7a g8a gg8a g0b gg0b g1b gg1b g2b gg2b g3b gg3b g4b gg4b g5b gg5b g6b gg6b g7b gg7b g8b gg8b
  obtain ⟨cP, fP⟩ := blk_rules HP3.out
  obtain ⟨cR, fR⟩ := blk_rules HR3.out
  obtain ⟨cA, fA⟩ := blk_rules HA3.out
  obtain ⟨cB, fB⟩ := blk_rules HB3.out
  by_cases h1 : ka = 1
  · subst h1
    have HX := Lib.hid (show slimK (.mk 6 n s v [(.mk 1 na sa va la), (.mk kb nb sb vb lb)]) [(.mk 1 na sa va la), (.mk kb nb sb vb lb)] = (.mk kb nb sb vb lb) from by simp [slimK, fKind, fVal])
    go_wp2
    refine bodyPost_ret (v := .agg #[.int .i64 kb, .int .i64 nb, .string sb, .int .i64 b3, .int .i64 b4, .string b5, .slice bA bB bC, .slice bD bE bG, .slice bH lb.length bI]) (by simp [results, Tryz.results33, go_sem, cR]) rfl ?_
    exact pf_end (zs := [.int .i64 kb, .int .i64 nb, .string sb, .int .i64 b3, .int .i64 b4, .string b5, .slice bA bB bC, .slice bD bE bG, .slice bH lb.length bI]) Hb.out HW3.out (Nat.le_add_right _ _) HX.out
  have qh1 : (ka == 1) = false := by simpa using h1
  by_cases h2 : kb = 1
  · subst h2
    have HX := Lib.hid (show slimK (.mk 6 n s v [(.mk ka na sa va la), (.mk 1 nb sb vb lb)]) [(.mk ka na sa va la), (.mk 1 nb sb vb lb)] = (.mk ka na sa va la) from by simp [slimK, fKind, fVal, h1])
    go_wp2
    refine bodyPost_ret (v := .agg #[.int .i64 ka, .int .i64 na, .string sa, .int .i64 a3, .int .i64 a4, .string a5, .slice aA aB aC, .slice aD aE aG, .slice aH la.length aI]) (by simp [results, Tryz.results33, go_sem, cR]) rfl ?_
    exact pf_end (zs := [.int .i64 ka, .int .i64 na, .string sa, .int .i64 a3, .int .i64 a4, .string a5, .slice aA aB aC, .slice aD aE aG, .slice aH la.length aI]) Ha.out HW3.out (Nat.le_add_right _ _) HX.out
  have qh2 : (kb == 1) = false := by simpa using h2
  by_cases h3 : ka = 18
  · subst h3
    have HX := Lib.hid (show slimK (.mk 6 n s v [(.mk 18 na sa va la), (.mk kb nb sb vb lb)]) [(.mk 18 na sa va la), (.mk kb nb sb vb lb)] = (.mk 18 na sa va la) from by simp [slimK, fKind, fVal, h2])
    go_wp2
    refine bodyPost_ret (v := .agg #[.int .i64 18, .int .i64 na, .string sa, .int .i64 a3, .int .i64 a4, .string a5, .slice aA aB aC, .slice aD aE aG, .slice aH la.length aI]) (by simp [results, Tryz.results33, go_sem, cR]) rfl ?_
    exact pf_end (zs := [.int .i64 18, .int .i64 na, .string sa, .int .i64 a3, .int .i64 a4, .string a5, .slice aA aB aC, .slice aD aE aG, .slice aH la.length aI]) Ha.out HW3.out (Nat.le_add_right _ _) HX.out
  have qh3 : (ka == 18) = false := by simpa using h3
  by_cases h4 : ka = 19
  · subst h4
    have HX := Lib.hid (show slimK (.mk 6 n s v [(.mk 19 na sa va la), (.mk kb nb sb vb lb)]) [(.mk 19 na sa va la), (.mk kb nb sb vb lb)] = (.mk 19 na sa va la) from by simp [slimK, fKind, fVal, h2])
    go_wp2
    refine bodyPost_ret (v := .agg #[.int .i64 19, .int .i64 na, .string sa, .int .i64 a3, .int .i64 a4, .string a5, .slice aA aB aC, .slice aD aE aG, .slice aH la.length aI]) (by simp [results, Tryz.results33, go_sem, cR]) rfl ?_
    exact pf_end (zs := [.int .i64 19, .int .i64 na, .string sa, .int .i64 a3, .int .i64 a4, .string a5, .slice aA aB aC, .slice aD aE aG, .slice aH la.length aI]) Ha.out HW3.out (Nat.le_add_right _ _) HX.out
  have qh4 : (ka == 19) = false := by simpa using h4
  have HX := Lib.hid (show slimK (.mk 6 n s v [(.mk ka na sa va la), (.mk kb nb sb vb lb)]) [(.mk ka na sa va la), (.mk kb nb sb vb lb)] = (.mk 6 n s v [(.mk ka na sa va la), (.mk kb nb sb vb lb)]) from by simp [slimK, fKind, fVal, h1, h2, h3, h4])
  go_wp2
  refine bodyPost_ret (v := .agg #[.int .i64 6, .int .i64 n, .string s, .int .i64 f3, .int .i64 f4, .string f5, .slice A6 n6 q6, .slice A7 n7 q7, .slice (some ad) 2 q8]) (by simp [results, Tryz.results33, go_sem, cR]) rfl ?_
  exact pf_end (zs := [.int .i64 6, .int .i64 n, .string s, .int .i64 f3, .int .i64 f4, .string f5, .slice A6 n6 q6, .slice A7 n7 q7, .slice (some ad) 2 q8]) HF.out HW3.out (Nat.le_add_right _ _) HX.out
set_option maxRecDepth 100000 in
set_option maxHeartbeats 8000000 in
theorem both_calls (S : Nat → Prop) (w : World) (hS : ∀ b, w.heap.size ≤ b → S b) (n : Int) (s : ByteArray) (v : Val) (a b : Filt) (us : List Value) (h : RT S w (filtDs (.mk 7 n s v [a, b])) us) :
    Calls Tryz.prog 34 #[.agg us.toArray] w (PF S w (slimK (.mk 7 n s v [a, b]) [a, b])) := by
  obtain ⟨_, _, _, _, _, f3, f4, f5, A6, n6, q6, A7, n7, q7, A8, q8, ex, rfl, hs, hv, hk⟩ := filtDs_all h
  injection ex with e1 e2 e3 e4 e5
  subst e1 e2 e3 e4 e5
  obtain ⟨ada, ya, c0a, c1a, c2a, c3a, c4a, c5a, c6a, c7a, c8a, ea, hya, hga, t0a, t1a, t2a, t3a, t4a, t5a, t6a, t7a, t8a⟩ := rt_at hk rfl (k := 0) (by simp)
  obtain ⟨ad, rfl⟩ : ∃ ad, A8 = some ad := ⟨_, ea⟩
  injection ea with ea
  subst ea
  obtain rfl : a = ya := by simpa using hga
  clear hga
  have Ha := Lib.hid (show RT S w (filtDs a) _ from hya)
  obtain ⟨ka, na, sa, va, la, a3, a4, a5, aA, aB, aC, aD, aE, aG, aH, aI, rfl, eca, -, hva, -⟩ := filtDs_all hya
  simp only [List.cons.injEq, and_true] at eca
  obtain ⟨rfl, rfl, rfl, rfl, rfl, rfl, rfl, rfl, rfl⟩ := eca
  have HVa := Lib.hid hva
  clear hya hva
  obtain ⟨adb, yb, c0b, c1b, c2b, c3b, c4b, c5b, c6b, c7b, c8b, eb, hyb, hgb, t0b, t1b, t2b, t3b, t4b, t5b, t6b, t7b, t8b⟩ := rt_at hk rfl (k := 1) (by simp)
  injection eb with eb
  subst eb
  obtain rfl : b = yb := by simpa using hgb
  clear hgb
  have Hb := Lib.hid (show RT S w (filtDs b) _ from hyb)
  obtain ⟨kb, nb, sb, vb, lb, b3, b4, b5, bA, bB, bC, bD, bE, bG, bH, bI, rfl, ecb, -, hvb, -⟩ := filtDs_all hyb
  simp only [List.cons.injEq, and_true] at ecb
  obtain ⟨rfl, rfl, rfl, rfl, rfl, rfl, rfl, rfl, rfl⟩ := ecb
  have HVb := Lib.hid hvb
  clear hyb hvb
  have HF := Lib.hid h
  obtain ⟨W1, eW⟩ : ∃ W, W = (w.alloc (.cells #[.int .i64 7, .int .i64 n, .string s, .int .i64 f3, .int .i64 f4, .string f5, .slice A6 n6 q6, .slice A7 n7 q7, .slice (some ad) 2 q8] 35)).alloc (.cells #[.int .i64 0, .int .i64 0, .string ⟨#[]⟩, .int .i64 0, .int .i64 0, .string ⟨#[]⟩, .slice none 0 0, .slice none 0 0, .slice none 0 0] 35) := ⟨_, rfl⟩
  have hb1 : Below w.heap.size w W1 := by rw [eW]; exact below_box2 _ _ _
  have HP := Lib.hid (show Blk W1 w.heap.size 35 [.int .i64 7, .int .i64 n, .string s, .int .i64 f3, .int .i64 f4, .string f5, .slice A6 n6 q6, .slice A7 n7 q7, .slice (some ad) 2 q8] by rw [eW]; exact (Blk.new _ _ _).alloc _)
  have HR := Lib.hid (show Blk W1 (w.heap.size + 1) 35 [.int .i64 0, .int .i64 0, .string ⟨#[]⟩, .int .i64 0, .int .i64 0, .string ⟨#[]⟩, .slice none 0 0, .slice none 0 0, .slice none 0 0] by
    have := Blk.new (w.alloc (.cells #[.int .i64 7, .int .i64 n, .string s, .int .i64 f3, .int .i64 f4, .string f5, .slice A6 n6 q6, .slice A7 n7 q7, .slice (some ad) 2 q8] 35)) 35 [.int .i64 0, .int .i64 0, .string ⟨#[]⟩, .int .i64 0, .int .i64 0, .string ⟨#[]⟩, .slice none 0 0, .slice none 0 0, .slice none 0 0]
    rw [eW]
    simpa using this)
  have HW := Lib.hid hb1
  have hz1 : w.heap.size + 2 = W1.heap.size := by rw [eW]; simp
  have EW := Lib.hid eW
  have g0a : W1.cell? ad = some (.int .i64 ka) := by simpa [Addr.add] using cell_below t0a hb1
  have g1a : W1.cell? ⟨ad.block, ad.off + 1, none⟩ = some (.int .i64 na) := by simpa [Addr.add] using cell_below t1a hb1
  have g2a : W1.cell? ⟨ad.block, ad.off + 2, none⟩ = some (.string sa) := by simpa [Addr.add] using cell_below t2a hb1
  have g3a : W1.cell? ⟨ad.block, ad.off + 3, none⟩ = some (.int .i64 a3) := by simpa [Addr.add] using cell_below t3a hb1
  have g4a : W1.cell? ⟨ad.block, ad.off + 4, none⟩ = some (.int .i64 a4) := by simpa [Addr.add] using cell_below t4a hb1
  have g5a : W1.cell? ⟨ad.block, ad.off + 5, none⟩ = some (.string a5) := by simpa [Addr.add] using cell_below t5a hb1
  have g6a : W1.cell? ⟨ad.block, ad.off + 6, none⟩ = some (.slice aA aB aC) := by simpa [Addr.add] using cell_below t6a hb1
  have g7a : W1.cell? ⟨ad.block, ad.off + 7, none⟩ = some (.slice aD aE aG) := by simpa [Addr.add] using cell_below t7a hb1
  have g8a : W1.cell? ⟨ad.block, ad.off + 8, none⟩ = some (.slice aH la.length aI) := by simpa [Addr.add] using cell_below t8a hb1
  have gg0a := fun o => (World.cell?_alloc_lt W1 o ad (World.block_lt_of_cell? _ _ g0a)).trans g0a
  have gg1a := fun o => (World.cell?_alloc_lt W1 o ⟨ad.block, ad.off + 1, none⟩ (World.block_lt_of_cell? _ _ g1a)).trans g1a
  have gg2a := fun o => (World.cell?_alloc_lt W1 o ⟨ad.block, ad.off + 2, none⟩ (World.block_lt_of_cell? _ _ g2a)).trans g2a
  have gg3a := fun o => (World.cell?_alloc_lt W1 o ⟨ad.block, ad.off + 3, none⟩ (World.block_lt_of_cell? _ _ g3a)).trans g3a
  have gg4a := fun o => (World.cell?_alloc_lt W1 o ⟨ad.block, ad.off + 4, none⟩ (World.block_lt_of_cell? _ _ g4a)).trans g4a
  have gg5a := fun o => (World.cell?_alloc_lt W1 o ⟨ad.block, ad.off + 5, none⟩ (World.block_lt_of_cell? _ _ g5a)).trans g5a
  have gg6a := fun o => (World.cell?_alloc_lt W1 o ⟨ad.block, ad.off + 6, none⟩ (World.block_lt_of_cell? _ _ g6a)).trans g6a
  have gg7a := fun o => (World.cell?_alloc_lt W1 o ⟨ad.block, ad.off + 7, none⟩ (World.block_lt_of_cell? _ _ g7a)).trans g7a
  have gg8a := fun o => (World.cell?_alloc_lt W1 o ⟨ad.block, ad.off + 8, none⟩ (World.block_lt_of_cell? _ _ g8a)).trans g8a
  clear t0a t1a t2a t3a t4a t5a t6a t7a t8a
  have g0b : W1.cell? ⟨ad.block, ad.off + 9, none⟩ = some (.int .i64 kb) := by simpa [Addr.add] using cell_below t0b hb1
  have g1b : W1.cell? ⟨ad.block, ad.off + 10, none⟩ = some (.int .i64 nb) := by simpa [Addr.add] using cell_below t1b hb1
  have g2b : W1.cell? ⟨ad.block, ad.off + 11, none⟩ = some (.string sb) := by simpa [Addr.add] using cell_below t2b hb1
  have g3b : W1.cell? ⟨ad.block, ad.off + 12, none⟩ = some (.int .i64 b3) := by simpa [Addr.add] using cell_below t3b hb1
  have g4b : W1.cell? ⟨ad.block, ad.off + 13, none⟩ = some (.int .i64 b4) := by simpa [Addr.add] using cell_below t4b hb1
  have g5b : W1.cell? ⟨ad.block, ad.off + 14, none⟩ = some (.string b5) := by simpa [Addr.add] using cell_below t5b hb1
  have g6b : W1.cell? ⟨ad.block, ad.off + 15, none⟩ = some (.slice bA bB bC) := by simpa [Addr.add] using cell_below t6b hb1
  have g7b : W1.cell? ⟨ad.block, ad.off + 16, none⟩ = some (.slice bD bE bG) := by simpa [Addr.add] using cell_below t7b hb1
  have g8b : W1.cell? ⟨ad.block, ad.off + 17, none⟩ = some (.slice bH lb.length bI) := by simpa [Addr.add] using cell_below t8b hb1
  have gg0b := fun o => (World.cell?_alloc_lt W1 o ⟨ad.block, ad.off + 9, none⟩ (World.block_lt_of_cell? _ _ g0b)).trans g0b
  have gg1b := fun o => (World.cell?_alloc_lt W1 o ⟨ad.block, ad.off + 10, none⟩ (World.block_lt_of_cell? _ _ g1b)).trans g1b
  have gg2b := fun o => (World.cell?_alloc_lt W1 o ⟨ad.block, ad.off + 11, none⟩ (World.block_lt_of_cell? _ _ g2b)).trans g2b
  have gg3b := fun o => (World.cell?_alloc_lt W1 o ⟨ad.block, ad.off + 12, none⟩ (World.block_lt_of_cell? _ _ g3b)).trans g3b
  have gg4b := fun o => (World.cell?_alloc_lt W1 o ⟨ad.block, ad.off + 13, none⟩ (World.block_lt_of_cell? _ _ g4b)).trans g4b
  have gg5b := fun o => (World.cell?_alloc_lt W1 o ⟨ad.block, ad.off + 14, none⟩ (World.block_lt_of_cell? _ _ g5b)).trans g5b
  have gg6b := fun o => (World.cell?_alloc_lt W1 o ⟨ad.block, ad.off + 15, none⟩ (World.block_lt_of_cell? _ _ g6b)).trans g6b
  have gg7b := fun o => (World.cell?_alloc_lt W1 o ⟨ad.block, ad.off + 16, none⟩ (World.block_lt_of_cell? _ _ g7b)).trans g7b
  have gg8b := fun o => (World.cell?_alloc_lt W1 o ⟨ad.block, ad.off + 17, none⟩ (World.block_lt_of_cell? _ _ g8b)).trans g8b
  clear t0b t1b t2b t3b t4b t5b t6b t7b t8b
  clear h hk hv eW hb1
  go_enter Tryz.func34, Tryz.ntmps34
  go_upto_region 1 with fail
  rw [← EW.out]
  obtain ⟨cP, fP⟩ := blk_rules HP.out
  obtain ⟨cR, fR⟩ := blk_rules HR.out
  have cPa := fun o => (HP.out.alloc o).cell
  go_upto_region 3 with fail
  obtain ⟨W3, eW3⟩ : ∃ W, W = (W1.alloc (.cells #[.int .i64 ka, .int .i64 na, .string sa, .int .i64 a3, .int .i64 a4, .string a5, .slice aA aB aC, .slice aD aE aG, .slice aH la.length aI] 35)).alloc (.cells #[.int .i64 kb, .int .i64 nb, .string sb, .int .i64 b3, .int .i64 b4, .string b5, .slice bA bB bC, .slice bD bE bG, .slice bH lb.length bI] 35) := ⟨_, rfl⟩
  rw [← eW3]
  have HW3 := Lib.hid (show Below w.heap.size w W3 from by rw [eW3]; exact HW.out.trans ((below_box2 W1 _ _).mono (by omega)))
  have HP3 := Lib.hid (show Blk W3 w.heap.size 35 _ from by rw [eW3]; exact (HP.out.alloc _).alloc _)
  have HR3 := Lib.hid (show Blk W3 (w.heap.size + 1) 35 _ from by rw [eW3]; exact (HR.out.alloc _).alloc _)
  have HA3 := Lib.hid (show Blk W3 W1.heap.size 35 [.int .i64 ka, .int .i64 na, .string sa, .int .i64 a3, .int .i64 a4, .string a5, .slice aA aB aC, .slice aD aE aG, .slice aH la.length aI] from by rw [eW3]; exact (Blk.new _ _ _).alloc _)
  have HB3 := Lib.hid (show Blk W3 (W1.heap.size + 1) 35 [.int .i64 kb, .int .i64 nb, .string sb, .int .i64 b3, .int .i64 b4, .string b5, .slice bA bB bC, .slice bD bE bG, .slice bH lb.length bI] from by
    have := Blk.new (W1.alloc (.cells #[.int .i64 ka, .int .i64 na, .string sa, .int .i64 a3, .int .i64 a4, .string a5, .slice aA aB aC, .slice aD aE aG, .slice aH la.length aI] 35)) 35 [.int .i64 kb, .int .i64 nb, .string sb, .int .i64 b3, .int .i64 b4, .string b5, .slice bA bB bC, .slice bD bE bG, .slice bH lb.length bI]
    rw [eW3]
    simpa using this)
  have hz3 : W1.heap.size + 2 = W3.heap.size := by rw [eW3]; simp
  clear eW3 cP fP cR fR cPa g0a gg0a g1a gg1a g2a gg2a g3a gg3a g4a gg4a g5a gg5a g6a gg6a g7a gg7a g8a gg8a g0b gg0b g1b gg1b g2b gg2b g3b gg3b g4b gg4b g5b gg5b g6b gg6b g7b gg7b g8b gg8b
  obtain ⟨cP, fP⟩ := blk_rules HP3.out
  obtain ⟨cR, fR⟩ := blk_rules HR3.out
  obtain ⟨cA, fA⟩ := blk_rules HA3.out
  obtain ⟨cB, fB⟩ := blk_rules HB3.out
  by_cases h1 : ka = 18
  · subst h1
    have HX := Lib.hid (show slimK (.mk 7 n s v [(.mk 18 na sa va la), (.mk kb nb sb vb lb)]) [(.mk 18 na sa va la), (.mk kb nb sb vb lb)] = (.mk kb nb sb vb lb) from by simp [slimK, fKind, fVal])
    go_wp2
    refine bodyPost_ret (v := .agg #[.int .i64 kb, .int .i64 nb, .string sb, .int .i64 b3, .int .i64 b4, .string b5, .slice bA bB bC, .slice bD bE bG, .slice bH lb.length bI]) (by simp [results, Tryz.results34, go_sem, cR]) rfl ?_
    exact pf_end (zs := [.int .i64 kb, .int .i64 nb, .string sb, .int .i64 b3, .int .i64 b4, .string b5, .slice bA bB bC, .slice bD bE bG, .slice bH lb.length bI]) Hb.out HW3.out (Nat.le_add_right _ _) HX.out
  have qh1 : (ka == 18) = false := by simpa using h1
  by_cases h2 : kb = 18
  · subst h2
    have HX := Lib.hid (show slimK (.mk 7 n s v [(.mk ka na sa va la), (.mk 18 nb sb vb lb)]) [(.mk ka na sa va la), (.mk 18 nb sb vb lb)] = (.mk ka na sa va la) from by simp [slimK, fKind, fVal, h1])
    go_wp2
    refine bodyPost_ret (v := .agg #[.int .i64 ka, .int .i64 na, .string sa, .int .i64 a3, .int .i64 a4, .string a5, .slice aA aB aC, .slice aD aE aG, .slice aH la.length aI]) (by simp [results, Tryz.results34, go_sem, cR]) rfl ?_
    exact pf_end (zs := [.int .i64 ka, .int .i64 na, .string sa, .int .i64 a3, .int .i64 a4, .string a5, .slice aA aB aC, .slice aD aE aG, .slice aH la.length aI]) Ha.out HW3.out (Nat.le_add_right _ _) HX.out
  have qh2 : (kb == 18) = false := by simpa using h2
  by_cases h4 : ka = 19
  · subst h4
    have HX := Lib.hid (show slimK (.mk 7 n s v [(.mk 19 na sa va la), (.mk kb nb sb vb lb)]) [(.mk 19 na sa va la), (.mk kb nb sb vb lb)] = (.mk 19 na sa va la) from by simp [slimK, fKind, fVal, h2])
    go_wp2
    refine bodyPost_ret (v := .agg #[.int .i64 19, .int .i64 na, .string sa, .int .i64 a3, .int .i64 a4, .string a5, .slice aA aB aC, .slice aD aE aG, .slice aH la.length aI]) (by simp [results, Tryz.results34, go_sem, cR]) rfl ?_
    exact pf_end (zs := [.int .i64 19, .int .i64 na, .string sa, .int .i64 a3, .int .i64 a4, .string a5, .slice aA aB aC, .slice aD aE aG, .slice aH la.length aI]) Ha.out HW3.out (Nat.le_add_right _ _) HX.out
  have qh4 : (ka == 19) = false := by simpa using h4
  have HX := Lib.hid (show slimK (.mk 7 n s v [(.mk ka na sa va la), (.mk kb nb sb vb lb)]) [(.mk ka na sa va la), (.mk kb nb sb vb lb)] = (.mk 7 n s v [(.mk ka na sa va la), (.mk kb nb sb vb lb)]) from by simp [slimK, fKind, fVal, h1, h2, h4])
  go_wp2
  refine bodyPost_ret (v := .agg #[.int .i64 7, .int .i64 n, .string s, .int .i64 f3, .int .i64 f4, .string f5, .slice A6 n6 q6, .slice A7 n7 q7, .slice (some ad) 2 q8]) (by simp [results, Tryz.results34, go_sem, cR]) rfl ?_
  exact pf_end (zs := [.int .i64 7, .int .i64 n, .string s, .int .i64 f3, .int .i64 f4, .string f5, .slice A6 n6 q6, .slice A7 n7 q7, .slice (some ad) 2 q8]) HF.out HW3.out (Nat.le_add_right _ _) HX.out
set_option maxRecDepth 100000 in
set_option maxHeartbeats 8000000 in
theorem if_calls (S : Nat → Prop) (w : World) (hS : ∀ b, w.heap.size ≤ b → S b) (n : Int) (s : ByteArray) (v : Val) (a b c : Filt) (us : List Value) (h : RT S w (filtDs (.mk 8 n s v [a, b, c])) us) :
    Calls Tryz.prog 35 #[.agg us.toArray] w (PF S w (slimK (.mk 8 n s v [a, b, c]) [a, b, c])) := by
  obtain ⟨_, _, _, _, _, f3, f4, f5, A6, n6, q6, A7, n7, q7, A8, q8, ex, rfl, hs, hv, hk⟩ := filtDs_all h
  injection ex with e1 e2 e3 e4 e5
  subst e1 e2 e3 e4 e5
  obtain ⟨ada, ya, c0a, c1a, c2a, c3a, c4a, c5a, c6a, c7a, c8a, ea, hya, hga, t0a, t1a, t2a, t3a, t4a, t5a, t6a, t7a, t8a⟩ := rt_at hk rfl (k := 0) (by simp)
  obtain ⟨ad, rfl⟩ : ∃ ad, A8 = some ad := ⟨_, ea⟩
  injection ea with ea
  subst ea
  obtain rfl : a = ya := by simpa using hga
  clear hga
  have Ha := Lib.hid (show RT S w (filtDs a) _ from hya)
  obtain ⟨ka, na, sa, va, la, a3, a4, a5, aA, aB, aC, aD, aE, aG, aH, aI, rfl, eca, -, hva, -⟩ := filtDs_all hya
  simp only [List.cons.injEq, and_true] at eca
  obtain ⟨rfl, rfl, rfl, rfl, rfl, rfl, rfl, rfl, rfl⟩ := eca
  have HVa := Lib.hid hva
  clear hya hva
  obtain ⟨adb, yb, c0b, c1b, c2b, c3b, c4b, c5b, c6b, c7b, c8b, eb, hyb, hgb, t0b, t1b, t2b, t3b, t4b, t5b, t6b, t7b, t8b⟩ := rt_at hk rfl (k := 1) (by simp)
  injection eb with eb
  subst eb
  obtain rfl : b = yb := by simpa using hgb
  clear hgb
  have Hb := Lib.hid (show RT S w (filtDs b) _ from hyb)
  obtain ⟨kb, nb, sb, vb, lb, b3, b4, b5, bA, bB, bC, bD, bE, bG, bH, bI, rfl, ecb, -, hvb, -⟩ := filtDs_all hyb
  simp only [List.cons.injEq, and_true] at ecb
  obtain ⟨rfl, rfl, rfl, rfl, rfl, rfl, rfl, rfl, rfl⟩ := ecb
  have HVb := Lib.hid hvb
  clear hyb hvb
  obtain ⟨adc, yc, c0c, c1c, c2c, c3c, c4c, c5c, c6c, c7c, c8c, ec, hyc, hgc, t0c, t1c, t2c, t3c, t4c, t5c, t6c, t7c, t8c⟩ := rt_at hk rfl (k := 2) (by simp)
  injection ec with ec
  subst ec
  obtain rfl : c = yc := by simpa using hgc
  clear hgc
  have Hc := Lib.hid (show RT S w (filtDs c) _ from hyc)
  obtain ⟨kc, nc, sc, vc, lc, c3, c4, c5, cA, cB, cC, cD, cE, cG, cH, cI, rfl, ecc, -, hvc, -⟩ := filtDs_all hyc
  simp only [List.cons.injEq, and_true] at ecc
  obtain ⟨rfl, rfl, rfl, rfl, rfl, rfl, rfl, rfl, rfl⟩ := ecc
  have HVc := Lib.hid hvc
  clear hyc hvc
  have HF := Lib.hid h
  obtain ⟨W1, eW⟩ : ∃ W, W = (w.alloc (.cells #[.int .i64 8, .int .i64 n, .string s, .int .i64 f3, .int .i64 f4, .string f5, .slice A6 n6 q6, .slice A7 n7 q7, .slice (some ad) 3 q8] 35)).alloc (.cells #[.int .i64 0, .int .i64 0, .string ⟨#[]⟩, .int .i64 0, .int .i64 0, .string ⟨#[]⟩, .slice none 0 0, .slice none 0 0, .slice none 0 0] 35) := ⟨_, rfl⟩
  have hb1 : Below w.heap.size w W1 := by rw [eW]; exact below_box2 _ _ _
  have HP := Lib.hid (show Blk W1 w.heap.size 35 [.int .i64 8, .int .i64 n, .string s, .int .i64 f3, .int .i64 f4, .string f5, .slice A6 n6 q6, .slice A7 n7 q7, .slice (some ad) 3 q8] by rw [eW]; exact (Blk.new _ _ _).alloc _)
  have HR := Lib.hid (show Blk W1 (w.heap.size + 1) 35 [.int .i64 0, .int .i64 0, .string ⟨#[]⟩, .int .i64 0, .int .i64 0, .string ⟨#[]⟩, .slice none 0 0, .slice none 0 0, .slice none 0 0] by
    have := Blk.new (w.alloc (.cells #[.int .i64 8, .int .i64 n, .string s, .int .i64 f3, .int .i64 f4, .string f5, .slice A6 n6 q6, .slice A7 n7 q7, .slice (some ad) 3 q8] 35)) 35 [.int .i64 0, .int .i64 0, .string ⟨#[]⟩, .int .i64 0, .int .i64 0, .string ⟨#[]⟩, .slice none 0 0, .slice none 0 0, .slice none 0 0]
    rw [eW]
    simpa using this)
  have HW := Lib.hid hb1
  have hz1 : w.heap.size + 2 = W1.heap.size := by rw [eW]; simp
  have EW := Lib.hid eW
  have g0a : W1.cell? ad = some (.int .i64 ka) := by simpa [Addr.add] using cell_below t0a hb1
  have g1a : W1.cell? ⟨ad.block, ad.off + 1, none⟩ = some (.int .i64 na) := by simpa [Addr.add] using cell_below t1a hb1
  have g2a : W1.cell? ⟨ad.block, ad.off + 2, none⟩ = some (.string sa) := by simpa [Addr.add] using cell_below t2a hb1
  have g3a : W1.cell? ⟨ad.block, ad.off + 3, none⟩ = some (.int .i64 a3) := by simpa [Addr.add] using cell_below t3a hb1
  have g4a : W1.cell? ⟨ad.block, ad.off + 4, none⟩ = some (.int .i64 a4) := by simpa [Addr.add] using cell_below t4a hb1
  have g5a : W1.cell? ⟨ad.block, ad.off + 5, none⟩ = some (.string a5) := by simpa [Addr.add] using cell_below t5a hb1
  have g6a : W1.cell? ⟨ad.block, ad.off + 6, none⟩ = some (.slice aA aB aC) := by simpa [Addr.add] using cell_below t6a hb1
  have g7a : W1.cell? ⟨ad.block, ad.off + 7, none⟩ = some (.slice aD aE aG) := by simpa [Addr.add] using cell_below t7a hb1
  have g8a : W1.cell? ⟨ad.block, ad.off + 8, none⟩ = some (.slice aH la.length aI) := by simpa [Addr.add] using cell_below t8a hb1
  clear t0a t1a t2a t3a t4a t5a t6a t7a t8a
  have g0b : W1.cell? ⟨ad.block, ad.off + 9, none⟩ = some (.int .i64 kb) := by simpa [Addr.add] using cell_below t0b hb1
  have g1b : W1.cell? ⟨ad.block, ad.off + 10, none⟩ = some (.int .i64 nb) := by simpa [Addr.add] using cell_below t1b hb1
  have g2b : W1.cell? ⟨ad.block, ad.off + 11, none⟩ = some (.string sb) := by simpa [Addr.add] using cell_below t2b hb1
  have g3b : W1.cell? ⟨ad.block, ad.off + 12, none⟩ = some (.int .i64 b3) := by simpa [Addr.add] using cell_below t3b hb1
  have g4b : W1.cell? ⟨ad.block, ad.off + 13, none⟩ = some (.int .i64 b4) := by simpa [Addr.add] using cell_below t4b hb1
  have g5b : W1.cell? ⟨ad.block, ad.off + 14, none⟩ = some (.string b5) := by simpa [Addr.add] using cell_below t5b hb1
  have g6b : W1.cell? ⟨ad.block, ad.off + 15, none⟩ = some (.slice bA bB bC) := by simpa [Addr.add] using cell_below t6b hb1
  have g7b : W1.cell? ⟨ad.block, ad.off + 16, none⟩ = some (.slice bD bE bG) := by simpa [Addr.add] using cell_below t7b hb1
  have g8b : W1.cell? ⟨ad.block, ad.off + 17, none⟩ = some (.slice bH lb.length bI) := by simpa [Addr.add] using cell_below t8b hb1
  clear t0b t1b t2b t3b t4b t5b t6b t7b t8b
  have g0c : W1.cell? ⟨ad.block, ad.off + 18, none⟩ = some (.int .i64 kc) := by simpa [Addr.add] using cell_below t0c hb1
  have g1c : W1.cell? ⟨ad.block, ad.off + 19, none⟩ = some (.int .i64 nc) := by simpa [Addr.add] using cell_below t1c hb1
  have g2c : W1.cell? ⟨ad.block, ad.off + 20, none⟩ = some (.string sc) := by simpa [Addr.add] using cell_below t2c hb1
  have g3c : W1.cell? ⟨ad.block, ad.off + 21, none⟩ = some (.int .i64 c3) := by simpa [Addr.add] using cell_below t3c hb1
  have g4c : W1.cell? ⟨ad.block, ad.off + 22, none⟩ = some (.int .i64 c4) := by simpa [Addr.add] using cell_below t4c hb1
  have g5c : W1.cell? ⟨ad.block, ad.off + 23, none⟩ = some (.string c5) := by simpa [Addr.add] using cell_below t5c hb1
  have g6c : W1.cell? ⟨ad.block, ad.off + 24, none⟩ = some (.slice cA cB cC) := by simpa [Addr.add] using cell_below t6c hb1
  have g7c : W1.cell? ⟨ad.block, ad.off + 25, none⟩ = some (.slice cD cE cG) := by simpa [Addr.add] using cell_below t7c hb1
  have g8c : W1.cell? ⟨ad.block, ad.off + 26, none⟩ = some (.slice cH lc.length cI) := by simpa [Addr.add] using cell_below t8c hb1
  clear t0c t1c t2c t3c t4c t5c t6c t7c t8c
  clear h hk hv eW hb1
  go_enter Tryz.func35, Tryz.ntmps35
  go_upto_region 1 with fail
  rw [← EW.out]
  obtain ⟨cP, fP⟩ := blk_rules HP.out
  obtain ⟨cR, fR⟩ := blk_rules HR.out
  by_cases h1 : ka = 18
  · subst h1
    have HX := Lib.hid (show slimK (.mk 8 n s v [(.mk 18 na sa va la), (.mk kb nb sb vb lb), (.mk kc nc sc vc lc)]) [(.mk 18 na sa va la), (.mk kb nb sb vb lb), (.mk kc nc sc vc lc)] = (.mk 18 na sa va la) from by simp [slimK, fKind, fVal])
    go_wp2
    refine bodyPost_ret (v := .agg #[.int .i64 18, .int .i64 na, .string sa, .int .i64 a3, .int .i64 a4, .string a5, .slice aA aB aC, .slice aD aE aG, .slice aH la.length aI]) (by simp [results, Tryz.results35, go_sem, cR]) rfl ?_
    exact pf_end (zs := [.int .i64 18, .int .i64 na, .string sa, .int .i64 a3, .int .i64 a4, .string a5, .slice aA aB aC, .slice aD aE aG, .slice aH la.length aI]) Ha.out HW.out (Nat.le_add_right _ _) HX.out
  have qh1 : (ka == 18) = false := by simpa using h1
  by_cases h2 : ka = 19
  · subst h2
    have HX := Lib.hid (show slimK (.mk 8 n s v [(.mk 19 na sa va la), (.mk kb nb sb vb lb), (.mk kc nc sc vc lc)]) [(.mk 19 na sa va la), (.mk kb nb sb vb lb), (.mk kc nc sc vc lc)] = (.mk 19 na sa va la) from by simp [slimK, fKind, fVal])
    go_wp2
    refine bodyPost_ret (v := .agg #[.int .i64 19, .int .i64 na, .string sa, .int .i64 a3, .int .i64 a4, .string a5, .slice aA aB aC, .slice aD aE aG, .slice aH la.length aI]) (by simp [results, Tryz.results35, go_sem, cR]) rfl ?_
    exact pf_end (zs := [.int .i64 19, .int .i64 na, .string sa, .int .i64 a3, .int .i64 a4, .string a5, .slice aA aB aC, .slice aD aE aG, .slice aH la.length aI]) Ha.out HW.out (Nat.le_add_right _ _) HX.out
  have qh2 : (ka == 19) = false := by simpa using h2
  by_cases h3 : ka = 2
  · subst h3
    go_wp2_with fail
    refine (sOn_calls va [_, _, _, _, _] _ w.heap.size (RDv.grow (Nat.le_refl _) ((thin_sub _ S w).trans (Sub.of_below HW.out)) _ _ HVa.out)).mono ?_
    rintro e W2 ⟨r, rfl, hr, hb2⟩
    have HW2 := Lib.hid (HW.out.trans (hb2.mono HW.out.size))
    have HR2 := Lib.hid (HR.out.below hb2)
    have HP2 := Lib.hid (HP.out.below hb2)
    have m0b := cell_below g0b hb2
    have m1b := cell_below g1b hb2
    have m2b := cell_below g2b hb2
    have m3b := cell_below g3b hb2
    have m4b := cell_below g4b hb2
    have m5b := cell_below g5b hb2
    have m6b := cell_below g6b hb2
    have m7b := cell_below g7b hb2
    have m8b := cell_below g8b hb2
    have m0c := cell_below g0c hb2
    have m1c := cell_below g1c hb2
    have m2c := cell_below g2c hb2
    have m3c := cell_below g3c hb2
    have m4c := cell_below g4c hb2
    have m5c := cell_below g5c hb2
    have m6c := cell_below g6c hb2
    have m7c := cell_below g7c hb2
    have m8c := cell_below g8c hb2
    have m0a := cell_below g0a hb2
    clear hb2 cP fP cR fR g0a g1a g2a g3a g4a g5a g6a g7a g8a g0b g1b g2b g3b g4b g5b g6b g7b g8b g0c g1c g2c g3c g4c g5c g6c g7c g8c
    obtain ⟨cP, fP⟩ := blk_rules HP2.out
    obtain ⟨cR, fR⟩ := blk_rules HR2.out
    cases r with
    | true =>
      have hon : onV va := hr.1 rfl
      clear hr
      have HX := Lib.hid (show slimK (.mk 8 n s v [(.mk 2 na sa va la), (.mk kb nb sb vb lb), (.mk kc nc sc vc lc)]) [(.mk 2 na sa va la), (.mk kb nb sb vb lb), (.mk kc nc sc vc lc)] = (.mk kb nb sb vb lb) from by simp [slimK, fKind, fVal, hon])
      clear hon
      go_wp2
      refine bodyPost_ret (v := .agg #[.int .i64 kb, .int .i64 nb, .string sb, .int .i64 b3, .int .i64 b4, .string b5, .slice bA bB bC, .slice bD bE bG, .slice bH lb.length bI]) (by simp [results, Tryz.results35, go_sem, cR]) rfl ?_
      exact pf_end (zs := [.int .i64 kb, .int .i64 nb, .string sb, .int .i64 b3, .int .i64 b4, .string b5, .slice bA bB bC, .slice bD bE bG, .slice bH lb.length bI]) Hb.out HW2.out (Nat.le_add_right _ _) HX.out
    | false =>
      have hon : ¬ onV va := fun h => by have := hr.2 h; cases this
      clear hr
      have HX := Lib.hid (show slimK (.mk 8 n s v [(.mk 2 na sa va la), (.mk kb nb sb vb lb), (.mk kc nc sc vc lc)]) [(.mk 2 na sa va la), (.mk kb nb sb vb lb), (.mk kc nc sc vc lc)] = (.mk kc nc sc vc lc) from by simp [slimK, fKind, fVal, hon])
      clear hon
      go_wp2
      refine bodyPost_ret (v := .agg #[.int .i64 kc, .int .i64 nc, .string sc, .int .i64 c3, .int .i64 c4, .string c5, .slice cA cB cC, .slice cD cE cG, .slice cH lc.length cI]) (by simp [results, Tryz.results35, go_sem, cR]) rfl ?_
      exact pf_end (zs := [.int .i64 kc, .int .i64 nc, .string sc, .int .i64 c3, .int .i64 c4, .string c5, .slice cA cB cC, .slice cD cE cG, .slice cH lc.length cI]) Hc.out HW2.out (Nat.le_add_right _ _) HX.out
  have qh3 : (ka == 2) = false := by simpa using h3
  have HX := Lib.hid (show slimK (.mk 8 n s v [(.mk ka na sa va la), (.mk kb nb sb vb lb), (.mk kc nc sc vc lc)]) [(.mk ka na sa va la), (.mk kb nb sb vb lb), (.mk kc nc sc vc lc)] = (.mk 8 n s v [(.mk ka na sa va la), (.mk kb nb sb vb lb), (.mk kc nc sc vc lc)]) from by simp [slimK, fKind, fVal, h1, h2, h3])
  go_wp2
  refine bodyPost_ret (v := .agg #[.int .i64 8, .int .i64 n, .string s, .int .i64 f3, .int .i64 f4, .string f5, .slice A6 n6 q6, .slice A7 n7 q7, .slice (some ad) 3 q8]) (by simp [results, Tryz.results35, go_sem, cR]) rfl ?_
  exact pf_end (zs := [.int .i64 8, .int .i64 n, .string s, .int .i64 f3, .int .i64 f4, .string f5, .slice A6 n6 q6, .slice A7 n7 q7, .slice (some ad) 3 q8]) HF.out HW.out (Nat.le_add_right _ _) HX.out
set_option maxRecDepth 100000 in
set_option maxHeartbeats 8000000 in
theorem two_calls (S : Nat → Prop) (w : World) (hS : ∀ b, w.heap.size ≤ b → S b) (kind n : Int) (s : ByteArray) (v : Val) (a b : Filt) (us : List Value) (h : RT S w (filtDs (.mk kind n s v [a, b])) us) (hkind : kind = 9 ∨ kind = 10 ∨ kind = 11) (oa : ValOk (fVal a)) (ob : ValOk (fVal b)) :
    Calls Tryz.prog 36 #[.agg us.toArray] w (PF S w (slimK (.mk kind n s v [a, b]) [a, b])) := by
  obtain ⟨_, _, _, _, _, f3, f4, f5, A6, n6, q6, A7, n7, q7, A8, q8, ex, rfl, hs, hv, hk⟩ := filtDs_all h
  injection ex with e1 e2 e3 e4 e5
  subst e1 e2 e3 e4 e5
  obtain ⟨ada, ya, c0a, c1a, c2a, c3a, c4a, c5a, c6a, c7a, c8a, ea, hya, hga, t0a, t1a, t2a, t3a, t4a, t5a, t6a, t7a, t8a⟩ := rt_at hk rfl (k := 0) (by simp)
  obtain ⟨ad, rfl⟩ : ∃ ad, A8 = some ad := ⟨_, ea⟩
  injection ea with ea
  subst ea
  obtain rfl : a = ya := by simpa using hga
  clear hga
  have Ha := Lib.hid (show RT S w (filtDs a) _ from hya)
  obtain ⟨ka, na, sa, va, la, a3, a4, a5, aA, aB, aC, aD, aE, aG, aH, aI, rfl, eca, -, hva, -⟩ := filtDs_all hya
  simp only [List.cons.injEq, and_true] at eca
  obtain ⟨rfl, rfl, rfl, rfl, rfl, rfl, rfl, rfl, rfl⟩ := eca
  have HVa := Lib.hid hva
  clear hya hva
  obtain ⟨adb, yb, c0b, c1b, c2b, c3b, c4b, c5b, c6b, c7b, c8b, eb, hyb, hgb, t0b, t1b, t2b, t3b, t4b, t5b, t6b, t7b, t8b⟩ := rt_at hk rfl (k := 1) (by simp)
  injection eb with eb
  subst eb
  obtain rfl : b = yb := by simpa using hgb
  clear hgb
  have Hb := Lib.hid (show RT S w (filtDs b) _ from hyb)
  obtain ⟨kb, nb, sb, vb, lb, b3, b4, b5, bA, bB, bC, bD, bE, bG, bH, bI, rfl, ecb, -, hvb, -⟩ := filtDs_all hyb
  simp only [List.cons.injEq, and_true] at ecb
  obtain ⟨rfl, rfl, rfl, rfl, rfl, rfl, rfl, rfl, rfl⟩ := ecb
  have HVb := Lib.hid hvb
  clear hyb hvb
  have HF := Lib.hid h
  obtain ⟨W1, eW⟩ : ∃ W, W = (w.alloc (.cells #[.int .i64 kind, .int .i64 n, .string s, .int .i64 f3, .int .i64 f4, .string f5, .slice A6 n6 q6, .slice A7 n7 q7, .slice (some ad) 2 q8] 35)).alloc (.cells #[.int .i64 0, .int .i64 0, .string ⟨#[]⟩, .int .i64 0, .int .i64 0, .string ⟨#[]⟩, .slice none 0 0, .slice none 0 0, .slice none 0 0] 35) := ⟨_, rfl⟩
  have hb1 : Below w.heap.size w W1 := by rw [eW]; exact below_box2 _ _ _
  have HP := Lib.hid (show Blk W1 w.heap.size 35 [.int .i64 kind, .int .i64 n, .string s, .int .i64 f3, .int .i64 f4, .string f5, .slice A6 n6 q6, .slice A7 n7 q7, .slice (some ad) 2 q8] by rw [eW]; exact (Blk.new _ _ _).alloc _)
  have HR := Lib.hid (show Blk W1 (w.heap.size + 1) 35 [.int .i64 0, .int .i64 0, .string ⟨#[]⟩, .int .i64 0, .int .i64 0, .string ⟨#[]⟩, .slice none 0 0, .slice none 0 0, .slice none 0 0] by
    have := Blk.new (w.alloc (.cells #[.int .i64 kind, .int .i64 n, .string s, .int .i64 f3, .int .i64 f4, .string f5, .slice A6 n6 q6, .slice A7 n7 q7, .slice (some ad) 2 q8] 35)) 35 [.int .i64 0, .int .i64 0, .string ⟨#[]⟩, .int .i64 0, .int .i64 0, .string ⟨#[]⟩, .slice none 0 0, .slice none 0 0, .slice none 0 0]
    rw [eW]
    simpa using this)
  have HW := Lib.hid hb1
  have hz1 : w.heap.size + 2 = W1.heap.size := by rw [eW]; simp
  have EW := Lib.hid eW
  have g0a : W1.cell? ad = some (.int .i64 ka) := by simpa [Addr.add] using cell_below t0a hb1
  have g1a : W1.cell? ⟨ad.block, ad.off + 1, none⟩ = some (.int .i64 na) := by simpa [Addr.add] using cell_below t1a hb1
  have g2a : W1.cell? ⟨ad.block, ad.off + 2, none⟩ = some (.string sa) := by simpa [Addr.add] using cell_below t2a hb1
  have g3a : W1.cell? ⟨ad.block, ad.off + 3, none⟩ = some (.int .i64 a3) := by simpa [Addr.add] using cell_below t3a hb1
  have g4a : W1.cell? ⟨ad.block, ad.off + 4, none⟩ = some (.int .i64 a4) := by simpa [Addr.add] using cell_below t4a hb1
  have g5a : W1.cell? ⟨ad.block, ad.off + 5, none⟩ = some (.string a5) := by simpa [Addr.add] using cell_below t5a hb1
  have g6a : W1.cell? ⟨ad.block, ad.off + 6, none⟩ = some (.slice aA aB aC) := by simpa [Addr.add] using cell_below t6a hb1
  have g7a : W1.cell? ⟨ad.block, ad.off + 7, none⟩ = some (.slice aD aE aG) := by simpa [Addr.add] using cell_below t7a hb1
  have g8a : W1.cell? ⟨ad.block, ad.off + 8, none⟩ = some (.slice aH la.length aI) := by simpa [Addr.add] using cell_below t8a hb1
  have gg0a := fun o => (World.cell?_alloc_lt W1 o ad (World.block_lt_of_cell? _ _ g0a)).trans g0a
  have gg1a := fun o => (World.cell?_alloc_lt W1 o ⟨ad.block, ad.off + 1, none⟩ (World.block_lt_of_cell? _ _ g1a)).trans g1a
  have gg2a := fun o => (World.cell?_alloc_lt W1 o ⟨ad.block, ad.off + 2, none⟩ (World.block_lt_of_cell? _ _ g2a)).trans g2a
  have gg3a := fun o => (World.cell?_alloc_lt W1 o ⟨ad.block, ad.off + 3, none⟩ (World.block_lt_of_cell? _ _ g3a)).trans g3a
  have gg4a := fun o => (World.cell?_alloc_lt W1 o ⟨ad.block, ad.off + 4, none⟩ (World.block_lt_of_cell? _ _ g4a)).trans g4a
  have gg5a := fun o => (World.cell?_alloc_lt W1 o ⟨ad.block, ad.off + 5, none⟩ (World.block_lt_of_cell? _ _ g5a)).trans g5a
  have gg6a := fun o => (World.cell?_alloc_lt W1 o ⟨ad.block, ad.off + 6, none⟩ (World.block_lt_of_cell? _ _ g6a)).trans g6a
  have gg7a := fun o => (World.cell?_alloc_lt W1 o ⟨ad.block, ad.off + 7, none⟩ (World.block_lt_of_cell? _ _ g7a)).trans g7a
  have gg8a := fun o => (World.cell?_alloc_lt W1 o ⟨ad.block, ad.off + 8, none⟩ (World.block_lt_of_cell? _ _ g8a)).trans g8a
  clear t0a t1a t2a t3a t4a t5a t6a t7a t8a
  have g0b : W1.cell? ⟨ad.block, ad.off + 9, none⟩ = some (.int .i64 kb) := by simpa [Addr.add] using cell_below t0b hb1
  have g1b : W1.cell? ⟨ad.block, ad.off + 10, none⟩ = some (.int .i64 nb) := by simpa [Addr.add] using cell_below t1b hb1
  have g2b : W1.cell? ⟨ad.block, ad.off + 11, none⟩ = some (.string sb) := by simpa [Addr.add] using cell_below t2b hb1
  have g3b : W1.cell? ⟨ad.block, ad.off + 12, none⟩ = some (.int .i64 b3) := by simpa [Addr.add] using cell_below t3b hb1
  have g4b : W1.cell? ⟨ad.block, ad.off + 13, none⟩ = some (.int .i64 b4) := by simpa [Addr.add] using cell_below t4b hb1
  have g5b : W1.cell? ⟨ad.block, ad.off + 14, none⟩ = some (.string b5) := by simpa [Addr.add] using cell_below t5b hb1
  have g6b : W1.cell? ⟨ad.block, ad.off + 15, none⟩ = some (.slice bA bB bC) := by simpa [Addr.add] using cell_below t6b hb1
  have g7b : W1.cell? ⟨ad.block, ad.off + 16, none⟩ = some (.slice bD bE bG) := by simpa [Addr.add] using cell_below t7b hb1
  have g8b : W1.cell? ⟨ad.block, ad.off + 17, none⟩ = some (.slice bH lb.length bI) := by simpa [Addr.add] using cell_below t8b hb1
  have gg0b := fun o => (World.cell?_alloc_lt W1 o ⟨ad.block, ad.off + 9, none⟩ (World.block_lt_of_cell? _ _ g0b)).trans g0b
  have gg1b := fun o => (World.cell?_alloc_lt W1 o ⟨ad.block, ad.off + 10, none⟩ (World.block_lt_of_cell? _ _ g1b)).trans g1b
  have gg2b := fun o => (World.cell?_alloc_lt W1 o ⟨ad.block, ad.off + 11, none⟩ (World.block_lt_of_cell? _ _ g2b)).trans g2b
  have gg3b := fun o => (World.cell?_alloc_lt W1 o ⟨ad.block, ad.off + 12, none⟩ (World.block_lt_of_cell? _ _ g3b)).trans g3b
  have gg4b := fun o => (World.cell?_alloc_lt W1 o ⟨ad.block, ad.off + 13, none⟩ (World.block_lt_of_cell? _ _ g4b)).trans g4b
  have gg5b := fun o => (World.cell?_alloc_lt W1 o ⟨ad.block, ad.off + 14, none⟩ (World.block_lt_of_cell? _ _ g5b)).trans g5b
  have gg6b := fun o => (World.cell?_alloc_lt W1 o ⟨ad.block, ad.off + 15, none⟩ (World.block_lt_of_cell? _ _ g6b)).trans g6b
  have gg7b := fun o => (World.cell?_alloc_lt W1 o ⟨ad.block, ad.off + 16, none⟩ (World.block_lt_of_cell? _ _ g7b)).trans g7b
  have gg8b := fun o => (World.cell?_alloc_lt W1 o ⟨ad.block, ad.off + 17, none⟩ (World.block_lt_of_cell? _ _ g8b)).trans g8b
  clear t0b t1b t2b t3b t4b t5b t6b t7b t8b
  clear h hk hv eW hb1
  go_enter Tryz.func36, Tryz.ntmps36
  go_upto_region 1 with fail
  rw [← EW.out]
  obtain ⟨cP, fP⟩ := blk_rules HP.out
  obtain ⟨cR, fR⟩ := blk_rules HR.out
  have cPa := fun o => (HP.out.alloc o).cell
  go_upto_region 3 with fail
  obtain ⟨W3, eW3⟩ : ∃ W, W = (W1.alloc (.cells #[.int .i64 ka, .int .i64 na, .string sa, .int .i64 a3, .int .i64 a4, .string a5, .slice aA aB aC, .slice aD aE aG, .slice aH la.length aI] 35)).alloc (.cells #[.int .i64 kb, .int .i64 nb, .string sb, .int .i64 b3, .int .i64 b4, .string b5, .slice bA bB bC, .slice bD bE bG, .slice bH lb.length bI] 35) := ⟨_, rfl⟩
  rw [← eW3]
  have HW3 := Lib.hid (show Below w.heap.size w W3 from by rw [eW3]; exact HW.out.trans ((below_box2 W1 _ _).mono (by omega)))
  have HP3 := Lib.hid (show Blk W3 w.heap.size 35 _ from by rw [eW3]; exact (HP.out.alloc _).alloc _)
  have HR3 := Lib.hid (show Blk W3 (w.heap.size + 1) 35 _ from by rw [eW3]; exact (HR.out.alloc _).alloc _)
  have HA3 := Lib.hid (show Blk W3 W1.heap.size 35 [.int .i64 ka, .int .i64 na, .string sa, .int .i64 a3, .int .i64 a4, .string a5, .slice aA aB aC, .slice aD aE aG, .slice aH la.length aI] from by rw [eW3]; exact (Blk.new _ _ _).alloc _)
  have HB3 := Lib.hid (show Blk W3 (W1.heap.size + 1) 35 [.int .i64 kb, .int .i64 nb, .string sb, .int .i64 b3, .int .i64 b4, .string b5, .slice bA bB bC, .slice bD bE bG, .slice bH lb.length bI] from by
    have := Blk.new (W1.alloc (.cells #[.int .i64 ka, .int .i64 na, .string sa, .int .i64 a3, .int .i64 a4, .string a5, .slice aA aB aC, .slice aD aE aG, .slice aH la.length aI] 35)) 35 [.int .i64 kb, .int .i64 nb, .string sb, .int .i64 b3, .int .i64 b4, .string b5, .slice bA bB bC, .slice bD bE bG, .slice bH lb.length bI]
    rw [eW3]
    simpa using this)
  have hz3 : W1.heap.size + 2 = W3.heap.size := by rw [eW3]; simp
  clear eW3 cP fP cR fR cPa g0a gg0a g1a gg1a g2a gg2a g3a gg3a g4a gg4a g5a gg5a g6a gg6a g7a gg7a g8a gg8a g0b gg0b g1b gg1b g2b gg2b g3b gg3b g4b gg4b g5b gg5b g6b gg6b g7b gg7b g8b gg8b
  obtain ⟨cP, fP⟩ := blk_rules HP3.out
  obtain ⟨cR, fR⟩ := blk_rules HR3.out
  obtain ⟨cA, fA⟩ := blk_rules HA3.out
  obtain ⟨cB, fB⟩ := blk_rules HB3.out
  have hk6 : ¬ kind = 6 := by omega
  have hk7 : ¬ kind = 7 := by omega
  have hk8 : ¬ kind = 8 := by omega
  by_cases h1 : ka ≠ 2
  · skip
    have HX := Lib.hid (show slimK (.mk kind n s v [(.mk ka na sa va la), (.mk kb nb sb vb lb)]) [(.mk ka na sa va la), (.mk kb nb sb vb lb)] = (.mk kind n s v [(.mk ka na sa va la), (.mk kb nb sb vb lb)]) from by simp [slimK, fKind, fVal, hk6, hk7, hk8, hkind, h1])
    go_wp2
    refine bodyPost_ret (v := .agg #[.int .i64 kind, .int .i64 n, .string s, .int .i64 f3, .int .i64 f4, .string f5, .slice A6 n6 q6, .slice A7 n7 q7, .slice (some ad) 2 q8]) (by simp [results, Tryz.results36, go_sem, cR]) rfl ?_
    exact pf_end (zs := [.int .i64 kind, .int .i64 n, .string s, .int .i64 f3, .int .i64 f4, .string f5, .slice A6 n6 q6, .slice A7 n7 q7, .slice (some ad) 2 q8]) HF.out HW3.out (Nat.le_add_right _ _) HX.out
  by_cases h2 : kb ≠ 2
  · skip
    have HX := Lib.hid (show slimK (.mk kind n s v [(.mk ka na sa va la), (.mk kb nb sb vb lb)]) [(.mk ka na sa va la), (.mk kb nb sb vb lb)] = (.mk kind n s v [(.mk ka na sa va la), (.mk kb nb sb vb lb)]) from by simp [slimK, fKind, fVal, hk6, hk7, hk8, hkind, h2])
    go_wp2
    refine bodyPost_ret (v := .agg #[.int .i64 kind, .int .i64 n, .string s, .int .i64 f3, .int .i64 f4, .string f5, .slice A6 n6 q6, .slice A7 n7 q7, .slice (some ad) 2 q8]) (by simp [results, Tryz.results36, go_sem, cR]) rfl ?_
    exact pf_end (zs := [.int .i64 kind, .int .i64 n, .string s, .int .i64 f3, .int .i64 f4, .string f5, .slice A6 n6 q6, .slice A7 n7 q7, .slice (some ad) 2 q8]) HF.out HW3.out (Nat.le_add_right _ _) HX.out
  obtain rfl : ka = 2 := Classical.not_not.1 h1
  obtain rfl : kb = 2 := Classical.not_not.1 h2
  have HK := Lib.hid (slimK_two (n := n) (na := na) (nb := nb) (s := s) (sa := sa) (sb := sb) (v := v) (va := va) (vb := vb) (la := la) (lb := lb) hkind)
  clear hk6 hk7 hk8
  have HU := Lib.hid (show Sub w.heap.size (thin S w) W3 from (thin_sub _ S w).trans (Sub.of_below HW3.out))
  have hzw := HW3.out.size
  go_wp2_with fail
  refine (sTwo_calls kind va vb [_, _, _, _, _] [_, _, _, _, _] _ w.heap.size hzw (RDv.grow (Nat.le_refl _) HU.out _ _ HVa.out) (RDv.grow (Nat.le_refl _) HU.out _ _ HVb.out) oa ob hkind).mono ?_
  intro e W4 hP
  obtain ⟨u, d0, d1, d2, A9, n9, c9, A10, n10, c10, fp, hu, rfl, HO, HFr, hb4⟩ | ⟨hn, rfl, hb4⟩ := hP.split
  · have HX := Lib.hid (HK.out.1 u hu)
    have HW4 := Lib.hid (HW3.out.trans (hb4.mono hzw))
    have HR4 := Lib.hid (HR3.out.below hb4)
    have hz4 := hb4.size
    have HRT := Lib.hid (show RT (fun b => W3.heap.size ≤ b) W4 (filtDs (fLit u)) [.int .i64 2, .int .i64 0, .string ⟨#[]⟩, .int .i64 d0, .int .i64 d1, .string d2, .slice A9 n9 c9, .slice A10 n10 c10, .slice none 0 0] from rdf_lit (vs := [.int .i64 d0, .int .i64 d1, .string d2, .slice A9 n9 c9, .slice A10 n10 c10]) (RT.of_od HO.out fun b hb => (HFr.out.2 b hb).1))
    clear hb4 cP fP cR fR cA fA cB fB
    obtain ⟨cR, fR⟩ := blk_rules HR4.out
    have HR5 := fun o => (HR4.out.alloc o)
    have cRa := fun o => (HR5 o).cell
    have fRa := fun o => (HR5 o).frozen
    go_wp2
    refine bodyPost_ret (v := .agg #[.int .i64 2, .int .i64 0, .string ⟨#[]⟩, .int .i64 d0, .int .i64 d1, .string d2, .slice A9 n9 c9, .slice A10 n10 c10, .slice none 0 0]) (by simp [results, Tryz.results36, go_sem, cR, cRa]) rfl ?_
    exact pf_far (zs := [.int .i64 2, .int .i64 0, .string ⟨#[]⟩, .int .i64 d0, .int .i64 d1, .string d2, .slice A9 n9 c9, .slice A10 n10 c10, .slice none 0 0]) HRT.out (below_box W4 (.cells #[.int .i64 d0, .int .i64 d1, .string d2, .slice A9 n9 c9, .slice A10 n10 c10] 32)) (HW4.out.trans ((below_box W4 (.cells #[.int .i64 d0, .int .i64 d1, .string d2, .slice A9 n9 c9, .slice A10 n10 c10] 32)).mono HW4.out.size)) (Nat.le_add_right _ _) (by omega) hzw hS HX.out
  · have HX := Lib.hid (HK.out.2 hn)
    have HW4 := Lib.hid (HW3.out.trans (hb4.mono hzw))
    have HR4 := Lib.hid (HR3.out.below hb4)
    have hz4 := hb4.size
    have HRT := Lib.hid (show RT (fun b => W3.heap.size ≤ b) W4 (filtDs fBad) [.int .i64 19, .int .i64 0, .string ⟨#[]⟩, .int .i64 0, .int .i64 0, .string ⟨#[]⟩, .slice none 0 0, .slice none 0 0, .slice none 0 0] from rdf_bad _ _)
    clear hb4 cP fP cR fR cA fA cB fB
    obtain ⟨cR, fR⟩ := blk_rules HR4.out
    have HR5 := fun o => (HR4.out.alloc o)
    have cRa := fun o => (HR5 o).cell
    have fRa := fun o => (HR5 o).frozen
    go_wp2
    refine bodyPost_ret (v := .agg #[.int .i64 19, .int .i64 0, .string ⟨#[]⟩, .int .i64 0, .int .i64 0, .string ⟨#[]⟩, .slice none 0 0, .slice none 0 0, .slice none 0 0]) (by simp [results, Tryz.results36, go_sem, cR, cRa]) rfl ?_
    exact pf_far (zs := [.int .i64 19, .int .i64 0, .string ⟨#[]⟩, .int .i64 0, .int .i64 0, .string ⟨#[]⟩, .slice none 0 0, .slice none 0 0, .slice none 0 0]) HRT.out (below_box W4 (.cells #[.int .i64 0, .int .i64 0, .string ⟨#[]⟩, .slice none 0 0, .slice none 0 0] 32)) (HW4.out.trans ((below_box W4 (.cells #[.int .i64 0, .int .i64 0, .string ⟨#[]⟩, .slice none 0 0, .slice none 0 0] 32)).mono HW4.out.size)) (Nat.le_add_right _ _) (by omega) hzw hS HX.out
end Go.Proofs.YtppfgepoegicgaaGreatDoor
namespace Go.Proofs.YtppfgepoegicgaaGreatDoor
open Go Go.RowKit

theorem add_lit0 (g j : Nat) : (⟨g, 0, none⟩ : Addr).add j = ⟨g, j, none⟩ := by unfold Addr.add; split <;> simp_all
def SlimC (f : Nat) (x : Filt) : Prop := ∀ (us : List Value) (w : World) (fp : List Nat) (L d : Nat), L ≤ w.heap.size → ODv w (filtDs x) us fp → fp.Nodup → (∀ b ∈ fp, L ≤ b) → FForm d x →
  Calls Tryz.prog f #[.agg us.toArray] w fun e w' => ∃ vs, e = .returned (.agg vs.toArray) ∧ RT (fun b => L ≤ b) w' (filtDs (slimF x)) vs ∧ Below L w w'
theorem odf_open {w : World} {kind n : Int} {s : ByteArray} {v : Val} {kids : List Filt} {us : List Value} {fp : List Nat} (h : ODv w (filtDs (.mk kind n s v kids)) us fp) :
    ∃ vs c8 fv f0 fk uk, us = .int .i64 kind :: .int .i64 n :: .string s :: (vs ++ [c8]) ∧ fp = fv ++ (f0 ++ fk) ∧ s.size ≤ 9223372036854775807 ∧ ODv w (valDs v) vs fv ∧ OSl w 9 c8 kids.length uk f0 ∧ ODv w (filtsDs kids) uk fk := by
  simp only [filtDs] at h
  obtain ⟨_, _, _, _, rfl, rfl, ⟨rfl, rfl⟩, _, _, _, _, rfl, rfl, ⟨rfl, rfl⟩, _, _, _, _, rfl, rfl, ⟨rfl, hs, rfl⟩, h3⟩ := h
  obtain ⟨vs, u2, fv, f2, rfl, rfl, h4, h5⟩ := ODv.split h3
  obtain ⟨c8, _, f3, _, rfl, rfl, ⟨uk, f0, fk, rfl, h6, h7⟩, rfl, rfl⟩ := h5
  exact ⟨vs, c8, fv, f0, fk, uk, rfl, by simp, hs, h4, h6, h7⟩
theorem osl_at {w : World} {n c k : Nat} {A : Option Addr} {us : List Value} {f0 : List Nat} (h : OSl w 9 (.slice A n c) n us f0) (hk : k < n) : ∃ g, A = some ⟨g, 0, none⟩ ∧ f0 = [g] ∧ g < w.heap.size ∧ us.length = n * 9 ∧ (∀ m u, us[m]? = some u → w.cell? ⟨g, m, none⟩ = some u) ∧ (∀ m, w.frozen? ⟨g, m, none⟩ = false) := by
  rcases h with ⟨_, _, _, h0, _⟩ | ⟨g, cap, t, cs, e, h2, h3, h4, e2, h6, h7, h8⟩
  · omega
  · injection e with e1 e3 e4
    refine ⟨g, e1, e2, h6.lt, h7, fun m u hm => ?_, h6.frozen⟩
    rw [h6.cell]
    obtain ⟨r, rfl⟩ := h8
    rw [List.getElem?_append_left (List.getElem?_eq_some_iff.1 hm).1]
    exact hm
theorem osl_put {w : World} {n c k g : Nat} {us xs : List Value} (h : OSl w 9 (.slice (some ⟨g, 0, none⟩) n c) n us [g]) (hk : k < n) (hx : xs.length = 9) : OSl (setAll w g (k * 9) xs) 9 (.slice (some ⟨g, 0, none⟩) n c) n (us.take (k * 9) ++ xs ++ us.drop ((k + 1) * 9)) [g] := by
  rcases h with ⟨_, _, _, h0, _⟩ | ⟨g', cap, t, cs, e, h2, h3, h4, e2, h6, h7, h8⟩
  · omega
  · injection e with e1 e3 e4
    injection e1 with e1
    injection e1 with e1
    subst e1 e4
    obtain ⟨r, rfl⟩ := h8
    refine .inr ⟨g, c, t, us.take (k * 9) ++ (xs ++ (us.drop ((k + 1) * 9) ++ r)), rfl, h2, h3, h4, rfl, ?_, ?_, ⟨r, by simp⟩⟩
    · have hp : us ++ r = us.take (k * 9) ++ ((us.drop (k * 9)).take 9 ++ (us.drop ((k + 1) * 9) ++ r)) := by
        rw [← List.append_assoc (List.take 9 _), show (k + 1) * 9 = k * 9 + 9 by omega, ← List.drop_drop, List.take_append_drop, ← List.append_assoc, List.take_append_drop]
      rw [hp] at h6
      have h9 := Blk.setAll xs (by rw [List.length_take, List.length_drop, h7, hx]; omega) h6
      rwa [List.length_take, h7, Nat.min_eq_left (by omega)] at h9
    · simp only [List.length_append, List.length_take, List.length_drop, h7, hx]
      omega
theorem rdf_part {G : World} {B : Nat} {vs : List Filt} {us : List Value} (h : RDv G B (filtsDs vs) us) (i : Nat) (hi : i ≤ vs.length) : RDv G B (filtsDs (vs.take i)) (us.take (i * 9)) ∧ RDv G B (filtsDs (vs.drop i)) (us.drop (i * 9)) := by
  have e : filtsDs vs = filtsDs (vs.take i) ++ filtsDs (vs.drop i) := by rw [← filtsDs_append, List.take_append_drop]
  rw [e] at h
  obtain ⟨u1, u2, rfl, h1, h2⟩ := RDv.append_iff.1 h
  have hl := RDv.length_eq h1
  rw [fds_len, List.length_take, Nat.min_eq_left hi] at hl
  rw [← hl, show (u1 ++ u2).take u1.length = u1 by simp, show (u1 ++ u2).drop u1.length = u2 by simp]
  exact ⟨h1, h2⟩
/-- The blocks that the parts are read of. -/
def SL (L : Nat) (w : World) (f0 : List Nat) (b : Nat) : Prop := L ≤ b ∧ b ≠ w.heap.size ∧ b ≠ w.heap.size + 1 ∧ b ∉ f0
structure LInv (L : Nat) (w : World) (us : List Value) (c8 : Value) (n : Nat) (f0 : List Nat) (ys : List Filt) (wr : World) : Prop where
  upd : Upd f0 w wr
  big : w.heap.size + 2 ≤ wr.heap.size
  bP : Blk wr w.heap.size 35 us
  bR : Blk wr (w.heap.size + 1) 35 ([.int .i64 0, .int .i64 0, .string ⟨#[]⟩, .int .i64 0, .int .i64 0, .string ⟨#[]⟩, .slice none 0 0, .slice none 0 0, .slice none 0 0] : List Value)
  row : ∃ uk, OSl wr 9 c8 n uk f0 ∧ RT (SL L w f0) wr (filtsDs ys) uk
theorem LInv.start {L : Nat} {w w1 : World} {us uk : List Value} {c8 : Value} {n : Nat} {f0 fk : List Nat} {kids : List Filt} (e : w1 = (w.alloc (.cells us.toArray 35)).alloc (.cells ([.int .i64 0, .int .i64 0, .string ⟨#[]⟩, .int .i64 0, .int .i64 0, .string ⟨#[]⟩, .slice none 0 0, .slice none 0 0, .slice none 0 0] : List Value).toArray 35)) (h1 : OSl w 9 c8 n uk f0) (h2 : ODv w (filtsDs kids) uk fk) (hL : ∀ b ∈ fk, L ≤ b) (hd : ∀ b ∈ fk, b ∉ f0) :
    LInv L w us c8 n f0 kids w1 := by
  have hb : Below w.heap.size w w1 := by rw [e]; exact below_box2 _ _ _
  refine ⟨Upd.of_below hb, by rw [e]; simp, by rw [e]; exact (Blk.new _ _ _).alloc _, ?_, uk, h1.keep fun b hb' => hb.block b (h1.lt b hb'), ?_⟩
  · have := Blk.new (w.alloc (.cells us.toArray 35)) 35 ([.int .i64 0, .int .i64 0, .string ⟨#[]⟩, .int .i64 0, .int .i64 0, .string ⟨#[]⟩, .slice none 0 0, .slice none 0 0, .slice none 0 0] : List Value)
    rw [e]
    simpa using this
  · have h3 := ODv.lt _ _ _ h2
    exact RT.of_od (ODv.keep _ _ _ (fun b hb' => hb.block b (h3 b hb')) h2) fun b hb' => by
      have := h3 b hb'
      exact ⟨hL b hb', by omega, by omega, hd b hb'⟩
section
variable {L : Nat} {w wr W7 : World} {us : List Value} {c8 : Value} {n c : Nat} {f0 : List Nat} {ys : List Filt} {A : Option Addr}
theorem LInv.rd (h : LInv L w us (.slice A n c) n f0 ys wr) : RDv wr wr.heap.size [.row 9 n (filtsDs ys)] [.slice A n c] := by
  obtain ⟨uk, h1, h2⟩ := h.row
  have h3 := rt_osl (S := fun _ => True) h1 (fun _ _ => trivial) (h2.to (Nat.le_refl _) fun b _ _ => ⟨trivial, rfl⟩)
  exact ⟨_, _, rfl, RD.grow (Nat.le_refl _) (thin_sub _ _ _) _ _ h3, rfl⟩
/-- The row, read of the blocks that the answer may be read of. -/
theorem LInv.trow (h : LInv L w us (.slice A n c) n f0 ys wr) (hf : ∀ b ∈ f0, L ≤ b ∧ b < w.heap.size) : RD (thin (fun b => L ≤ b ∧ b ≠ w.heap.size ∧ b ≠ w.heap.size + 1) wr) wr.heap.size (.row 9 n (filtsDs ys)) (.slice A n c) := by
  obtain ⟨uk, h1, h2⟩ := h.row
  exact rt_osl h1 (fun b hb => by have := hf b hb; exact ⟨this.1, by omega, by omega⟩) (h2.to (Nat.le_refl _) fun b _ hs => ⟨⟨hs.1, hs.2.1, hs.2.2.1⟩, rfl⟩)
theorem LInv.keep (h : LInv L w us c8 n f0 ys wr) (hf : ∀ b ∈ f0, b < w.heap.size) (hb : Below wr.heap.size wr W7) : LInv L w us c8 n f0 ys W7 := by
  obtain ⟨uk, h1, h2⟩ := h.row
  exact ⟨h.upd.more (hb.mono (by have := h.big; omega)), Nat.le_trans h.big hb.size, h.bP.below hb, h.bR.below hb, uk, h1.keep fun b hb' => hb.block b (h1.lt b hb'), h2.below hb⟩
/-- A part has been written into its place. -/
theorem LInv.put {g k : Nat} {y : Filt} {zs : List Value} (h : LInv L w us (.slice (some ⟨g, 0, none⟩) n c) n [g] ys wr) (hL : L ≤ wr.heap.size) (hg : g < w.heap.size) (hn : ys.length = n) (hk : k < n) (hb : Below wr.heap.size wr W7) (hz : RT (fun b => wr.heap.size ≤ b) W7 (filtDs y) zs) :
    LInv L w us (.slice (some ⟨g, 0, none⟩) n c) n [g] (ys.take k ++ [y] ++ ys.drop (k + 1)) (setAll W7 g (k * 9) zs) := by
  have h7 := h.keep (fun b hb' => by rw [List.mem_singleton.1 hb']; exact hg) hb
  obtain ⟨uk, h1, h2⟩ := h7.row
  have hbig := h.big
  have hz9 : zs.length = 9 := by have := RDv.length_eq hz; rwa [filtDs_length] at this
  have hf : ∀ b, b ≠ g → (setAll W7 g (k * 9) zs).heap[b]? = W7.heap[b]? := fun b hb' => setAll_other _ _ _ _ _ hb'
  have hupd : Upd [g] w (setAll W7 g (k * 9) zs) := ⟨(Upd.trans h7.upd (⟨(setAll_below zs (B := 0) (Nat.zero_le _) (Below.refl 0 W7)).os, (setAll_below zs (B := 0) (Nat.zero_le _) (Below.refl 0 W7)).tape, (setAll_below zs (B := 0) (Nat.zero_le _) (Below.refl 0 W7)).output, by rw [setAll_size]; exact Nat.le_refl _, fun b _ hn' => hf b (fun e => hn' (List.mem_singleton.2 e))⟩ : Upd [g] W7 _)).os, (Upd.trans h7.upd (⟨(setAll_below zs (B := 0) (Nat.zero_le _) (Below.refl 0 W7)).os, (setAll_below zs (B := 0) (Nat.zero_le _) (Below.refl 0 W7)).tape, (setAll_below zs (B := 0) (Nat.zero_le _) (Below.refl 0 W7)).output, by rw [setAll_size]; exact Nat.le_refl _, fun b _ hn' => hf b (fun e => hn' (List.mem_singleton.2 e))⟩ : Upd [g] W7 _)).tape, (Upd.trans h7.upd (⟨(setAll_below zs (B := 0) (Nat.zero_le _) (Below.refl 0 W7)).os, (setAll_below zs (B := 0) (Nat.zero_le _) (Below.refl 0 W7)).tape, (setAll_below zs (B := 0) (Nat.zero_le _) (Below.refl 0 W7)).output, by rw [setAll_size]; exact Nat.le_refl _, fun b _ hn' => hf b (fun e => hn' (List.mem_singleton.2 e))⟩ : Upd [g] W7 _)).output, by rw [setAll_size]; exact h7.upd.size, fun b hlt hn' => (hf b (fun e => hn' (List.mem_singleton.2 e))).trans (h7.upd.block b hlt hn')⟩
  have hS : ∀ b, b < W7.heap.size → SL L w [g] b → SL L w [g] b ∧ (setAll W7 g (k * 9) zs).heap[b]? = W7.heap[b]? := fun b _ hs => ⟨hs, hf b fun e => hs.2.2.2 (List.mem_singleton.2 e)⟩
  have hz' : RT (SL L w [g]) W7 (filtDs y) zs := hz.to (Nat.le_refl _) fun b _ hs => ⟨⟨Nat.le_trans hL hs, by omega, by omega, by simp; omega⟩, rfl⟩
  refine ⟨hupd, by rw [setAll_size]; exact h7.big, h7.bP.same (hf _ (by omega)), h7.bR.same (hf _ (by omega)), _, osl_put h1 hk hz9, ?_⟩
  have p1 := (rdf_part h2 k (by omega)).1
  have p2 := (rdf_part h2 (k + 1) (by omega)).2
  refine RT.to (w := W7) (S := SL L w [g]) ?_ (by rw [setAll_size]; exact Nat.le_refl _) hS
  unfold RT
  rw [filtsDs_append, filtsDs_append]
  exact RDv.append_iff.2 ⟨_, _, rfl, RDv.append_iff.2 ⟨_, _, rfl, p1, by simp only [filtsDs, List.append_nil]; exact hz'⟩, p2⟩
end
/-- The row so far, and what is still to come. -/
theorem mix_put {kind : Int} {kids : List Filt} {k : Nat} {x y : Filt} (hd : kids[k]? = some x) (hm : (mids kind kids)[k]? = some y) : ((mids kind kids).take k ++ kids.drop k).take k ++ [y] ++ ((mids kind kids).take k ++ kids.drop k).drop (k + 1) = (mids kind kids).take (k + 1) ++ kids.drop (k + 1) := by
  have hl : ((mids kind kids).take k).length = k := by rw [List.length_take, mids_length]; have := (List.getElem?_eq_some_iff.1 hd).1; omega
  rw [take_at hm, List.take_append_of_le_length (by omega), List.take_of_length_le (by omega), List.drop_append, List.drop_of_length_le (by omega), List.nil_append, hl, List.drop_drop, show k + (k + 1 - k) = k + 1 by omega]
theorem mix_same {kind : Int} {kids : List Filt} {k : Nat} {x : Filt} (hd : kids[k]? = some x) (hm : (mids kind kids)[k]? = some x) : (mids kind kids).take k ++ kids.drop k = (mids kind kids).take (k + 1) ++ kids.drop (k + 1) := by
  have hlt := (List.getElem?_eq_some_iff.1 hd).1
  have e : kids.drop k = x :: kids.drop (k + 1) := by
    rw [List.drop_eq_getElem_cons hlt]
    congr 1
    rw [List.getElem?_eq_getElem hlt] at hd
    injection hd
  rw [take_at hm, e]
  simp
theorem mix_at {kind : Int} {kids : List Filt} {k : Nat} {x : Filt} (h : ((mids kind kids).take k ++ kids.drop k)[k]? = some x) : kids[k]? = some x := by
  have hl : ((mids kind kids).take k).length = k ∨ ((mids kind kids).take k).length = kids.length ∧ kids.length < k := by rw [List.length_take, mids_length]; omega
  rcases hl with hl | ⟨hl, h2⟩
  · rw [List.getElem?_append_right (by omega), hl, List.getElem?_drop] at h
    simpa using h
  · rw [List.getElem?_append_right (by omega), List.drop_of_length_le (by omega)] at h
    simp at h
/-- What a switch gave is what comes back. -/
theorem sl_end {L : Nat} {w W : World} {x : Filt} {zs : List Value} (h : RT (fun b => L ≤ b ∧ b ≠ w.heap.size ∧ b ≠ w.heap.size + 1) W (filtDs x) zs) (hb : Below L w W) (hL : L ≤ w.heap.size) {y : Filt} (hx : slimF y = x) :
    ∃ vs, Ending.returned (.agg zs.toArray) = .returned (.agg vs.toArray) ∧ RT (fun b => L ≤ b) (setAll W (w.heap.size + 1) 0 zs) (filtDs (slimF y)) vs ∧ Below L w (setAll W (w.heap.size + 1) 0 zs) := by
  refine ⟨zs, rfl, ?_, setAll_below _ (by omega) hb⟩
  rw [hx]
  exact h.to (by rw [setAll_size]; exact Nat.le_refl _) fun b _ hs => ⟨hs.1, setAll_other _ _ _ _ _ hs.2.2⟩
end Go.Proofs.YtppfgepoegicgaaGreatDoor
