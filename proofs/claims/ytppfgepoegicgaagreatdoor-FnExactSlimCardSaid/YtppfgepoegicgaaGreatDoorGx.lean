/- Parts of the proof: EvSureS, EvSure. -/
import Derived.Test.YtppfgepoegicgaaGreatDoorZFOkDef
namespace Go.Proofs.YtppfgepoegicgaaGreatDoor
open Go Go.RowKit

set_option maxRecDepth 100000 in
set_option maxHeartbeats 8000000 in
theorem evSureS_of (x : Filt) (ih : ∀ kind n s v kids, x = .mk kind n s v kids → ∀ y ∈ kids, EvC 37 tabSure y) : EvC 37 tabSure x := by
  intro us w B d hB h hF
  obtain ⟨kind, n, s, v, kids, a3, a4, a5, A6, n6, q6, A7, n7, q7, A8, q8, rfl, rfl, hs, hv, hk⟩ := filtDs_all h
  have IH := Lib.hid (ih _ _ _ _ _ rfl)
  have hff := (fform_iff (fform_pos hF)).1 hF
  have hk1 := hff.1.1
  have HFK := Lib.hid hff.2.1
  have hn := hk.len
  have hr := kidsOf_range (k := kind) (by omega)
  have HK := Lib.hid hk
  have hbx := fun o => below_box w o
  clear ih hF hff h hv hk hs
  by_cases e1 : kind = 1
  · subst e1
    clear hk1
    go_enter Tryz.func37, Tryz.ntmps37
    go_wp2
    go_ret
    exact PBool.yes (by simp [ev, tabSure]) (hbx _)
  by_cases e2 : kind = 2
  · subst e2
    clear hk1
    go_enter Tryz.func37, Tryz.ntmps37
    go_wp2
    go_ret
    exact PBool.yes (by simp [ev, tabSure]) (hbx _)
  by_cases e3 : kind = 3
  · subst e3
    clear hk1
    go_enter Tryz.func37, Tryz.ntmps37
    go_wp2
    go_ret
    exact PBool.no (by simp [ev, tabSure]) (hbx _)
  by_cases e4 : kind = 4
  · subst e4
    clear hk1
    go_enter Tryz.func37, Tryz.ntmps37
    go_wp2
    go_ret
    exact PBool.no (by simp [ev, tabSure]) (hbx _)
  by_cases e5 : kind = 5
  · subst e5
    clear hk1
    go_enter Tryz.func37, Tryz.ntmps37
    go_wp2
    go_ret
    exact PBool.no (by simp [ev, tabSure]) (hbx _)
  by_cases e6 : kind = 6
  · subst e6
    have hl : kids.length = 2 := by have e : kidsOf 6 = 2 := by decide
                                    omega
    have hl2 : (kids.length : Int) = 2 := by omega
    have HE := Lib.hid (show ev tabSure (.mk 6 n s v kids) = (evAt tabSure kids 0 && evAt tabSure kids 1) by simp [ev, tabSure])
    clear hk1
    have L0 : 0 < kids.length := by omega
    have M0 : (0 : Int) < (kids.length : Int) := by omega
    have L1 : 1 < kids.length := by omega
    have M1 : (1 : Int) < (kids.length : Int) := by omega
    clear hl hl2
    go_enter Tryz.func37, Tryz.ntmps37
    obtain ⟨ad, y0, x0, x1, x2, x3, x4, x5, x6, x7, x8, rfl, hbl, hy0, hm0, hd0, z0, z1, z2, z3, z4, z5, z6, z7, z8⟩ := row9_at HK.out rfl L0
    have u0 : w.cell? ad = some x0 := by simpa [Addr.add] using z0
    have zz0 := fun o => (World.cell?_alloc_lt w o ad (by show ad.block < _; omega)).trans u0
    have u1 : w.cell? ⟨ad.block, ad.off + 1, none⟩ = some x1 := by simpa [Addr.add] using z1
    have zz1 := fun o => (World.cell?_alloc_lt w o ⟨ad.block, ad.off + 1, none⟩ (by show ad.block < _; omega)).trans u1
    have u2 : w.cell? ⟨ad.block, ad.off + 2, none⟩ = some x2 := by simpa [Addr.add] using z2
    have zz2 := fun o => (World.cell?_alloc_lt w o ⟨ad.block, ad.off + 2, none⟩ (by show ad.block < _; omega)).trans u2
    have u3 : w.cell? ⟨ad.block, ad.off + 3, none⟩ = some x3 := by simpa [Addr.add] using z3
    have zz3 := fun o => (World.cell?_alloc_lt w o ⟨ad.block, ad.off + 3, none⟩ (by show ad.block < _; omega)).trans u3
    have u4 : w.cell? ⟨ad.block, ad.off + 4, none⟩ = some x4 := by simpa [Addr.add] using z4
    have zz4 := fun o => (World.cell?_alloc_lt w o ⟨ad.block, ad.off + 4, none⟩ (by show ad.block < _; omega)).trans u4
    have u5 : w.cell? ⟨ad.block, ad.off + 5, none⟩ = some x5 := by simpa [Addr.add] using z5
    have zz5 := fun o => (World.cell?_alloc_lt w o ⟨ad.block, ad.off + 5, none⟩ (by show ad.block < _; omega)).trans u5
    have u6 : w.cell? ⟨ad.block, ad.off + 6, none⟩ = some x6 := by simpa [Addr.add] using z6
    have zz6 := fun o => (World.cell?_alloc_lt w o ⟨ad.block, ad.off + 6, none⟩ (by show ad.block < _; omega)).trans u6
    have u7 : w.cell? ⟨ad.block, ad.off + 7, none⟩ = some x7 := by simpa [Addr.add] using z7
    have zz7 := fun o => (World.cell?_alloc_lt w o ⟨ad.block, ad.off + 7, none⟩ (by show ad.block < _; omega)).trans u7
    have u8 : w.cell? ⟨ad.block, ad.off + 8, none⟩ = some x8 := by simpa [Addr.add] using z8
    have zz8 := fun o => (World.cell?_alloc_lt w o ⟨ad.block, ad.off + 8, none⟩ (by show ad.block < _; omega)).trans u8
    clear u0 u1 u2 u3 u4 u5 u6 u7 u8
    clear z0 z1 z2 z3 z4 z5 z6 z7 z8
    go_wp2_with fail
    refine (IH.out y0 hm0 [_, _, _, _, _, _, _, _, _] _ B (d - 1) (Nat.le_trans hB (hbx _).size) (hy0.below ((hbx _).mono hB)) (HFK.out y0 hm0)).mono ?_
    rintro e w1 ⟨r0, rfl, hr0, hb0⟩
    have R0 := Lib.hid hr0
    have B0 := boxes1_of hb0
    clear hr0 hb0 zz0 zz1 zz2 zz3 zz4 zz5 zz6 zz7 zz8
    obtain ⟨hb0, hz0, bP0⟩ := boxes1 (P := [_, _, _, _, _, _, _, _, _]) B0
    obtain ⟨cP0, fP0⟩ := blk_rules bP0
    clear bP0
    cases r0 with
    | false =>
      have HN := Lib.hid (show ¬ ev tabSure (.mk 6 n s v kids) = true from fun h => by
        rw [HE.out] at h
        try simp only [Bool.and_eq_true] at h
        have h2 := h.1
        rw [evAt_drop tabSure hd0.out] at h2
        exact absurd (R0.out.2 h2) (by simp))
      go_wp2
      go_ret
      exact PBool.no HN.out hb0
    | true =>
      have T0 := Lib.hid (show evAt tabSure kids 0 = true by rw [evAt_drop tabSure hd0.out]; exact R0.out.1 rfl)
      obtain ⟨ad1, y1, x0, x1, x2, x3, x4, x5, x6, x7, x8, ea, hbl1, hy1, hm1, hd1, z0, z1, z2, z3, z4, z5, z6, z7, z8⟩ := row9_at (HK.out.upto (hb0.mono hB) (Nat.le_refl _)) rfl L1
      injection ea with ea
      subst ea
      have u0 : w1.cell? ⟨ad.block, ad.off + 9, none⟩ = some x0 := by simpa [Addr.add] using z0
      have u1 : w1.cell? ⟨ad.block, ad.off + 9 + 1, none⟩ = some x1 := by simpa [Addr.add] using z1
      have u2 : w1.cell? ⟨ad.block, ad.off + 9 + 2, none⟩ = some x2 := by simpa [Addr.add] using z2
      have u3 : w1.cell? ⟨ad.block, ad.off + 9 + 3, none⟩ = some x3 := by simpa [Addr.add] using z3
      have u4 : w1.cell? ⟨ad.block, ad.off + 9 + 4, none⟩ = some x4 := by simpa [Addr.add] using z4
      have u5 : w1.cell? ⟨ad.block, ad.off + 9 + 5, none⟩ = some x5 := by simpa [Addr.add] using z5
      have u6 : w1.cell? ⟨ad.block, ad.off + 9 + 6, none⟩ = some x6 := by simpa [Addr.add] using z6
      have u7 : w1.cell? ⟨ad.block, ad.off + 9 + 7, none⟩ = some x7 := by simpa [Addr.add] using z7
      have u8 : w1.cell? ⟨ad.block, ad.off + 9 + 8, none⟩ = some x8 := by simpa [Addr.add] using z8
      go_wp2_with fail
      refine (IH.out y1 hm1 [_, _, _, _, _, _, _, _, _] _ B (d - 1) (by omega) hy1 (HFK.out y1 hm1)).mono ?_
      rintro e w2 ⟨r1, rfl, hr1, hc1⟩
      have R1 := Lib.hid hr1
      have B1 := B0.trans (hc1.mono hz0)
      clear hr1 hc1 z0 z1 z2 z3 z4 z5 z6 z7 z8 u0 u1 u2 u3 u4 u5 u6 u7 u8 cP0 fP0
      obtain ⟨hb1, hz1, bP1⟩ := boxes1 (P := [_, _, _, _, _, _, _, _, _]) B1
      obtain ⟨cP1, fP1⟩ := blk_rules bP1
      clear bP1
      cases r1 with
      | false =>
        have HN := Lib.hid (show ¬ ev tabSure (.mk 6 n s v kids) = true from fun h => by
          rw [HE.out] at h
          try simp only [Bool.and_eq_true] at h
          have h2 := h.2
          rw [evAt_drop tabSure hd1.out] at h2
          exact absurd (R1.out.2 h2) (by simp))
        go_wp2
        go_ret
        exact PBool.no HN.out hb1
      | true =>
        have T1 := Lib.hid (show evAt tabSure kids 1 = true by rw [evAt_drop tabSure hd1.out]; exact R1.out.1 rfl)
        have HT := Lib.hid (show ev tabSure (.mk 6 n s v kids) = true by rw [HE.out, T0.out, T1.out] <;> rfl)
        go_wp2
        go_ret
        exact PBool.yes HT.out hb1
  by_cases e7 : kind = 7
  · subst e7
    have hl : kids.length = 2 := by have e : kidsOf 7 = 2 := by decide
                                    omega
    have hl2 : (kids.length : Int) = 2 := by omega
    have HE := Lib.hid (show ev tabSure (.mk 7 n s v kids) = (evAt tabSure kids 0 && evAt tabSure kids 1) by simp [ev, tabSure])
    clear hk1
    have L0 : 0 < kids.length := by omega
    have M0 : (0 : Int) < (kids.length : Int) := by omega
    have L1 : 1 < kids.length := by omega
    have M1 : (1 : Int) < (kids.length : Int) := by omega
    clear hl hl2
    go_enter Tryz.func37, Tryz.ntmps37
    obtain ⟨ad, y0, x0, x1, x2, x3, x4, x5, x6, x7, x8, rfl, hbl, hy0, hm0, hd0, z0, z1, z2, z3, z4, z5, z6, z7, z8⟩ := row9_at HK.out rfl L0
    have u0 : w.cell? ad = some x0 := by simpa [Addr.add] using z0
    have zz0 := fun o => (World.cell?_alloc_lt w o ad (by show ad.block < _; omega)).trans u0
    have u1 : w.cell? ⟨ad.block, ad.off + 1, none⟩ = some x1 := by simpa [Addr.add] using z1
    have zz1 := fun o => (World.cell?_alloc_lt w o ⟨ad.block, ad.off + 1, none⟩ (by show ad.block < _; omega)).trans u1
    have u2 : w.cell? ⟨ad.block, ad.off + 2, none⟩ = some x2 := by simpa [Addr.add] using z2
    have zz2 := fun o => (World.cell?_alloc_lt w o ⟨ad.block, ad.off + 2, none⟩ (by show ad.block < _; omega)).trans u2
    have u3 : w.cell? ⟨ad.block, ad.off + 3, none⟩ = some x3 := by simpa [Addr.add] using z3
    have zz3 := fun o => (World.cell?_alloc_lt w o ⟨ad.block, ad.off + 3, none⟩ (by show ad.block < _; omega)).trans u3
    have u4 : w.cell? ⟨ad.block, ad.off + 4, none⟩ = some x4 := by simpa [Addr.add] using z4
    have zz4 := fun o => (World.cell?_alloc_lt w o ⟨ad.block, ad.off + 4, none⟩ (by show ad.block < _; omega)).trans u4
    have u5 : w.cell? ⟨ad.block, ad.off + 5, none⟩ = some x5 := by simpa [Addr.add] using z5
    have zz5 := fun o => (World.cell?_alloc_lt w o ⟨ad.block, ad.off + 5, none⟩ (by show ad.block < _; omega)).trans u5
    have u6 : w.cell? ⟨ad.block, ad.off + 6, none⟩ = some x6 := by simpa [Addr.add] using z6
    have zz6 := fun o => (World.cell?_alloc_lt w o ⟨ad.block, ad.off + 6, none⟩ (by show ad.block < _; omega)).trans u6
    have u7 : w.cell? ⟨ad.block, ad.off + 7, none⟩ = some x7 := by simpa [Addr.add] using z7
    have zz7 := fun o => (World.cell?_alloc_lt w o ⟨ad.block, ad.off + 7, none⟩ (by show ad.block < _; omega)).trans u7
    have u8 : w.cell? ⟨ad.block, ad.off + 8, none⟩ = some x8 := by simpa [Addr.add] using z8
    have zz8 := fun o => (World.cell?_alloc_lt w o ⟨ad.block, ad.off + 8, none⟩ (by show ad.block < _; omega)).trans u8
    clear u0 u1 u2 u3 u4 u5 u6 u7 u8
    clear z0 z1 z2 z3 z4 z5 z6 z7 z8
    go_wp2_with fail
    refine (IH.out y0 hm0 [_, _, _, _, _, _, _, _, _] _ B (d - 1) (Nat.le_trans hB (hbx _).size) (hy0.below ((hbx _).mono hB)) (HFK.out y0 hm0)).mono ?_
    rintro e w1 ⟨r0, rfl, hr0, hb0⟩
    have R0 := Lib.hid hr0
    have B0 := boxes1_of hb0
    clear hr0 hb0 zz0 zz1 zz2 zz3 zz4 zz5 zz6 zz7 zz8
    obtain ⟨hb0, hz0, bP0⟩ := boxes1 (P := [_, _, _, _, _, _, _, _, _]) B0
    obtain ⟨cP0, fP0⟩ := blk_rules bP0
    clear bP0
    cases r0 with
    | false =>
      have HN := Lib.hid (show ¬ ev tabSure (.mk 7 n s v kids) = true from fun h => by
        rw [HE.out] at h
        try simp only [Bool.and_eq_true] at h
        have h2 := h.1
        rw [evAt_drop tabSure hd0.out] at h2
        exact absurd (R0.out.2 h2) (by simp))
      go_wp2
      go_ret
      exact PBool.no HN.out hb0
    | true =>
      have T0 := Lib.hid (show evAt tabSure kids 0 = true by rw [evAt_drop tabSure hd0.out]; exact R0.out.1 rfl)
      obtain ⟨ad1, y1, x0, x1, x2, x3, x4, x5, x6, x7, x8, ea, hbl1, hy1, hm1, hd1, z0, z1, z2, z3, z4, z5, z6, z7, z8⟩ := row9_at (HK.out.upto (hb0.mono hB) (Nat.le_refl _)) rfl L1
      injection ea with ea
      subst ea
      have u0 : w1.cell? ⟨ad.block, ad.off + 9, none⟩ = some x0 := by simpa [Addr.add] using z0
      have u1 : w1.cell? ⟨ad.block, ad.off + 9 + 1, none⟩ = some x1 := by simpa [Addr.add] using z1
      have u2 : w1.cell? ⟨ad.block, ad.off + 9 + 2, none⟩ = some x2 := by simpa [Addr.add] using z2
      have u3 : w1.cell? ⟨ad.block, ad.off + 9 + 3, none⟩ = some x3 := by simpa [Addr.add] using z3
      have u4 : w1.cell? ⟨ad.block, ad.off + 9 + 4, none⟩ = some x4 := by simpa [Addr.add] using z4
      have u5 : w1.cell? ⟨ad.block, ad.off + 9 + 5, none⟩ = some x5 := by simpa [Addr.add] using z5
      have u6 : w1.cell? ⟨ad.block, ad.off + 9 + 6, none⟩ = some x6 := by simpa [Addr.add] using z6
      have u7 : w1.cell? ⟨ad.block, ad.off + 9 + 7, none⟩ = some x7 := by simpa [Addr.add] using z7
      have u8 : w1.cell? ⟨ad.block, ad.off + 9 + 8, none⟩ = some x8 := by simpa [Addr.add] using z8
      go_wp2_with fail
      refine (IH.out y1 hm1 [_, _, _, _, _, _, _, _, _] _ B (d - 1) (by omega) hy1 (HFK.out y1 hm1)).mono ?_
      rintro e w2 ⟨r1, rfl, hr1, hc1⟩
      have R1 := Lib.hid hr1
      have B1 := B0.trans (hc1.mono hz0)
      clear hr1 hc1 z0 z1 z2 z3 z4 z5 z6 z7 z8 u0 u1 u2 u3 u4 u5 u6 u7 u8 cP0 fP0
      obtain ⟨hb1, hz1, bP1⟩ := boxes1 (P := [_, _, _, _, _, _, _, _, _]) B1
      obtain ⟨cP1, fP1⟩ := blk_rules bP1
      clear bP1
      cases r1 with
      | false =>
        have HN := Lib.hid (show ¬ ev tabSure (.mk 7 n s v kids) = true from fun h => by
          rw [HE.out] at h
          try simp only [Bool.and_eq_true] at h
          have h2 := h.2
          rw [evAt_drop tabSure hd1.out] at h2
          exact absurd (R1.out.2 h2) (by simp))
        go_wp2
        go_ret
        exact PBool.no HN.out hb1
      | true =>
        have T1 := Lib.hid (show evAt tabSure kids 1 = true by rw [evAt_drop tabSure hd1.out]; exact R1.out.1 rfl)
        have HT := Lib.hid (show ev tabSure (.mk 7 n s v kids) = true by rw [HE.out, T0.out, T1.out] <;> rfl)
        go_wp2
        go_ret
        exact PBool.yes HT.out hb1
  by_cases e8 : kind = 8
  · subst e8
    have hl : kids.length = 3 := by have e : kidsOf 8 = 3 := by decide
                                    omega
    have hl2 : (kids.length : Int) = 3 := by omega
    have HE := Lib.hid (show ev tabSure (.mk 8 n s v kids) = (evAt tabSure kids 0 && (evAt tabSure kids 1 && evAt tabSure kids 2)) by simp [ev, tabSure])
    clear hk1
    have L0 : 0 < kids.length := by omega
    have M0 : (0 : Int) < (kids.length : Int) := by omega
    have L1 : 1 < kids.length := by omega
    have M1 : (1 : Int) < (kids.length : Int) := by omega
    have L2 : 2 < kids.length := by omega
    have M2 : (2 : Int) < (kids.length : Int) := by omega
    clear hl hl2
    go_enter Tryz.func37, Tryz.ntmps37
    obtain ⟨ad, y0, x0, x1, x2, x3, x4, x5, x6, x7, x8, rfl, hbl, hy0, hm0, hd0, z0, z1, z2, z3, z4, z5, z6, z7, z8⟩ := row9_at HK.out rfl L0
    have u0 : w.cell? ad = some x0 := by simpa [Addr.add] using z0
    have zz0 := fun o => (World.cell?_alloc_lt w o ad (by show ad.block < _; omega)).trans u0
    have u1 : w.cell? ⟨ad.block, ad.off + 1, none⟩ = some x1 := by simpa [Addr.add] using z1
    have zz1 := fun o => (World.cell?_alloc_lt w o ⟨ad.block, ad.off + 1, none⟩ (by show ad.block < _; omega)).trans u1
    have u2 : w.cell? ⟨ad.block, ad.off + 2, none⟩ = some x2 := by simpa [Addr.add] using z2
    have zz2 := fun o => (World.cell?_alloc_lt w o ⟨ad.block, ad.off + 2, none⟩ (by show ad.block < _; omega)).trans u2
    have u3 : w.cell? ⟨ad.block, ad.off + 3, none⟩ = some x3 := by simpa [Addr.add] using z3
    have zz3 := fun o => (World.cell?_alloc_lt w o ⟨ad.block, ad.off + 3, none⟩ (by show ad.block < _; omega)).trans u3
    have u4 : w.cell? ⟨ad.block, ad.off + 4, none⟩ = some x4 := by simpa [Addr.add] using z4
    have zz4 := fun o => (World.cell?_alloc_lt w o ⟨ad.block, ad.off + 4, none⟩ (by show ad.block < _; omega)).trans u4
    have u5 : w.cell? ⟨ad.block, ad.off + 5, none⟩ = some x5 := by simpa [Addr.add] using z5
    have zz5 := fun o => (World.cell?_alloc_lt w o ⟨ad.block, ad.off + 5, none⟩ (by show ad.block < _; omega)).trans u5
    have u6 : w.cell? ⟨ad.block, ad.off + 6, none⟩ = some x6 := by simpa [Addr.add] using z6
    have zz6 := fun o => (World.cell?_alloc_lt w o ⟨ad.block, ad.off + 6, none⟩ (by show ad.block < _; omega)).trans u6
    have u7 : w.cell? ⟨ad.block, ad.off + 7, none⟩ = some x7 := by simpa [Addr.add] using z7
    have zz7 := fun o => (World.cell?_alloc_lt w o ⟨ad.block, ad.off + 7, none⟩ (by show ad.block < _; omega)).trans u7
    have u8 : w.cell? ⟨ad.block, ad.off + 8, none⟩ = some x8 := by simpa [Addr.add] using z8
    have zz8 := fun o => (World.cell?_alloc_lt w o ⟨ad.block, ad.off + 8, none⟩ (by show ad.block < _; omega)).trans u8
    clear u0 u1 u2 u3 u4 u5 u6 u7 u8
    clear z0 z1 z2 z3 z4 z5 z6 z7 z8
    go_wp2_with fail
    refine (IH.out y0 hm0 [_, _, _, _, _, _, _, _, _] _ B (d - 1) (Nat.le_trans hB (hbx _).size) (hy0.below ((hbx _).mono hB)) (HFK.out y0 hm0)).mono ?_
    rintro e w1 ⟨r0, rfl, hr0, hb0⟩
    have R0 := Lib.hid hr0
    have B0 := boxes1_of hb0
    clear hr0 hb0 zz0 zz1 zz2 zz3 zz4 zz5 zz6 zz7 zz8
    obtain ⟨hb0, hz0, bP0⟩ := boxes1 (P := [_, _, _, _, _, _, _, _, _]) B0
    obtain ⟨cP0, fP0⟩ := blk_rules bP0
    clear bP0
    cases r0 with
    | false =>
      have HN := Lib.hid (show ¬ ev tabSure (.mk 8 n s v kids) = true from fun h => by
        rw [HE.out] at h
        try simp only [Bool.and_eq_true] at h
        have h2 := h.1
        rw [evAt_drop tabSure hd0.out] at h2
        exact absurd (R0.out.2 h2) (by simp))
      go_wp2
      go_ret
      exact PBool.no HN.out hb0
    | true =>
      have T0 := Lib.hid (show evAt tabSure kids 0 = true by rw [evAt_drop tabSure hd0.out]; exact R0.out.1 rfl)
      obtain ⟨ad1, y1, x0, x1, x2, x3, x4, x5, x6, x7, x8, ea, hbl1, hy1, hm1, hd1, z0, z1, z2, z3, z4, z5, z6, z7, z8⟩ := row9_at (HK.out.upto (hb0.mono hB) (Nat.le_refl _)) rfl L1
      injection ea with ea
      subst ea
      have u0 : w1.cell? ⟨ad.block, ad.off + 9, none⟩ = some x0 := by simpa [Addr.add] using z0
      have u1 : w1.cell? ⟨ad.block, ad.off + 9 + 1, none⟩ = some x1 := by simpa [Addr.add] using z1
      have u2 : w1.cell? ⟨ad.block, ad.off + 9 + 2, none⟩ = some x2 := by simpa [Addr.add] using z2
      have u3 : w1.cell? ⟨ad.block, ad.off + 9 + 3, none⟩ = some x3 := by simpa [Addr.add] using z3
      have u4 : w1.cell? ⟨ad.block, ad.off + 9 + 4, none⟩ = some x4 := by simpa [Addr.add] using z4
      have u5 : w1.cell? ⟨ad.block, ad.off + 9 + 5, none⟩ = some x5 := by simpa [Addr.add] using z5
      have u6 : w1.cell? ⟨ad.block, ad.off + 9 + 6, none⟩ = some x6 := by simpa [Addr.add] using z6
      have u7 : w1.cell? ⟨ad.block, ad.off + 9 + 7, none⟩ = some x7 := by simpa [Addr.add] using z7
      have u8 : w1.cell? ⟨ad.block, ad.off + 9 + 8, none⟩ = some x8 := by simpa [Addr.add] using z8
      go_wp2_with fail
      refine (IH.out y1 hm1 [_, _, _, _, _, _, _, _, _] _ B (d - 1) (by omega) hy1 (HFK.out y1 hm1)).mono ?_
      rintro e w2 ⟨r1, rfl, hr1, hc1⟩
      have R1 := Lib.hid hr1
      have B1 := B0.trans (hc1.mono hz0)
      clear hr1 hc1 z0 z1 z2 z3 z4 z5 z6 z7 z8 u0 u1 u2 u3 u4 u5 u6 u7 u8 cP0 fP0
      obtain ⟨hb1, hz1, bP1⟩ := boxes1 (P := [_, _, _, _, _, _, _, _, _]) B1
      obtain ⟨cP1, fP1⟩ := blk_rules bP1
      clear bP1
      cases r1 with
      | false =>
        have HN := Lib.hid (show ¬ ev tabSure (.mk 8 n s v kids) = true from fun h => by
          rw [HE.out] at h
          try simp only [Bool.and_eq_true] at h
          have h2 := h.2.1
          rw [evAt_drop tabSure hd1.out] at h2
          exact absurd (R1.out.2 h2) (by simp))
        go_wp2
        go_ret
        exact PBool.no HN.out hb1
      | true =>
        have T1 := Lib.hid (show evAt tabSure kids 1 = true by rw [evAt_drop tabSure hd1.out]; exact R1.out.1 rfl)
        obtain ⟨ad2, y2, x0, x1, x2, x3, x4, x5, x6, x7, x8, ea, hbl2, hy2, hm2, hd2, z0, z1, z2, z3, z4, z5, z6, z7, z8⟩ := row9_at (HK.out.upto (hb1.mono hB) (Nat.le_refl _)) rfl L2
        injection ea with ea
        subst ea
        have u0 : w2.cell? ⟨ad.block, ad.off + 18, none⟩ = some x0 := by simpa [Addr.add] using z0
        have u1 : w2.cell? ⟨ad.block, ad.off + 18 + 1, none⟩ = some x1 := by simpa [Addr.add] using z1
        have u2 : w2.cell? ⟨ad.block, ad.off + 18 + 2, none⟩ = some x2 := by simpa [Addr.add] using z2
        have u3 : w2.cell? ⟨ad.block, ad.off + 18 + 3, none⟩ = some x3 := by simpa [Addr.add] using z3
        have u4 : w2.cell? ⟨ad.block, ad.off + 18 + 4, none⟩ = some x4 := by simpa [Addr.add] using z4
        have u5 : w2.cell? ⟨ad.block, ad.off + 18 + 5, none⟩ = some x5 := by simpa [Addr.add] using z5
        have u6 : w2.cell? ⟨ad.block, ad.off + 18 + 6, none⟩ = some x6 := by simpa [Addr.add] using z6
        have u7 : w2.cell? ⟨ad.block, ad.off + 18 + 7, none⟩ = some x7 := by simpa [Addr.add] using z7
        have u8 : w2.cell? ⟨ad.block, ad.off + 18 + 8, none⟩ = some x8 := by simpa [Addr.add] using z8
        go_wp2_with fail
        refine (IH.out y2 hm2 [_, _, _, _, _, _, _, _, _] _ B (d - 1) (by omega) hy2 (HFK.out y2 hm2)).mono ?_
        rintro e w3 ⟨r2, rfl, hr2, hc2⟩
        have R2 := Lib.hid hr2
        have B2 := B1.trans (hc2.mono hz1)
        clear hr2 hc2 z0 z1 z2 z3 z4 z5 z6 z7 z8 u0 u1 u2 u3 u4 u5 u6 u7 u8 cP1 fP1
        obtain ⟨hb2, hz2, bP2⟩ := boxes1 (P := [_, _, _, _, _, _, _, _, _]) B2
        obtain ⟨cP2, fP2⟩ := blk_rules bP2
        clear bP2
        cases r2 with
        | false =>
          have HN := Lib.hid (show ¬ ev tabSure (.mk 8 n s v kids) = true from fun h => by
            rw [HE.out] at h
            try simp only [Bool.and_eq_true] at h
            have h2 := h.2.2
            rw [evAt_drop tabSure hd2.out] at h2
            exact absurd (R2.out.2 h2) (by simp))
          go_wp2
          go_ret
          exact PBool.no HN.out hb2
        | true =>
          have T2 := Lib.hid (show evAt tabSure kids 2 = true by rw [evAt_drop tabSure hd2.out]; exact R2.out.1 rfl)
          have HT := Lib.hid (show ev tabSure (.mk 8 n s v kids) = true by rw [HE.out, T0.out, T1.out, T2.out] <;> rfl)
          go_wp2
          go_ret
          exact PBool.yes HT.out hb2
  by_cases e9 : kind = 9
  · subst e9
    clear hk1
    go_enter Tryz.func37, Tryz.ntmps37
    go_wp2
    go_ret
    exact PBool.no (by simp [ev, tabSure]) (hbx _)
  by_cases e10 : kind = 10
  · subst e10
    have hl : kids.length = 2 := by have e : kidsOf 10 = 2 := by decide
                                    omega
    have hl2 : (kids.length : Int) = 2 := by omega
    have HE := Lib.hid (show ev tabSure (.mk 10 n s v kids) = (evAt tabSure kids 0 && evAt tabSure kids 1) by simp [ev, tabSure])
    clear hk1
    have L0 : 0 < kids.length := by omega
    have M0 : (0 : Int) < (kids.length : Int) := by omega
    have L1 : 1 < kids.length := by omega
    have M1 : (1 : Int) < (kids.length : Int) := by omega
    clear hl hl2
    go_enter Tryz.func37, Tryz.ntmps37
    obtain ⟨ad, y0, x0, x1, x2, x3, x4, x5, x6, x7, x8, rfl, hbl, hy0, hm0, hd0, z0, z1, z2, z3, z4, z5, z6, z7, z8⟩ := row9_at HK.out rfl L0
    have u0 : w.cell? ad = some x0 := by simpa [Addr.add] using z0
    have zz0 := fun o => (World.cell?_alloc_lt w o ad (by show ad.block < _; omega)).trans u0
    have u1 : w.cell? ⟨ad.block, ad.off + 1, none⟩ = some x1 := by simpa [Addr.add] using z1
    have zz1 := fun o => (World.cell?_alloc_lt w o ⟨ad.block, ad.off + 1, none⟩ (by show ad.block < _; omega)).trans u1
    have u2 : w.cell? ⟨ad.block, ad.off + 2, none⟩ = some x2 := by simpa [Addr.add] using z2
    have zz2 := fun o => (World.cell?_alloc_lt w o ⟨ad.block, ad.off + 2, none⟩ (by show ad.block < _; omega)).trans u2
    have u3 : w.cell? ⟨ad.block, ad.off + 3, none⟩ = some x3 := by simpa [Addr.add] using z3
    have zz3 := fun o => (World.cell?_alloc_lt w o ⟨ad.block, ad.off + 3, none⟩ (by show ad.block < _; omega)).trans u3
    have u4 : w.cell? ⟨ad.block, ad.off + 4, none⟩ = some x4 := by simpa [Addr.add] using z4
    have zz4 := fun o => (World.cell?_alloc_lt w o ⟨ad.block, ad.off + 4, none⟩ (by show ad.block < _; omega)).trans u4
    have u5 : w.cell? ⟨ad.block, ad.off + 5, none⟩ = some x5 := by simpa [Addr.add] using z5
    have zz5 := fun o => (World.cell?_alloc_lt w o ⟨ad.block, ad.off + 5, none⟩ (by show ad.block < _; omega)).trans u5
    have u6 : w.cell? ⟨ad.block, ad.off + 6, none⟩ = some x6 := by simpa [Addr.add] using z6
    have zz6 := fun o => (World.cell?_alloc_lt w o ⟨ad.block, ad.off + 6, none⟩ (by show ad.block < _; omega)).trans u6
    have u7 : w.cell? ⟨ad.block, ad.off + 7, none⟩ = some x7 := by simpa [Addr.add] using z7
    have zz7 := fun o => (World.cell?_alloc_lt w o ⟨ad.block, ad.off + 7, none⟩ (by show ad.block < _; omega)).trans u7
    have u8 : w.cell? ⟨ad.block, ad.off + 8, none⟩ = some x8 := by simpa [Addr.add] using z8
    have zz8 := fun o => (World.cell?_alloc_lt w o ⟨ad.block, ad.off + 8, none⟩ (by show ad.block < _; omega)).trans u8
    clear u0 u1 u2 u3 u4 u5 u6 u7 u8
    clear z0 z1 z2 z3 z4 z5 z6 z7 z8
    go_wp2_with fail
    refine (IH.out y0 hm0 [_, _, _, _, _, _, _, _, _] _ B (d - 1) (Nat.le_trans hB (hbx _).size) (hy0.below ((hbx _).mono hB)) (HFK.out y0 hm0)).mono ?_
    rintro e w1 ⟨r0, rfl, hr0, hb0⟩
    have R0 := Lib.hid hr0
    have B0 := boxes1_of hb0
    clear hr0 hb0 zz0 zz1 zz2 zz3 zz4 zz5 zz6 zz7 zz8
    obtain ⟨hb0, hz0, bP0⟩ := boxes1 (P := [_, _, _, _, _, _, _, _, _]) B0
    obtain ⟨cP0, fP0⟩ := blk_rules bP0
    clear bP0
    cases r0 with
    | false =>
      have HN := Lib.hid (show ¬ ev tabSure (.mk 10 n s v kids) = true from fun h => by
        rw [HE.out] at h
        try simp only [Bool.and_eq_true] at h
        have h2 := h.1
        rw [evAt_drop tabSure hd0.out] at h2
        exact absurd (R0.out.2 h2) (by simp))
      go_wp2
      go_ret
      exact PBool.no HN.out hb0
    | true =>
      have T0 := Lib.hid (show evAt tabSure kids 0 = true by rw [evAt_drop tabSure hd0.out]; exact R0.out.1 rfl)
      obtain ⟨ad1, y1, x0, x1, x2, x3, x4, x5, x6, x7, x8, ea, hbl1, hy1, hm1, hd1, z0, z1, z2, z3, z4, z5, z6, z7, z8⟩ := row9_at (HK.out.upto (hb0.mono hB) (Nat.le_refl _)) rfl L1
      injection ea with ea
      subst ea
      have u0 : w1.cell? ⟨ad.block, ad.off + 9, none⟩ = some x0 := by simpa [Addr.add] using z0
      have u1 : w1.cell? ⟨ad.block, ad.off + 9 + 1, none⟩ = some x1 := by simpa [Addr.add] using z1
      have u2 : w1.cell? ⟨ad.block, ad.off + 9 + 2, none⟩ = some x2 := by simpa [Addr.add] using z2
      have u3 : w1.cell? ⟨ad.block, ad.off + 9 + 3, none⟩ = some x3 := by simpa [Addr.add] using z3
      have u4 : w1.cell? ⟨ad.block, ad.off + 9 + 4, none⟩ = some x4 := by simpa [Addr.add] using z4
      have u5 : w1.cell? ⟨ad.block, ad.off + 9 + 5, none⟩ = some x5 := by simpa [Addr.add] using z5
      have u6 : w1.cell? ⟨ad.block, ad.off + 9 + 6, none⟩ = some x6 := by simpa [Addr.add] using z6
      have u7 : w1.cell? ⟨ad.block, ad.off + 9 + 7, none⟩ = some x7 := by simpa [Addr.add] using z7
      have u8 : w1.cell? ⟨ad.block, ad.off + 9 + 8, none⟩ = some x8 := by simpa [Addr.add] using z8
      go_wp2_with fail
      refine (IH.out y1 hm1 [_, _, _, _, _, _, _, _, _] _ B (d - 1) (by omega) hy1 (HFK.out y1 hm1)).mono ?_
      rintro e w2 ⟨r1, rfl, hr1, hc1⟩
      have R1 := Lib.hid hr1
      have B1 := B0.trans (hc1.mono hz0)
      clear hr1 hc1 z0 z1 z2 z3 z4 z5 z6 z7 z8 u0 u1 u2 u3 u4 u5 u6 u7 u8 cP0 fP0
      obtain ⟨hb1, hz1, bP1⟩ := boxes1 (P := [_, _, _, _, _, _, _, _, _]) B1
      obtain ⟨cP1, fP1⟩ := blk_rules bP1
      clear bP1
      cases r1 with
      | false =>
        have HN := Lib.hid (show ¬ ev tabSure (.mk 10 n s v kids) = true from fun h => by
          rw [HE.out] at h
          try simp only [Bool.and_eq_true] at h
          have h2 := h.2
          rw [evAt_drop tabSure hd1.out] at h2
          exact absurd (R1.out.2 h2) (by simp))
        go_wp2
        go_ret
        exact PBool.no HN.out hb1
      | true =>
        have T1 := Lib.hid (show evAt tabSure kids 1 = true by rw [evAt_drop tabSure hd1.out]; exact R1.out.1 rfl)
        have HT := Lib.hid (show ev tabSure (.mk 10 n s v kids) = true by rw [HE.out, T0.out, T1.out] <;> rfl)
        go_wp2
        go_ret
        exact PBool.yes HT.out hb1
  by_cases e11 : kind = 11
  · subst e11
    have hl : kids.length = 2 := by have e : kidsOf 11 = 2 := by decide
                                    omega
    have hl2 : (kids.length : Int) = 2 := by omega
    have HE := Lib.hid (show ev tabSure (.mk 11 n s v kids) = (evAt tabSure kids 0 && evAt tabSure kids 1) by simp [ev, tabSure])
    clear hk1
    have L0 : 0 < kids.length := by omega
    have M0 : (0 : Int) < (kids.length : Int) := by omega
    have L1 : 1 < kids.length := by omega
    have M1 : (1 : Int) < (kids.length : Int) := by omega
    clear hl hl2
    go_enter Tryz.func37, Tryz.ntmps37
    obtain ⟨ad, y0, x0, x1, x2, x3, x4, x5, x6, x7, x8, rfl, hbl, hy0, hm0, hd0, z0, z1, z2, z3, z4, z5, z6, z7, z8⟩ := row9_at HK.out rfl L0
    have u0 : w.cell? ad = some x0 := by simpa [Addr.add] using z0
    have zz0 := fun o => (World.cell?_alloc_lt w o ad (by show ad.block < _; omega)).trans u0
    have u1 : w.cell? ⟨ad.block, ad.off + 1, none⟩ = some x1 := by simpa [Addr.add] using z1
    have zz1 := fun o => (World.cell?_alloc_lt w o ⟨ad.block, ad.off + 1, none⟩ (by show ad.block < _; omega)).trans u1
    have u2 : w.cell? ⟨ad.block, ad.off + 2, none⟩ = some x2 := by simpa [Addr.add] using z2
    have zz2 := fun o => (World.cell?_alloc_lt w o ⟨ad.block, ad.off + 2, none⟩ (by show ad.block < _; omega)).trans u2
    have u3 : w.cell? ⟨ad.block, ad.off + 3, none⟩ = some x3 := by simpa [Addr.add] using z3
    have zz3 := fun o => (World.cell?_alloc_lt w o ⟨ad.block, ad.off + 3, none⟩ (by show ad.block < _; omega)).trans u3
    have u4 : w.cell? ⟨ad.block, ad.off + 4, none⟩ = some x4 := by simpa [Addr.add] using z4
    have zz4 := fun o => (World.cell?_alloc_lt w o ⟨ad.block, ad.off + 4, none⟩ (by show ad.block < _; omega)).trans u4
    have u5 : w.cell? ⟨ad.block, ad.off + 5, none⟩ = some x5 := by simpa [Addr.add] using z5
    have zz5 := fun o => (World.cell?_alloc_lt w o ⟨ad.block, ad.off + 5, none⟩ (by show ad.block < _; omega)).trans u5
    have u6 : w.cell? ⟨ad.block, ad.off + 6, none⟩ = some x6 := by simpa [Addr.add] using z6
    have zz6 := fun o => (World.cell?_alloc_lt w o ⟨ad.block, ad.off + 6, none⟩ (by show ad.block < _; omega)).trans u6
    have u7 : w.cell? ⟨ad.block, ad.off + 7, none⟩ = some x7 := by simpa [Addr.add] using z7
    have zz7 := fun o => (World.cell?_alloc_lt w o ⟨ad.block, ad.off + 7, none⟩ (by show ad.block < _; omega)).trans u7
    have u8 : w.cell? ⟨ad.block, ad.off + 8, none⟩ = some x8 := by simpa [Addr.add] using z8
    have zz8 := fun o => (World.cell?_alloc_lt w o ⟨ad.block, ad.off + 8, none⟩ (by show ad.block < _; omega)).trans u8
    clear u0 u1 u2 u3 u4 u5 u6 u7 u8
    clear z0 z1 z2 z3 z4 z5 z6 z7 z8
    go_wp2_with fail
    refine (IH.out y0 hm0 [_, _, _, _, _, _, _, _, _] _ B (d - 1) (Nat.le_trans hB (hbx _).size) (hy0.below ((hbx _).mono hB)) (HFK.out y0 hm0)).mono ?_
    rintro e w1 ⟨r0, rfl, hr0, hb0⟩
    have R0 := Lib.hid hr0
    have B0 := boxes1_of hb0
    clear hr0 hb0 zz0 zz1 zz2 zz3 zz4 zz5 zz6 zz7 zz8
    obtain ⟨hb0, hz0, bP0⟩ := boxes1 (P := [_, _, _, _, _, _, _, _, _]) B0
    obtain ⟨cP0, fP0⟩ := blk_rules bP0
    clear bP0
    cases r0 with
    | false =>
      have HN := Lib.hid (show ¬ ev tabSure (.mk 11 n s v kids) = true from fun h => by
        rw [HE.out] at h
        try simp only [Bool.and_eq_true] at h
        have h2 := h.1
        rw [evAt_drop tabSure hd0.out] at h2
        exact absurd (R0.out.2 h2) (by simp))
      go_wp2
      go_ret
      exact PBool.no HN.out hb0
    | true =>
      have T0 := Lib.hid (show evAt tabSure kids 0 = true by rw [evAt_drop tabSure hd0.out]; exact R0.out.1 rfl)
      obtain ⟨ad1, y1, x0, x1, x2, x3, x4, x5, x6, x7, x8, ea, hbl1, hy1, hm1, hd1, z0, z1, z2, z3, z4, z5, z6, z7, z8⟩ := row9_at (HK.out.upto (hb0.mono hB) (Nat.le_refl _)) rfl L1
      injection ea with ea
      subst ea
      have u0 : w1.cell? ⟨ad.block, ad.off + 9, none⟩ = some x0 := by simpa [Addr.add] using z0
      have u1 : w1.cell? ⟨ad.block, ad.off + 9 + 1, none⟩ = some x1 := by simpa [Addr.add] using z1
      have u2 : w1.cell? ⟨ad.block, ad.off + 9 + 2, none⟩ = some x2 := by simpa [Addr.add] using z2
      have u3 : w1.cell? ⟨ad.block, ad.off + 9 + 3, none⟩ = some x3 := by simpa [Addr.add] using z3
      have u4 : w1.cell? ⟨ad.block, ad.off + 9 + 4, none⟩ = some x4 := by simpa [Addr.add] using z4
      have u5 : w1.cell? ⟨ad.block, ad.off + 9 + 5, none⟩ = some x5 := by simpa [Addr.add] using z5
      have u6 : w1.cell? ⟨ad.block, ad.off + 9 + 6, none⟩ = some x6 := by simpa [Addr.add] using z6
      have u7 : w1.cell? ⟨ad.block, ad.off + 9 + 7, none⟩ = some x7 := by simpa [Addr.add] using z7
      have u8 : w1.cell? ⟨ad.block, ad.off + 9 + 8, none⟩ = some x8 := by simpa [Addr.add] using z8
      go_wp2_with fail
      refine (IH.out y1 hm1 [_, _, _, _, _, _, _, _, _] _ B (d - 1) (by omega) hy1 (HFK.out y1 hm1)).mono ?_
      rintro e w2 ⟨r1, rfl, hr1, hc1⟩
      have R1 := Lib.hid hr1
      have B1 := B0.trans (hc1.mono hz0)
      clear hr1 hc1 z0 z1 z2 z3 z4 z5 z6 z7 z8 u0 u1 u2 u3 u4 u5 u6 u7 u8 cP0 fP0
      obtain ⟨hb1, hz1, bP1⟩ := boxes1 (P := [_, _, _, _, _, _, _, _, _]) B1
      obtain ⟨cP1, fP1⟩ := blk_rules bP1
      clear bP1
      cases r1 with
      | false =>
        have HN := Lib.hid (show ¬ ev tabSure (.mk 11 n s v kids) = true from fun h => by
          rw [HE.out] at h
          try simp only [Bool.and_eq_true] at h
          have h2 := h.2
          rw [evAt_drop tabSure hd1.out] at h2
          exact absurd (R1.out.2 h2) (by simp))
        go_wp2
        go_ret
        exact PBool.no HN.out hb1
      | true =>
        have T1 := Lib.hid (show evAt tabSure kids 1 = true by rw [evAt_drop tabSure hd1.out]; exact R1.out.1 rfl)
        have HT := Lib.hid (show ev tabSure (.mk 11 n s v kids) = true by rw [HE.out, T0.out, T1.out] <;> rfl)
        go_wp2
        go_ret
        exact PBool.yes HT.out hb1
  by_cases e12 : kind = 12
  · subst e12
    clear hk1
    go_enter Tryz.func37, Tryz.ntmps37
    go_wp2
    go_ret
    exact PBool.no (by simp [ev, tabSure]) (hbx _)
  by_cases e13 : kind = 13
  · subst e13
    clear hk1
    go_enter Tryz.func37, Tryz.ntmps37
    go_wp2
    go_ret
    exact PBool.no (by simp [ev, tabSure]) (hbx _)
  by_cases e14 : kind = 14
  · subst e14
    clear hk1
    go_enter Tryz.func37, Tryz.ntmps37
    go_wp2
    go_ret
    exact PBool.no (by simp [ev, tabSure]) (hbx _)
  by_cases e15 : kind = 15
  · subst e15
    clear hk1
    go_enter Tryz.func37, Tryz.ntmps37
    go_wp2
    go_ret
    exact PBool.yes (by simp [ev, tabSure]) (hbx _)
  by_cases e16 : kind = 16
  · subst e16
    have hl : kids.length = 2 := by have e : kidsOf 16 = 2 := by decide
                                    omega
    have hl2 : (kids.length : Int) = 2 := by omega
    have HE := Lib.hid (show ev tabSure (.mk 16 n s v kids) = (evAt tabSure kids 1) by simp [ev, tabSure])
    clear hk1
    have L0 : 0 < kids.length := by omega
    have M0 : (0 : Int) < (kids.length : Int) := by omega
    have L1 : 1 < kids.length := by omega
    have M1 : (1 : Int) < (kids.length : Int) := by omega
    clear hl hl2
    go_enter Tryz.func37, Tryz.ntmps37
    obtain ⟨ad, y0, x0, x1, x2, x3, x4, x5, x6, x7, x8, rfl, hbl, hy0, hm0, hd0, z0, z1, z2, z3, z4, z5, z6, z7, z8⟩ := row9_at HK.out rfl L1
    have u0 : w.cell? ⟨ad.block, ad.off + 9, none⟩ = some x0 := by simpa [Addr.add] using z0
    have zz0 := fun o => (World.cell?_alloc_lt w o ⟨ad.block, ad.off + 9, none⟩ (by show ad.block < _; omega)).trans u0
    have u1 : w.cell? ⟨ad.block, ad.off + 9 + 1, none⟩ = some x1 := by simpa [Addr.add] using z1
    have zz1 := fun o => (World.cell?_alloc_lt w o ⟨ad.block, ad.off + 9 + 1, none⟩ (by show ad.block < _; omega)).trans u1
    have u2 : w.cell? ⟨ad.block, ad.off + 9 + 2, none⟩ = some x2 := by simpa [Addr.add] using z2
    have zz2 := fun o => (World.cell?_alloc_lt w o ⟨ad.block, ad.off + 9 + 2, none⟩ (by show ad.block < _; omega)).trans u2
    have u3 : w.cell? ⟨ad.block, ad.off + 9 + 3, none⟩ = some x3 := by simpa [Addr.add] using z3
    have zz3 := fun o => (World.cell?_alloc_lt w o ⟨ad.block, ad.off + 9 + 3, none⟩ (by show ad.block < _; omega)).trans u3
    have u4 : w.cell? ⟨ad.block, ad.off + 9 + 4, none⟩ = some x4 := by simpa [Addr.add] using z4
    have zz4 := fun o => (World.cell?_alloc_lt w o ⟨ad.block, ad.off + 9 + 4, none⟩ (by show ad.block < _; omega)).trans u4
    have u5 : w.cell? ⟨ad.block, ad.off + 9 + 5, none⟩ = some x5 := by simpa [Addr.add] using z5
    have zz5 := fun o => (World.cell?_alloc_lt w o ⟨ad.block, ad.off + 9 + 5, none⟩ (by show ad.block < _; omega)).trans u5
    have u6 : w.cell? ⟨ad.block, ad.off + 9 + 6, none⟩ = some x6 := by simpa [Addr.add] using z6
    have zz6 := fun o => (World.cell?_alloc_lt w o ⟨ad.block, ad.off + 9 + 6, none⟩ (by show ad.block < _; omega)).trans u6
    have u7 : w.cell? ⟨ad.block, ad.off + 9 + 7, none⟩ = some x7 := by simpa [Addr.add] using z7
    have zz7 := fun o => (World.cell?_alloc_lt w o ⟨ad.block, ad.off + 9 + 7, none⟩ (by show ad.block < _; omega)).trans u7
    have u8 : w.cell? ⟨ad.block, ad.off + 9 + 8, none⟩ = some x8 := by simpa [Addr.add] using z8
    have zz8 := fun o => (World.cell?_alloc_lt w o ⟨ad.block, ad.off + 9 + 8, none⟩ (by show ad.block < _; omega)).trans u8
    clear u0 u1 u2 u3 u4 u5 u6 u7 u8
    clear z0 z1 z2 z3 z4 z5 z6 z7 z8
    go_wp2_with fail
    refine (IH.out y0 hm0 [_, _, _, _, _, _, _, _, _] _ B (d - 1) (Nat.le_trans hB (hbx _).size) (hy0.below ((hbx _).mono hB)) (HFK.out y0 hm0)).mono ?_
    rintro e w1 ⟨r0, rfl, hr0, hb0⟩
    have R0 := Lib.hid hr0
    have B0 := boxes1_of hb0
    clear hr0 hb0 zz0 zz1 zz2 zz3 zz4 zz5 zz6 zz7 zz8
    obtain ⟨hb0, hz0, bP0⟩ := boxes1 (P := [_, _, _, _, _, _, _, _, _]) B0
    obtain ⟨cP0, fP0⟩ := blk_rules bP0
    clear bP0
    cases r0 with
    | false =>
      have HN := Lib.hid (show ¬ ev tabSure (.mk 16 n s v kids) = true from fun h => by
        rw [HE.out] at h
        try simp only [Bool.and_eq_true] at h
        have h2 := h
        rw [evAt_drop tabSure hd0.out] at h2
        exact absurd (R0.out.2 h2) (by simp))
      go_wp2
      go_ret
      exact PBool.no HN.out hb0
    | true =>
      have T0 := Lib.hid (show evAt tabSure kids 1 = true by rw [evAt_drop tabSure hd0.out]; exact R0.out.1 rfl)
      have HT := Lib.hid (show ev tabSure (.mk 16 n s v kids) = true by rw [HE.out, T0.out] <;> rfl)
      go_wp2
      go_ret
      exact PBool.yes HT.out hb0
  by_cases e17 : kind = 17
  · subst e17
    clear hk1
    go_enter Tryz.func37, Tryz.ntmps37
    go_wp2
    go_ret
    exact PBool.yes (by simp [ev, tabSure]) (hbx _)
  by_cases e18 : kind = 18
  · subst e18
    clear hk1
    go_enter Tryz.func37, Tryz.ntmps37
    go_wp2
    go_ret
    exact PBool.yes (by simp [ev, tabSure]) (hbx _)
  by_cases e19 : kind = 19
  · subst e19
    clear hk1
    go_enter Tryz.func37, Tryz.ntmps37
    go_wp2
    go_ret
    exact PBool.no (by simp [ev, tabSure]) (hbx _)
  by_cases e20 : kind = 20
  · subst e20
    clear hk1
    go_enter Tryz.func37, Tryz.ntmps37
    go_wp2
    go_ret
    exact PBool.no (by simp [ev, tabSure]) (hbx _)
  by_cases e21 : kind = 21
  · subst e21
    clear hk1
    go_enter Tryz.func37, Tryz.ntmps37
    go_wp2
    go_ret
    exact PBool.no (by simp [ev, tabSure]) (hbx _)
  exfalso
  omega
theorem evSureS_calls : ∀ x, EvC 37 tabSure x := Filt.ind fun kind n s v kids ih => evSureS_of _ fun _ _ _ _ _ e => by
  injection e with e1 e2 e3 e4 e5
  subst e5
  exact ih
end Go.Proofs.YtppfgepoegicgaaGreatDoor
namespace Go.Proofs.YtppfgepoegicgaaGreatDoor
open Go Go.RowKit

set_option maxRecDepth 100000 in
set_option maxHeartbeats 8000000 in
theorem evSure_of (x : Filt) (ih : ∀ kind n s v kids, x = .mk kind n s v kids → ∀ y ∈ kids, EvC 45 tabSure y) : EvC 45 tabSure x := by
  intro us w B d hB h hF
  obtain ⟨kind, n, s, v, kids, a3, a4, a5, A6, n6, q6, A7, n7, q7, A8, q8, rfl, rfl, hs, hv, hk⟩ := filtDs_all h
  have IH := Lib.hid (ih _ _ _ _ _ rfl)
  have hff := (fform_iff (fform_pos hF)).1 hF
  have hk1 := hff.1.1
  have HFK := Lib.hid hff.2.1
  have hn := hk.len
  have hr := kidsOf_range (k := kind) (by omega)
  have HK := Lib.hid hk
  have hbx := fun o => below_box w o
  clear ih hF hff h hv hk hs
  by_cases e1 : kind = 1
  · subst e1
    clear hk1
    go_enter Tryz.func45, Tryz.ntmps45
    go_wp2
    go_ret
    exact PBool.yes (by simp [ev, tabSure]) (hbx _)
  by_cases e2 : kind = 2
  · subst e2
    clear hk1
    go_enter Tryz.func45, Tryz.ntmps45
    go_wp2
    go_ret
    exact PBool.yes (by simp [ev, tabSure]) (hbx _)
  by_cases e3 : kind = 3
  · subst e3
    clear hk1
    go_enter Tryz.func45, Tryz.ntmps45
    go_wp2
    go_ret
    exact PBool.no (by simp [ev, tabSure]) (hbx _)
  by_cases e4 : kind = 4
  · subst e4
    clear hk1
    go_enter Tryz.func45, Tryz.ntmps45
    go_wp2
    go_ret
    exact PBool.no (by simp [ev, tabSure]) (hbx _)
  by_cases e5 : kind = 5
  · subst e5
    clear hk1
    go_enter Tryz.func45, Tryz.ntmps45
    go_wp2
    go_ret
    exact PBool.no (by simp [ev, tabSure]) (hbx _)
  by_cases e6 : kind = 6
  · subst e6
    have hl : kids.length = 2 := by have e : kidsOf 6 = 2 := by decide
                                    omega
    have hl2 : (kids.length : Int) = 2 := by omega
    have HE := Lib.hid (show ev tabSure (.mk 6 n s v kids) = (evAt tabSure kids 0 && evAt tabSure kids 1) by simp [ev, tabSure])
    clear hk1
    have L0 : 0 < kids.length := by omega
    have M0 : (0 : Int) < (kids.length : Int) := by omega
    have L1 : 1 < kids.length := by omega
    have M1 : (1 : Int) < (kids.length : Int) := by omega
    clear hl hl2
    go_enter Tryz.func45, Tryz.ntmps45
    obtain ⟨ad, y0, x0, x1, x2, x3, x4, x5, x6, x7, x8, rfl, hbl, hy0, hm0, hd0, z0, z1, z2, z3, z4, z5, z6, z7, z8⟩ := row9_at HK.out rfl L0
    have u0 : w.cell? ad = some x0 := by simpa [Addr.add] using z0
    have zz0 := fun o => (World.cell?_alloc_lt w o ad (by show ad.block < _; omega)).trans u0
    have u1 : w.cell? ⟨ad.block, ad.off + 1, none⟩ = some x1 := by simpa [Addr.add] using z1
    have zz1 := fun o => (World.cell?_alloc_lt w o ⟨ad.block, ad.off + 1, none⟩ (by show ad.block < _; omega)).trans u1
    have u2 : w.cell? ⟨ad.block, ad.off + 2, none⟩ = some x2 := by simpa [Addr.add] using z2
    have zz2 := fun o => (World.cell?_alloc_lt w o ⟨ad.block, ad.off + 2, none⟩ (by show ad.block < _; omega)).trans u2
    have u3 : w.cell? ⟨ad.block, ad.off + 3, none⟩ = some x3 := by simpa [Addr.add] using z3
    have zz3 := fun o => (World.cell?_alloc_lt w o ⟨ad.block, ad.off + 3, none⟩ (by show ad.block < _; omega)).trans u3
    have u4 : w.cell? ⟨ad.block, ad.off + 4, none⟩ = some x4 := by simpa [Addr.add] using z4
    have zz4 := fun o => (World.cell?_alloc_lt w o ⟨ad.block, ad.off + 4, none⟩ (by show ad.block < _; omega)).trans u4
    have u5 : w.cell? ⟨ad.block, ad.off + 5, none⟩ = some x5 := by simpa [Addr.add] using z5
    have zz5 := fun o => (World.cell?_alloc_lt w o ⟨ad.block, ad.off + 5, none⟩ (by show ad.block < _; omega)).trans u5
    have u6 : w.cell? ⟨ad.block, ad.off + 6, none⟩ = some x6 := by simpa [Addr.add] using z6
    have zz6 := fun o => (World.cell?_alloc_lt w o ⟨ad.block, ad.off + 6, none⟩ (by show ad.block < _; omega)).trans u6
    have u7 : w.cell? ⟨ad.block, ad.off + 7, none⟩ = some x7 := by simpa [Addr.add] using z7
    have zz7 := fun o => (World.cell?_alloc_lt w o ⟨ad.block, ad.off + 7, none⟩ (by show ad.block < _; omega)).trans u7
    have u8 : w.cell? ⟨ad.block, ad.off + 8, none⟩ = some x8 := by simpa [Addr.add] using z8
    have zz8 := fun o => (World.cell?_alloc_lt w o ⟨ad.block, ad.off + 8, none⟩ (by show ad.block < _; omega)).trans u8
    clear u0 u1 u2 u3 u4 u5 u6 u7 u8
    clear z0 z1 z2 z3 z4 z5 z6 z7 z8
    go_wp2_with fail
    refine (IH.out y0 hm0 [_, _, _, _, _, _, _, _, _] _ B (d - 1) (Nat.le_trans hB (hbx _).size) (hy0.below ((hbx _).mono hB)) (HFK.out y0 hm0)).mono ?_
    rintro e w1 ⟨r0, rfl, hr0, hb0⟩
    have R0 := Lib.hid hr0
    have B0 := boxes1_of hb0
    clear hr0 hb0 zz0 zz1 zz2 zz3 zz4 zz5 zz6 zz7 zz8
    obtain ⟨hb0, hz0, bP0⟩ := boxes1 (P := [_, _, _, _, _, _, _, _, _]) B0
    obtain ⟨cP0, fP0⟩ := blk_rules bP0
    clear bP0
    cases r0 with
    | false =>
      have HN := Lib.hid (show ¬ ev tabSure (.mk 6 n s v kids) = true from fun h => by
        rw [HE.out] at h
        try simp only [Bool.and_eq_true] at h
        have h2 := h.1
        rw [evAt_drop tabSure hd0.out] at h2
        exact absurd (R0.out.2 h2) (by simp))
      go_wp2
      go_ret
      exact PBool.no HN.out hb0
    | true =>
      have T0 := Lib.hid (show evAt tabSure kids 0 = true by rw [evAt_drop tabSure hd0.out]; exact R0.out.1 rfl)
      obtain ⟨ad1, y1, x0, x1, x2, x3, x4, x5, x6, x7, x8, ea, hbl1, hy1, hm1, hd1, z0, z1, z2, z3, z4, z5, z6, z7, z8⟩ := row9_at (HK.out.upto (hb0.mono hB) (Nat.le_refl _)) rfl L1
      injection ea with ea
      subst ea
      have u0 : w1.cell? ⟨ad.block, ad.off + 9, none⟩ = some x0 := by simpa [Addr.add] using z0
      have u1 : w1.cell? ⟨ad.block, ad.off + 9 + 1, none⟩ = some x1 := by simpa [Addr.add] using z1
      have u2 : w1.cell? ⟨ad.block, ad.off + 9 + 2, none⟩ = some x2 := by simpa [Addr.add] using z2
      have u3 : w1.cell? ⟨ad.block, ad.off + 9 + 3, none⟩ = some x3 := by simpa [Addr.add] using z3
      have u4 : w1.cell? ⟨ad.block, ad.off + 9 + 4, none⟩ = some x4 := by simpa [Addr.add] using z4
      have u5 : w1.cell? ⟨ad.block, ad.off + 9 + 5, none⟩ = some x5 := by simpa [Addr.add] using z5
      have u6 : w1.cell? ⟨ad.block, ad.off + 9 + 6, none⟩ = some x6 := by simpa [Addr.add] using z6
      have u7 : w1.cell? ⟨ad.block, ad.off + 9 + 7, none⟩ = some x7 := by simpa [Addr.add] using z7
      have u8 : w1.cell? ⟨ad.block, ad.off + 9 + 8, none⟩ = some x8 := by simpa [Addr.add] using z8
      go_wp2_with fail
      refine (IH.out y1 hm1 [_, _, _, _, _, _, _, _, _] _ B (d - 1) (by omega) hy1 (HFK.out y1 hm1)).mono ?_
      rintro e w2 ⟨r1, rfl, hr1, hc1⟩
      have R1 := Lib.hid hr1
      have B1 := B0.trans (hc1.mono hz0)
      clear hr1 hc1 z0 z1 z2 z3 z4 z5 z6 z7 z8 u0 u1 u2 u3 u4 u5 u6 u7 u8 cP0 fP0
      obtain ⟨hb1, hz1, bP1⟩ := boxes1 (P := [_, _, _, _, _, _, _, _, _]) B1
      obtain ⟨cP1, fP1⟩ := blk_rules bP1
      clear bP1
      cases r1 with
      | false =>
        have HN := Lib.hid (show ¬ ev tabSure (.mk 6 n s v kids) = true from fun h => by
          rw [HE.out] at h
          try simp only [Bool.and_eq_true] at h
          have h2 := h.2
          rw [evAt_drop tabSure hd1.out] at h2
          exact absurd (R1.out.2 h2) (by simp))
        go_wp2
        go_ret
        exact PBool.no HN.out hb1
      | true =>
        have T1 := Lib.hid (show evAt tabSure kids 1 = true by rw [evAt_drop tabSure hd1.out]; exact R1.out.1 rfl)
        have HT := Lib.hid (show ev tabSure (.mk 6 n s v kids) = true by rw [HE.out, T0.out, T1.out] <;> rfl)
        go_wp2
        go_ret
        exact PBool.yes HT.out hb1
  by_cases e7 : kind = 7
  · subst e7
    have hl : kids.length = 2 := by have e : kidsOf 7 = 2 := by decide
                                    omega
    have hl2 : (kids.length : Int) = 2 := by omega
    have HE := Lib.hid (show ev tabSure (.mk 7 n s v kids) = (evAt tabSure kids 0 && evAt tabSure kids 1) by simp [ev, tabSure])
    clear hk1
    have L0 : 0 < kids.length := by omega
    have M0 : (0 : Int) < (kids.length : Int) := by omega
    have L1 : 1 < kids.length := by omega
    have M1 : (1 : Int) < (kids.length : Int) := by omega
    clear hl hl2
    go_enter Tryz.func45, Tryz.ntmps45
    obtain ⟨ad, y0, x0, x1, x2, x3, x4, x5, x6, x7, x8, rfl, hbl, hy0, hm0, hd0, z0, z1, z2, z3, z4, z5, z6, z7, z8⟩ := row9_at HK.out rfl L0
    have u0 : w.cell? ad = some x0 := by simpa [Addr.add] using z0
    have zz0 := fun o => (World.cell?_alloc_lt w o ad (by show ad.block < _; omega)).trans u0
    have u1 : w.cell? ⟨ad.block, ad.off + 1, none⟩ = some x1 := by simpa [Addr.add] using z1
    have zz1 := fun o => (World.cell?_alloc_lt w o ⟨ad.block, ad.off + 1, none⟩ (by show ad.block < _; omega)).trans u1
    have u2 : w.cell? ⟨ad.block, ad.off + 2, none⟩ = some x2 := by simpa [Addr.add] using z2
    have zz2 := fun o => (World.cell?_alloc_lt w o ⟨ad.block, ad.off + 2, none⟩ (by show ad.block < _; omega)).trans u2
    have u3 : w.cell? ⟨ad.block, ad.off + 3, none⟩ = some x3 := by simpa [Addr.add] using z3
    have zz3 := fun o => (World.cell?_alloc_lt w o ⟨ad.block, ad.off + 3, none⟩ (by show ad.block < _; omega)).trans u3
    have u4 : w.cell? ⟨ad.block, ad.off + 4, none⟩ = some x4 := by simpa [Addr.add] using z4
    have zz4 := fun o => (World.cell?_alloc_lt w o ⟨ad.block, ad.off + 4, none⟩ (by show ad.block < _; omega)).trans u4
    have u5 : w.cell? ⟨ad.block, ad.off + 5, none⟩ = some x5 := by simpa [Addr.add] using z5
    have zz5 := fun o => (World.cell?_alloc_lt w o ⟨ad.block, ad.off + 5, none⟩ (by show ad.block < _; omega)).trans u5
    have u6 : w.cell? ⟨ad.block, ad.off + 6, none⟩ = some x6 := by simpa [Addr.add] using z6
    have zz6 := fun o => (World.cell?_alloc_lt w o ⟨ad.block, ad.off + 6, none⟩ (by show ad.block < _; omega)).trans u6
    have u7 : w.cell? ⟨ad.block, ad.off + 7, none⟩ = some x7 := by simpa [Addr.add] using z7
    have zz7 := fun o => (World.cell?_alloc_lt w o ⟨ad.block, ad.off + 7, none⟩ (by show ad.block < _; omega)).trans u7
    have u8 : w.cell? ⟨ad.block, ad.off + 8, none⟩ = some x8 := by simpa [Addr.add] using z8
    have zz8 := fun o => (World.cell?_alloc_lt w o ⟨ad.block, ad.off + 8, none⟩ (by show ad.block < _; omega)).trans u8
    clear u0 u1 u2 u3 u4 u5 u6 u7 u8
    clear z0 z1 z2 z3 z4 z5 z6 z7 z8
    go_wp2_with fail
    refine (IH.out y0 hm0 [_, _, _, _, _, _, _, _, _] _ B (d - 1) (Nat.le_trans hB (hbx _).size) (hy0.below ((hbx _).mono hB)) (HFK.out y0 hm0)).mono ?_
    rintro e w1 ⟨r0, rfl, hr0, hb0⟩
    have R0 := Lib.hid hr0
    have B0 := boxes1_of hb0
    clear hr0 hb0 zz0 zz1 zz2 zz3 zz4 zz5 zz6 zz7 zz8
    obtain ⟨hb0, hz0, bP0⟩ := boxes1 (P := [_, _, _, _, _, _, _, _, _]) B0
    obtain ⟨cP0, fP0⟩ := blk_rules bP0
    clear bP0
    cases r0 with
    | false =>
      have HN := Lib.hid (show ¬ ev tabSure (.mk 7 n s v kids) = true from fun h => by
        rw [HE.out] at h
        try simp only [Bool.and_eq_true] at h
        have h2 := h.1
        rw [evAt_drop tabSure hd0.out] at h2
        exact absurd (R0.out.2 h2) (by simp))
      go_wp2
      go_ret
      exact PBool.no HN.out hb0
    | true =>
      have T0 := Lib.hid (show evAt tabSure kids 0 = true by rw [evAt_drop tabSure hd0.out]; exact R0.out.1 rfl)
      obtain ⟨ad1, y1, x0, x1, x2, x3, x4, x5, x6, x7, x8, ea, hbl1, hy1, hm1, hd1, z0, z1, z2, z3, z4, z5, z6, z7, z8⟩ := row9_at (HK.out.upto (hb0.mono hB) (Nat.le_refl _)) rfl L1
      injection ea with ea
      subst ea
      have u0 : w1.cell? ⟨ad.block, ad.off + 9, none⟩ = some x0 := by simpa [Addr.add] using z0
      have u1 : w1.cell? ⟨ad.block, ad.off + 9 + 1, none⟩ = some x1 := by simpa [Addr.add] using z1
      have u2 : w1.cell? ⟨ad.block, ad.off + 9 + 2, none⟩ = some x2 := by simpa [Addr.add] using z2
      have u3 : w1.cell? ⟨ad.block, ad.off + 9 + 3, none⟩ = some x3 := by simpa [Addr.add] using z3
      have u4 : w1.cell? ⟨ad.block, ad.off + 9 + 4, none⟩ = some x4 := by simpa [Addr.add] using z4
      have u5 : w1.cell? ⟨ad.block, ad.off + 9 + 5, none⟩ = some x5 := by simpa [Addr.add] using z5
      have u6 : w1.cell? ⟨ad.block, ad.off + 9 + 6, none⟩ = some x6 := by simpa [Addr.add] using z6
      have u7 : w1.cell? ⟨ad.block, ad.off + 9 + 7, none⟩ = some x7 := by simpa [Addr.add] using z7
      have u8 : w1.cell? ⟨ad.block, ad.off + 9 + 8, none⟩ = some x8 := by simpa [Addr.add] using z8
      go_wp2_with fail
      refine (IH.out y1 hm1 [_, _, _, _, _, _, _, _, _] _ B (d - 1) (by omega) hy1 (HFK.out y1 hm1)).mono ?_
      rintro e w2 ⟨r1, rfl, hr1, hc1⟩
      have R1 := Lib.hid hr1
      have B1 := B0.trans (hc1.mono hz0)
      clear hr1 hc1 z0 z1 z2 z3 z4 z5 z6 z7 z8 u0 u1 u2 u3 u4 u5 u6 u7 u8 cP0 fP0
      obtain ⟨hb1, hz1, bP1⟩ := boxes1 (P := [_, _, _, _, _, _, _, _, _]) B1
      obtain ⟨cP1, fP1⟩ := blk_rules bP1
      clear bP1
      cases r1 with
      | false =>
        have HN := Lib.hid (show ¬ ev tabSure (.mk 7 n s v kids) = true from fun h => by
          rw [HE.out] at h
          try simp only [Bool.and_eq_true] at h
          have h2 := h.2
          rw [evAt_drop tabSure hd1.out] at h2
          exact absurd (R1.out.2 h2) (by simp))
        go_wp2
        go_ret
        exact PBool.no HN.out hb1
      | true =>
        have T1 := Lib.hid (show evAt tabSure kids 1 = true by rw [evAt_drop tabSure hd1.out]; exact R1.out.1 rfl)
        have HT := Lib.hid (show ev tabSure (.mk 7 n s v kids) = true by rw [HE.out, T0.out, T1.out] <;> rfl)
        go_wp2
        go_ret
        exact PBool.yes HT.out hb1
  by_cases e8 : kind = 8
  · subst e8
    have hl : kids.length = 3 := by have e : kidsOf 8 = 3 := by decide
                                    omega
    have hl2 : (kids.length : Int) = 3 := by omega
    have HE := Lib.hid (show ev tabSure (.mk 8 n s v kids) = (evAt tabSure kids 0 && (evAt tabSure kids 1 && evAt tabSure kids 2)) by simp [ev, tabSure])
    clear hk1
    have L0 : 0 < kids.length := by omega
    have M0 : (0 : Int) < (kids.length : Int) := by omega
    have L1 : 1 < kids.length := by omega
    have M1 : (1 : Int) < (kids.length : Int) := by omega
    have L2 : 2 < kids.length := by omega
    have M2 : (2 : Int) < (kids.length : Int) := by omega
    clear hl hl2
    go_enter Tryz.func45, Tryz.ntmps45
    obtain ⟨ad, y0, x0, x1, x2, x3, x4, x5, x6, x7, x8, rfl, hbl, hy0, hm0, hd0, z0, z1, z2, z3, z4, z5, z6, z7, z8⟩ := row9_at HK.out rfl L0
    have u0 : w.cell? ad = some x0 := by simpa [Addr.add] using z0
    have zz0 := fun o => (World.cell?_alloc_lt w o ad (by show ad.block < _; omega)).trans u0
    have u1 : w.cell? ⟨ad.block, ad.off + 1, none⟩ = some x1 := by simpa [Addr.add] using z1
    have zz1 := fun o => (World.cell?_alloc_lt w o ⟨ad.block, ad.off + 1, none⟩ (by show ad.block < _; omega)).trans u1
    have u2 : w.cell? ⟨ad.block, ad.off + 2, none⟩ = some x2 := by simpa [Addr.add] using z2
    have zz2 := fun o => (World.cell?_alloc_lt w o ⟨ad.block, ad.off + 2, none⟩ (by show ad.block < _; omega)).trans u2
    have u3 : w.cell? ⟨ad.block, ad.off + 3, none⟩ = some x3 := by simpa [Addr.add] using z3
    have zz3 := fun o => (World.cell?_alloc_lt w o ⟨ad.block, ad.off + 3, none⟩ (by show ad.block < _; omega)).trans u3
    have u4 : w.cell? ⟨ad.block, ad.off + 4, none⟩ = some x4 := by simpa [Addr.add] using z4
    have zz4 := fun o => (World.cell?_alloc_lt w o ⟨ad.block, ad.off + 4, none⟩ (by show ad.block < _; omega)).trans u4
    have u5 : w.cell? ⟨ad.block, ad.off + 5, none⟩ = some x5 := by simpa [Addr.add] using z5
    have zz5 := fun o => (World.cell?_alloc_lt w o ⟨ad.block, ad.off + 5, none⟩ (by show ad.block < _; omega)).trans u5
    have u6 : w.cell? ⟨ad.block, ad.off + 6, none⟩ = some x6 := by simpa [Addr.add] using z6
    have zz6 := fun o => (World.cell?_alloc_lt w o ⟨ad.block, ad.off + 6, none⟩ (by show ad.block < _; omega)).trans u6
    have u7 : w.cell? ⟨ad.block, ad.off + 7, none⟩ = some x7 := by simpa [Addr.add] using z7
    have zz7 := fun o => (World.cell?_alloc_lt w o ⟨ad.block, ad.off + 7, none⟩ (by show ad.block < _; omega)).trans u7
    have u8 : w.cell? ⟨ad.block, ad.off + 8, none⟩ = some x8 := by simpa [Addr.add] using z8
    have zz8 := fun o => (World.cell?_alloc_lt w o ⟨ad.block, ad.off + 8, none⟩ (by show ad.block < _; omega)).trans u8
    clear u0 u1 u2 u3 u4 u5 u6 u7 u8
    clear z0 z1 z2 z3 z4 z5 z6 z7 z8
    go_wp2_with fail
    refine (IH.out y0 hm0 [_, _, _, _, _, _, _, _, _] _ B (d - 1) (Nat.le_trans hB (hbx _).size) (hy0.below ((hbx _).mono hB)) (HFK.out y0 hm0)).mono ?_
    rintro e w1 ⟨r0, rfl, hr0, hb0⟩
    have R0 := Lib.hid hr0
    have B0 := boxes1_of hb0
    clear hr0 hb0 zz0 zz1 zz2 zz3 zz4 zz5 zz6 zz7 zz8
    obtain ⟨hb0, hz0, bP0⟩ := boxes1 (P := [_, _, _, _, _, _, _, _, _]) B0
    obtain ⟨cP0, fP0⟩ := blk_rules bP0
    clear bP0
    cases r0 with
    | false =>
      have HN := Lib.hid (show ¬ ev tabSure (.mk 8 n s v kids) = true from fun h => by
        rw [HE.out] at h
        try simp only [Bool.and_eq_true] at h
        have h2 := h.1
        rw [evAt_drop tabSure hd0.out] at h2
        exact absurd (R0.out.2 h2) (by simp))
      go_wp2
      go_ret
      exact PBool.no HN.out hb0
    | true =>
      have T0 := Lib.hid (show evAt tabSure kids 0 = true by rw [evAt_drop tabSure hd0.out]; exact R0.out.1 rfl)
      obtain ⟨ad1, y1, x0, x1, x2, x3, x4, x5, x6, x7, x8, ea, hbl1, hy1, hm1, hd1, z0, z1, z2, z3, z4, z5, z6, z7, z8⟩ := row9_at (HK.out.upto (hb0.mono hB) (Nat.le_refl _)) rfl L1
      injection ea with ea
      subst ea
      have u0 : w1.cell? ⟨ad.block, ad.off + 9, none⟩ = some x0 := by simpa [Addr.add] using z0
      have u1 : w1.cell? ⟨ad.block, ad.off + 9 + 1, none⟩ = some x1 := by simpa [Addr.add] using z1
      have u2 : w1.cell? ⟨ad.block, ad.off + 9 + 2, none⟩ = some x2 := by simpa [Addr.add] using z2
      have u3 : w1.cell? ⟨ad.block, ad.off + 9 + 3, none⟩ = some x3 := by simpa [Addr.add] using z3
      have u4 : w1.cell? ⟨ad.block, ad.off + 9 + 4, none⟩ = some x4 := by simpa [Addr.add] using z4
      have u5 : w1.cell? ⟨ad.block, ad.off + 9 + 5, none⟩ = some x5 := by simpa [Addr.add] using z5
      have u6 : w1.cell? ⟨ad.block, ad.off + 9 + 6, none⟩ = some x6 := by simpa [Addr.add] using z6
      have u7 : w1.cell? ⟨ad.block, ad.off + 9 + 7, none⟩ = some x7 := by simpa [Addr.add] using z7
      have u8 : w1.cell? ⟨ad.block, ad.off + 9 + 8, none⟩ = some x8 := by simpa [Addr.add] using z8
      go_wp2_with fail
      refine (IH.out y1 hm1 [_, _, _, _, _, _, _, _, _] _ B (d - 1) (by omega) hy1 (HFK.out y1 hm1)).mono ?_
      rintro e w2 ⟨r1, rfl, hr1, hc1⟩
      have R1 := Lib.hid hr1
      have B1 := B0.trans (hc1.mono hz0)
      clear hr1 hc1 z0 z1 z2 z3 z4 z5 z6 z7 z8 u0 u1 u2 u3 u4 u5 u6 u7 u8 cP0 fP0
      obtain ⟨hb1, hz1, bP1⟩ := boxes1 (P := [_, _, _, _, _, _, _, _, _]) B1
      obtain ⟨cP1, fP1⟩ := blk_rules bP1
      clear bP1
      cases r1 with
      | false =>
        have HN := Lib.hid (show ¬ ev tabSure (.mk 8 n s v kids) = true from fun h => by
          rw [HE.out] at h
          try simp only [Bool.and_eq_true] at h
          have h2 := h.2.1
          rw [evAt_drop tabSure hd1.out] at h2
          exact absurd (R1.out.2 h2) (by simp))
        go_wp2
        go_ret
        exact PBool.no HN.out hb1
      | true =>
        have T1 := Lib.hid (show evAt tabSure kids 1 = true by rw [evAt_drop tabSure hd1.out]; exact R1.out.1 rfl)
        obtain ⟨ad2, y2, x0, x1, x2, x3, x4, x5, x6, x7, x8, ea, hbl2, hy2, hm2, hd2, z0, z1, z2, z3, z4, z5, z6, z7, z8⟩ := row9_at (HK.out.upto (hb1.mono hB) (Nat.le_refl _)) rfl L2
        injection ea with ea
        subst ea
        have u0 : w2.cell? ⟨ad.block, ad.off + 18, none⟩ = some x0 := by simpa [Addr.add] using z0
        have u1 : w2.cell? ⟨ad.block, ad.off + 18 + 1, none⟩ = some x1 := by simpa [Addr.add] using z1
        have u2 : w2.cell? ⟨ad.block, ad.off + 18 + 2, none⟩ = some x2 := by simpa [Addr.add] using z2
        have u3 : w2.cell? ⟨ad.block, ad.off + 18 + 3, none⟩ = some x3 := by simpa [Addr.add] using z3
        have u4 : w2.cell? ⟨ad.block, ad.off + 18 + 4, none⟩ = some x4 := by simpa [Addr.add] using z4
        have u5 : w2.cell? ⟨ad.block, ad.off + 18 + 5, none⟩ = some x5 := by simpa [Addr.add] using z5
        have u6 : w2.cell? ⟨ad.block, ad.off + 18 + 6, none⟩ = some x6 := by simpa [Addr.add] using z6
        have u7 : w2.cell? ⟨ad.block, ad.off + 18 + 7, none⟩ = some x7 := by simpa [Addr.add] using z7
        have u8 : w2.cell? ⟨ad.block, ad.off + 18 + 8, none⟩ = some x8 := by simpa [Addr.add] using z8
        go_wp2_with fail
        refine (IH.out y2 hm2 [_, _, _, _, _, _, _, _, _] _ B (d - 1) (by omega) hy2 (HFK.out y2 hm2)).mono ?_
        rintro e w3 ⟨r2, rfl, hr2, hc2⟩
        have R2 := Lib.hid hr2
        have B2 := B1.trans (hc2.mono hz1)
        clear hr2 hc2 z0 z1 z2 z3 z4 z5 z6 z7 z8 u0 u1 u2 u3 u4 u5 u6 u7 u8 cP1 fP1
        obtain ⟨hb2, hz2, bP2⟩ := boxes1 (P := [_, _, _, _, _, _, _, _, _]) B2
        obtain ⟨cP2, fP2⟩ := blk_rules bP2
        clear bP2
        cases r2 with
        | false =>
          have HN := Lib.hid (show ¬ ev tabSure (.mk 8 n s v kids) = true from fun h => by
            rw [HE.out] at h
            try simp only [Bool.and_eq_true] at h
            have h2 := h.2.2
            rw [evAt_drop tabSure hd2.out] at h2
            exact absurd (R2.out.2 h2) (by simp))
          go_wp2
          go_ret
          exact PBool.no HN.out hb2
        | true =>
          have T2 := Lib.hid (show evAt tabSure kids 2 = true by rw [evAt_drop tabSure hd2.out]; exact R2.out.1 rfl)
          have HT := Lib.hid (show ev tabSure (.mk 8 n s v kids) = true by rw [HE.out, T0.out, T1.out, T2.out] <;> rfl)
          go_wp2
          go_ret
          exact PBool.yes HT.out hb2
  by_cases e9 : kind = 9
  · subst e9
    clear hk1
    go_enter Tryz.func45, Tryz.ntmps45
    go_wp2
    go_ret
    exact PBool.no (by simp [ev, tabSure]) (hbx _)
  by_cases e10 : kind = 10
  · subst e10
    have hl : kids.length = 2 := by have e : kidsOf 10 = 2 := by decide
                                    omega
    have hl2 : (kids.length : Int) = 2 := by omega
    have HE := Lib.hid (show ev tabSure (.mk 10 n s v kids) = (evAt tabSure kids 0 && evAt tabSure kids 1) by simp [ev, tabSure])
    clear hk1
    have L0 : 0 < kids.length := by omega
    have M0 : (0 : Int) < (kids.length : Int) := by omega
    have L1 : 1 < kids.length := by omega
    have M1 : (1 : Int) < (kids.length : Int) := by omega
    clear hl hl2
    go_enter Tryz.func45, Tryz.ntmps45
    obtain ⟨ad, y0, x0, x1, x2, x3, x4, x5, x6, x7, x8, rfl, hbl, hy0, hm0, hd0, z0, z1, z2, z3, z4, z5, z6, z7, z8⟩ := row9_at HK.out rfl L0
    have u0 : w.cell? ad = some x0 := by simpa [Addr.add] using z0
    have zz0 := fun o => (World.cell?_alloc_lt w o ad (by show ad.block < _; omega)).trans u0
    have u1 : w.cell? ⟨ad.block, ad.off + 1, none⟩ = some x1 := by simpa [Addr.add] using z1
    have zz1 := fun o => (World.cell?_alloc_lt w o ⟨ad.block, ad.off + 1, none⟩ (by show ad.block < _; omega)).trans u1
    have u2 : w.cell? ⟨ad.block, ad.off + 2, none⟩ = some x2 := by simpa [Addr.add] using z2
    have zz2 := fun o => (World.cell?_alloc_lt w o ⟨ad.block, ad.off + 2, none⟩ (by show ad.block < _; omega)).trans u2
    have u3 : w.cell? ⟨ad.block, ad.off + 3, none⟩ = some x3 := by simpa [Addr.add] using z3
    have zz3 := fun o => (World.cell?_alloc_lt w o ⟨ad.block, ad.off + 3, none⟩ (by show ad.block < _; omega)).trans u3
    have u4 : w.cell? ⟨ad.block, ad.off + 4, none⟩ = some x4 := by simpa [Addr.add] using z4
    have zz4 := fun o => (World.cell?_alloc_lt w o ⟨ad.block, ad.off + 4, none⟩ (by show ad.block < _; omega)).trans u4
    have u5 : w.cell? ⟨ad.block, ad.off + 5, none⟩ = some x5 := by simpa [Addr.add] using z5
    have zz5 := fun o => (World.cell?_alloc_lt w o ⟨ad.block, ad.off + 5, none⟩ (by show ad.block < _; omega)).trans u5
    have u6 : w.cell? ⟨ad.block, ad.off + 6, none⟩ = some x6 := by simpa [Addr.add] using z6
    have zz6 := fun o => (World.cell?_alloc_lt w o ⟨ad.block, ad.off + 6, none⟩ (by show ad.block < _; omega)).trans u6
    have u7 : w.cell? ⟨ad.block, ad.off + 7, none⟩ = some x7 := by simpa [Addr.add] using z7
    have zz7 := fun o => (World.cell?_alloc_lt w o ⟨ad.block, ad.off + 7, none⟩ (by show ad.block < _; omega)).trans u7
    have u8 : w.cell? ⟨ad.block, ad.off + 8, none⟩ = some x8 := by simpa [Addr.add] using z8
    have zz8 := fun o => (World.cell?_alloc_lt w o ⟨ad.block, ad.off + 8, none⟩ (by show ad.block < _; omega)).trans u8
    clear u0 u1 u2 u3 u4 u5 u6 u7 u8
    clear z0 z1 z2 z3 z4 z5 z6 z7 z8
    go_wp2_with fail
    refine (IH.out y0 hm0 [_, _, _, _, _, _, _, _, _] _ B (d - 1) (Nat.le_trans hB (hbx _).size) (hy0.below ((hbx _).mono hB)) (HFK.out y0 hm0)).mono ?_
    rintro e w1 ⟨r0, rfl, hr0, hb0⟩
    have R0 := Lib.hid hr0
    have B0 := boxes1_of hb0
    clear hr0 hb0 zz0 zz1 zz2 zz3 zz4 zz5 zz6 zz7 zz8
    obtain ⟨hb0, hz0, bP0⟩ := boxes1 (P := [_, _, _, _, _, _, _, _, _]) B0
    obtain ⟨cP0, fP0⟩ := blk_rules bP0
    clear bP0
    cases r0 with
    | false =>
      have HN := Lib.hid (show ¬ ev tabSure (.mk 10 n s v kids) = true from fun h => by
        rw [HE.out] at h
        try simp only [Bool.and_eq_true] at h
        have h2 := h.1
        rw [evAt_drop tabSure hd0.out] at h2
        exact absurd (R0.out.2 h2) (by simp))
      go_wp2
      go_ret
      exact PBool.no HN.out hb0
    | true =>
      have T0 := Lib.hid (show evAt tabSure kids 0 = true by rw [evAt_drop tabSure hd0.out]; exact R0.out.1 rfl)
      obtain ⟨ad1, y1, x0, x1, x2, x3, x4, x5, x6, x7, x8, ea, hbl1, hy1, hm1, hd1, z0, z1, z2, z3, z4, z5, z6, z7, z8⟩ := row9_at (HK.out.upto (hb0.mono hB) (Nat.le_refl _)) rfl L1
      injection ea with ea
      subst ea
      have u0 : w1.cell? ⟨ad.block, ad.off + 9, none⟩ = some x0 := by simpa [Addr.add] using z0
      have u1 : w1.cell? ⟨ad.block, ad.off + 9 + 1, none⟩ = some x1 := by simpa [Addr.add] using z1
      have u2 : w1.cell? ⟨ad.block, ad.off + 9 + 2, none⟩ = some x2 := by simpa [Addr.add] using z2
      have u3 : w1.cell? ⟨ad.block, ad.off + 9 + 3, none⟩ = some x3 := by simpa [Addr.add] using z3
      have u4 : w1.cell? ⟨ad.block, ad.off + 9 + 4, none⟩ = some x4 := by simpa [Addr.add] using z4
      have u5 : w1.cell? ⟨ad.block, ad.off + 9 + 5, none⟩ = some x5 := by simpa [Addr.add] using z5
      have u6 : w1.cell? ⟨ad.block, ad.off + 9 + 6, none⟩ = some x6 := by simpa [Addr.add] using z6
      have u7 : w1.cell? ⟨ad.block, ad.off + 9 + 7, none⟩ = some x7 := by simpa [Addr.add] using z7
      have u8 : w1.cell? ⟨ad.block, ad.off + 9 + 8, none⟩ = some x8 := by simpa [Addr.add] using z8
      go_wp2_with fail
      refine (IH.out y1 hm1 [_, _, _, _, _, _, _, _, _] _ B (d - 1) (by omega) hy1 (HFK.out y1 hm1)).mono ?_
      rintro e w2 ⟨r1, rfl, hr1, hc1⟩
      have R1 := Lib.hid hr1
      have B1 := B0.trans (hc1.mono hz0)
      clear hr1 hc1 z0 z1 z2 z3 z4 z5 z6 z7 z8 u0 u1 u2 u3 u4 u5 u6 u7 u8 cP0 fP0
      obtain ⟨hb1, hz1, bP1⟩ := boxes1 (P := [_, _, _, _, _, _, _, _, _]) B1
      obtain ⟨cP1, fP1⟩ := blk_rules bP1
      clear bP1
      cases r1 with
      | false =>
        have HN := Lib.hid (show ¬ ev tabSure (.mk 10 n s v kids) = true from fun h => by
          rw [HE.out] at h
          try simp only [Bool.and_eq_true] at h
          have h2 := h.2
          rw [evAt_drop tabSure hd1.out] at h2
          exact absurd (R1.out.2 h2) (by simp))
        go_wp2
        go_ret
        exact PBool.no HN.out hb1
      | true =>
        have T1 := Lib.hid (show evAt tabSure kids 1 = true by rw [evAt_drop tabSure hd1.out]; exact R1.out.1 rfl)
        have HT := Lib.hid (show ev tabSure (.mk 10 n s v kids) = true by rw [HE.out, T0.out, T1.out] <;> rfl)
        go_wp2
        go_ret
        exact PBool.yes HT.out hb1
  by_cases e11 : kind = 11
  · subst e11
    have hl : kids.length = 2 := by have e : kidsOf 11 = 2 := by decide
                                    omega
    have hl2 : (kids.length : Int) = 2 := by omega
    have HE := Lib.hid (show ev tabSure (.mk 11 n s v kids) = (evAt tabSure kids 0 && evAt tabSure kids 1) by simp [ev, tabSure])
    clear hk1
    have L0 : 0 < kids.length := by omega
    have M0 : (0 : Int) < (kids.length : Int) := by omega
    have L1 : 1 < kids.length := by omega
    have M1 : (1 : Int) < (kids.length : Int) := by omega
    clear hl hl2
    go_enter Tryz.func45, Tryz.ntmps45
    obtain ⟨ad, y0, x0, x1, x2, x3, x4, x5, x6, x7, x8, rfl, hbl, hy0, hm0, hd0, z0, z1, z2, z3, z4, z5, z6, z7, z8⟩ := row9_at HK.out rfl L0
    have u0 : w.cell? ad = some x0 := by simpa [Addr.add] using z0
    have zz0 := fun o => (World.cell?_alloc_lt w o ad (by show ad.block < _; omega)).trans u0
    have u1 : w.cell? ⟨ad.block, ad.off + 1, none⟩ = some x1 := by simpa [Addr.add] using z1
    have zz1 := fun o => (World.cell?_alloc_lt w o ⟨ad.block, ad.off + 1, none⟩ (by show ad.block < _; omega)).trans u1
    have u2 : w.cell? ⟨ad.block, ad.off + 2, none⟩ = some x2 := by simpa [Addr.add] using z2
    have zz2 := fun o => (World.cell?_alloc_lt w o ⟨ad.block, ad.off + 2, none⟩ (by show ad.block < _; omega)).trans u2
    have u3 : w.cell? ⟨ad.block, ad.off + 3, none⟩ = some x3 := by simpa [Addr.add] using z3
    have zz3 := fun o => (World.cell?_alloc_lt w o ⟨ad.block, ad.off + 3, none⟩ (by show ad.block < _; omega)).trans u3
    have u4 : w.cell? ⟨ad.block, ad.off + 4, none⟩ = some x4 := by simpa [Addr.add] using z4
    have zz4 := fun o => (World.cell?_alloc_lt w o ⟨ad.block, ad.off + 4, none⟩ (by show ad.block < _; omega)).trans u4
    have u5 : w.cell? ⟨ad.block, ad.off + 5, none⟩ = some x5 := by simpa [Addr.add] using z5
    have zz5 := fun o => (World.cell?_alloc_lt w o ⟨ad.block, ad.off + 5, none⟩ (by show ad.block < _; omega)).trans u5
    have u6 : w.cell? ⟨ad.block, ad.off + 6, none⟩ = some x6 := by simpa [Addr.add] using z6
    have zz6 := fun o => (World.cell?_alloc_lt w o ⟨ad.block, ad.off + 6, none⟩ (by show ad.block < _; omega)).trans u6
    have u7 : w.cell? ⟨ad.block, ad.off + 7, none⟩ = some x7 := by simpa [Addr.add] using z7
    have zz7 := fun o => (World.cell?_alloc_lt w o ⟨ad.block, ad.off + 7, none⟩ (by show ad.block < _; omega)).trans u7
    have u8 : w.cell? ⟨ad.block, ad.off + 8, none⟩ = some x8 := by simpa [Addr.add] using z8
    have zz8 := fun o => (World.cell?_alloc_lt w o ⟨ad.block, ad.off + 8, none⟩ (by show ad.block < _; omega)).trans u8
    clear u0 u1 u2 u3 u4 u5 u6 u7 u8
    clear z0 z1 z2 z3 z4 z5 z6 z7 z8
    go_wp2_with fail
    refine (IH.out y0 hm0 [_, _, _, _, _, _, _, _, _] _ B (d - 1) (Nat.le_trans hB (hbx _).size) (hy0.below ((hbx _).mono hB)) (HFK.out y0 hm0)).mono ?_
    rintro e w1 ⟨r0, rfl, hr0, hb0⟩
    have R0 := Lib.hid hr0
    have B0 := boxes1_of hb0
    clear hr0 hb0 zz0 zz1 zz2 zz3 zz4 zz5 zz6 zz7 zz8
    obtain ⟨hb0, hz0, bP0⟩ := boxes1 (P := [_, _, _, _, _, _, _, _, _]) B0
    obtain ⟨cP0, fP0⟩ := blk_rules bP0
    clear bP0
    cases r0 with
    | false =>
      have HN := Lib.hid (show ¬ ev tabSure (.mk 11 n s v kids) = true from fun h => by
        rw [HE.out] at h
        try simp only [Bool.and_eq_true] at h
        have h2 := h.1
        rw [evAt_drop tabSure hd0.out] at h2
        exact absurd (R0.out.2 h2) (by simp))
      go_wp2
      go_ret
      exact PBool.no HN.out hb0
    | true =>
      have T0 := Lib.hid (show evAt tabSure kids 0 = true by rw [evAt_drop tabSure hd0.out]; exact R0.out.1 rfl)
      obtain ⟨ad1, y1, x0, x1, x2, x3, x4, x5, x6, x7, x8, ea, hbl1, hy1, hm1, hd1, z0, z1, z2, z3, z4, z5, z6, z7, z8⟩ := row9_at (HK.out.upto (hb0.mono hB) (Nat.le_refl _)) rfl L1
      injection ea with ea
      subst ea
      have u0 : w1.cell? ⟨ad.block, ad.off + 9, none⟩ = some x0 := by simpa [Addr.add] using z0
      have u1 : w1.cell? ⟨ad.block, ad.off + 9 + 1, none⟩ = some x1 := by simpa [Addr.add] using z1
      have u2 : w1.cell? ⟨ad.block, ad.off + 9 + 2, none⟩ = some x2 := by simpa [Addr.add] using z2
      have u3 : w1.cell? ⟨ad.block, ad.off + 9 + 3, none⟩ = some x3 := by simpa [Addr.add] using z3
      have u4 : w1.cell? ⟨ad.block, ad.off + 9 + 4, none⟩ = some x4 := by simpa [Addr.add] using z4
      have u5 : w1.cell? ⟨ad.block, ad.off + 9 + 5, none⟩ = some x5 := by simpa [Addr.add] using z5
      have u6 : w1.cell? ⟨ad.block, ad.off + 9 + 6, none⟩ = some x6 := by simpa [Addr.add] using z6
      have u7 : w1.cell? ⟨ad.block, ad.off + 9 + 7, none⟩ = some x7 := by simpa [Addr.add] using z7
      have u8 : w1.cell? ⟨ad.block, ad.off + 9 + 8, none⟩ = some x8 := by simpa [Addr.add] using z8
      go_wp2_with fail
      refine (IH.out y1 hm1 [_, _, _, _, _, _, _, _, _] _ B (d - 1) (by omega) hy1 (HFK.out y1 hm1)).mono ?_
      rintro e w2 ⟨r1, rfl, hr1, hc1⟩
      have R1 := Lib.hid hr1
      have B1 := B0.trans (hc1.mono hz0)
      clear hr1 hc1 z0 z1 z2 z3 z4 z5 z6 z7 z8 u0 u1 u2 u3 u4 u5 u6 u7 u8 cP0 fP0
      obtain ⟨hb1, hz1, bP1⟩ := boxes1 (P := [_, _, _, _, _, _, _, _, _]) B1
      obtain ⟨cP1, fP1⟩ := blk_rules bP1
      clear bP1
      cases r1 with
      | false =>
        have HN := Lib.hid (show ¬ ev tabSure (.mk 11 n s v kids) = true from fun h => by
          rw [HE.out] at h
          try simp only [Bool.and_eq_true] at h
          have h2 := h.2
          rw [evAt_drop tabSure hd1.out] at h2
          exact absurd (R1.out.2 h2) (by simp))
        go_wp2
        go_ret
        exact PBool.no HN.out hb1
      | true =>
        have T1 := Lib.hid (show evAt tabSure kids 1 = true by rw [evAt_drop tabSure hd1.out]; exact R1.out.1 rfl)
        have HT := Lib.hid (show ev tabSure (.mk 11 n s v kids) = true by rw [HE.out, T0.out, T1.out] <;> rfl)
        go_wp2
        go_ret
        exact PBool.yes HT.out hb1
  by_cases e12 : kind = 12
  · subst e12
    clear hk1
    go_enter Tryz.func45, Tryz.ntmps45
    go_wp2
    go_ret
    exact PBool.no (by simp [ev, tabSure]) (hbx _)
  by_cases e13 : kind = 13
  · subst e13
    clear hk1
    go_enter Tryz.func45, Tryz.ntmps45
    go_wp2
    go_ret
    exact PBool.no (by simp [ev, tabSure]) (hbx _)
  by_cases e14 : kind = 14
  · subst e14
    clear hk1
    go_enter Tryz.func45, Tryz.ntmps45
    go_wp2
    go_ret
    exact PBool.no (by simp [ev, tabSure]) (hbx _)
  by_cases e15 : kind = 15
  · subst e15
    clear hk1
    go_enter Tryz.func45, Tryz.ntmps45
    go_wp2
    go_ret
    exact PBool.yes (by simp [ev, tabSure]) (hbx _)
  by_cases e16 : kind = 16
  · subst e16
    have hl : kids.length = 2 := by have e : kidsOf 16 = 2 := by decide
                                    omega
    have hl2 : (kids.length : Int) = 2 := by omega
    have HE := Lib.hid (show ev tabSure (.mk 16 n s v kids) = (evAt tabSure kids 1) by simp [ev, tabSure])
    clear hk1
    have L0 : 0 < kids.length := by omega
    have M0 : (0 : Int) < (kids.length : Int) := by omega
    have L1 : 1 < kids.length := by omega
    have M1 : (1 : Int) < (kids.length : Int) := by omega
    clear hl hl2
    go_enter Tryz.func45, Tryz.ntmps45
    obtain ⟨ad, y0, x0, x1, x2, x3, x4, x5, x6, x7, x8, rfl, hbl, hy0, hm0, hd0, z0, z1, z2, z3, z4, z5, z6, z7, z8⟩ := row9_at HK.out rfl L1
    have u0 : w.cell? ⟨ad.block, ad.off + 9, none⟩ = some x0 := by simpa [Addr.add] using z0
    have zz0 := fun o => (World.cell?_alloc_lt w o ⟨ad.block, ad.off + 9, none⟩ (by show ad.block < _; omega)).trans u0
    have u1 : w.cell? ⟨ad.block, ad.off + 9 + 1, none⟩ = some x1 := by simpa [Addr.add] using z1
    have zz1 := fun o => (World.cell?_alloc_lt w o ⟨ad.block, ad.off + 9 + 1, none⟩ (by show ad.block < _; omega)).trans u1
    have u2 : w.cell? ⟨ad.block, ad.off + 9 + 2, none⟩ = some x2 := by simpa [Addr.add] using z2
    have zz2 := fun o => (World.cell?_alloc_lt w o ⟨ad.block, ad.off + 9 + 2, none⟩ (by show ad.block < _; omega)).trans u2
    have u3 : w.cell? ⟨ad.block, ad.off + 9 + 3, none⟩ = some x3 := by simpa [Addr.add] using z3
    have zz3 := fun o => (World.cell?_alloc_lt w o ⟨ad.block, ad.off + 9 + 3, none⟩ (by show ad.block < _; omega)).trans u3
    have u4 : w.cell? ⟨ad.block, ad.off + 9 + 4, none⟩ = some x4 := by simpa [Addr.add] using z4
    have zz4 := fun o => (World.cell?_alloc_lt w o ⟨ad.block, ad.off + 9 + 4, none⟩ (by show ad.block < _; omega)).trans u4
    have u5 : w.cell? ⟨ad.block, ad.off + 9 + 5, none⟩ = some x5 := by simpa [Addr.add] using z5
    have zz5 := fun o => (World.cell?_alloc_lt w o ⟨ad.block, ad.off + 9 + 5, none⟩ (by show ad.block < _; omega)).trans u5
    have u6 : w.cell? ⟨ad.block, ad.off + 9 + 6, none⟩ = some x6 := by simpa [Addr.add] using z6
    have zz6 := fun o => (World.cell?_alloc_lt w o ⟨ad.block, ad.off + 9 + 6, none⟩ (by show ad.block < _; omega)).trans u6
    have u7 : w.cell? ⟨ad.block, ad.off + 9 + 7, none⟩ = some x7 := by simpa [Addr.add] using z7
    have zz7 := fun o => (World.cell?_alloc_lt w o ⟨ad.block, ad.off + 9 + 7, none⟩ (by show ad.block < _; omega)).trans u7
    have u8 : w.cell? ⟨ad.block, ad.off + 9 + 8, none⟩ = some x8 := by simpa [Addr.add] using z8
    have zz8 := fun o => (World.cell?_alloc_lt w o ⟨ad.block, ad.off + 9 + 8, none⟩ (by show ad.block < _; omega)).trans u8
    clear u0 u1 u2 u3 u4 u5 u6 u7 u8
    clear z0 z1 z2 z3 z4 z5 z6 z7 z8
    go_wp2_with fail
    refine (IH.out y0 hm0 [_, _, _, _, _, _, _, _, _] _ B (d - 1) (Nat.le_trans hB (hbx _).size) (hy0.below ((hbx _).mono hB)) (HFK.out y0 hm0)).mono ?_
    rintro e w1 ⟨r0, rfl, hr0, hb0⟩
    have R0 := Lib.hid hr0
    have B0 := boxes1_of hb0
    clear hr0 hb0 zz0 zz1 zz2 zz3 zz4 zz5 zz6 zz7 zz8
    obtain ⟨hb0, hz0, bP0⟩ := boxes1 (P := [_, _, _, _, _, _, _, _, _]) B0
    obtain ⟨cP0, fP0⟩ := blk_rules bP0
    clear bP0
    cases r0 with
    | false =>
      have HN := Lib.hid (show ¬ ev tabSure (.mk 16 n s v kids) = true from fun h => by
        rw [HE.out] at h
        try simp only [Bool.and_eq_true] at h
        have h2 := h
        rw [evAt_drop tabSure hd0.out] at h2
        exact absurd (R0.out.2 h2) (by simp))
      go_wp2
      go_ret
      exact PBool.no HN.out hb0
    | true =>
      have T0 := Lib.hid (show evAt tabSure kids 1 = true by rw [evAt_drop tabSure hd0.out]; exact R0.out.1 rfl)
      have HT := Lib.hid (show ev tabSure (.mk 16 n s v kids) = true by rw [HE.out, T0.out] <;> rfl)
      go_wp2
      go_ret
      exact PBool.yes HT.out hb0
  by_cases e17 : kind = 17
  · subst e17
    clear hk1
    go_enter Tryz.func45, Tryz.ntmps45
    go_wp2
    go_ret
    exact PBool.yes (by simp [ev, tabSure]) (hbx _)
  by_cases e18 : kind = 18
  · subst e18
    clear hk1
    go_enter Tryz.func45, Tryz.ntmps45
    go_wp2
    go_ret
    exact PBool.yes (by simp [ev, tabSure]) (hbx _)
  by_cases e19 : kind = 19
  · subst e19
    clear hk1
    go_enter Tryz.func45, Tryz.ntmps45
    go_wp2
    go_ret
    exact PBool.no (by simp [ev, tabSure]) (hbx _)
  by_cases e20 : kind = 20
  · subst e20
    clear hk1
    go_enter Tryz.func45, Tryz.ntmps45
    go_wp2
    go_ret
    exact PBool.no (by simp [ev, tabSure]) (hbx _)
  by_cases e21 : kind = 21
  · subst e21
    clear hk1
    go_enter Tryz.func45, Tryz.ntmps45
    go_wp2
    go_ret
    exact PBool.no (by simp [ev, tabSure]) (hbx _)
  exfalso
  omega
theorem evSure_calls : ∀ x, EvC 45 tabSure x := Filt.ind fun kind n s v kids ih => evSure_of _ fun _ _ _ _ _ e => by
  injection e with e1 e2 e3 e4 e5
  subst e5
  exact ih
end Go.Proofs.YtppfgepoegicgaaGreatDoor
