/- How much a filter tells: the program's tell. -/
import Derived.Test.YtppfgepoegicgaaDoorZTellS
namespace Go.Proofs.YtppfgepoegicgaaDoor
open Go Go.RowKit

/-- A row of numbers that is read. -/
def IntsAt (w : World) (A : Option Addr) (l : List Int) : Prop := 0 < l.length → ∃ g, A = some ⟨g, 0, none⟩ ∧ ∀ i t, l[i]? = some t → w.cell? ⟨g, i, none⟩ = some (.int .i64 t)
set_option maxRecDepth 100000 in
set_option maxHeartbeats 2000000 in
theorem index_calls (l : List Int) (v : Int) (A : Option Addr) (c : Nat) (w : World) (hl : l.length ≤ 1000) (h : IntsAt w A l) :
    Calls Tryd.prog 62 #[.slice A l.length c, .int .i64 v] w fun e w' => ∃ r : Int, e = .returned (.int .i64 r) ∧ (0 ≤ r ↔ v ∈ l) ∧ w' = w := by
  have H := Lib.hid h
  clear h
  go_enter Tryd.func62, Tryd.ntmps62
  go_wp2
  go_loopw [8] (fun i w' => ∃ (k : Nat), k ≤ l.length ∧ i = .int .i64 k ∧ Hid (v ∉ l.take k) ∧ w' = w) (fun i _ => l.length - (intOf i).toNat)
  case atStart => exact ⟨0, by omega, rfl, (by simp : v ∉ l.take 0), rfl⟩
  case round =>
    obtain ⟨k, hk, rfl, HT, rfl⟩ := hrel
    by_cases hlt : k < l.length
    · obtain ⟨g, rfl, hc⟩ := H.out (by omega)
      obtain ⟨t, et⟩ : ∃ t, t = l[k] := ⟨_, rfl⟩
      have y0 : wr.cell? ⟨g, k, none⟩ = some (.int .i64 t) := hc k t (by rw [List.getElem?_eq_getElem hlt, et])
      have hm : t ∈ l := by rw [et]; exact List.getElem_mem hlt
      have j0 : (0 : Int) ≤ (k : Int) := by omega
      have j1 : (k : Int) < (l.length : Int) := by omega
      have HT2 := Lib.hid (show v ≠ t → v ∉ l.take (k + 1) from fun h hm2 => by
        rw [List.take_succ_eq_append_getElem hlt, ← et] at hm2
        rcases List.mem_append.1 hm2 with h1 | h1
        · exact HT.out h1
        · exact h (List.mem_singleton.1 h1))
      clear hc et
      by_cases tv : v = t
      · subst tv
        have HM := Lib.hid hm
        clear hm
        go_wp2
        go_ret
        exact ⟨_, rfl, ⟨fun _ => HM.out, fun _ => by omega⟩, rfl⟩
      · have d : (v == t) = false := by simpa using tv
        have HT3 := Lib.hid (HT2.out tv)
        clear tv hm
        go_wp2
        go_roundw
        case rel => exact ⟨k + 1, by omega, by go_num, HT3, trivial⟩
        case measure => simp [intOf]; omega
    · have HN := Lib.hid (show v ∉ l by have h := HT.out; rwa [show k = l.length by omega, List.take_length] at h)
      go_wp2
      go_ret
      exact ⟨_, rfl, ⟨fun h => by omega, fun h => absurd h HN.out⟩, rfl⟩
theorem contains_calls (l : List Int) (v : Int) (A : Option Addr) (c : Nat) (w : World) (hl : l.length ≤ 1000) (h : IntsAt w A l) :
    Calls Tryd.prog 47 #[.slice A l.length c, .int .i64 v] w (PSame (v ∈ l) w) := by
  go_enter Tryd.func47, Tryd.ntmps47
  go_wp2_with fail
  refine (index_calls l v A c _ hl h).mono ?_
  rintro e w1 ⟨r, rfl, hr, rfl⟩
  by_cases t : 0 ≤ r
  · have d : decide (0 ≤ r) = true := by simpa using t
    have HR := Lib.hid (hr.1 t)
    clear hr
    go_wp2
    go_ret
    exact PSame.yes HR.out
  · have d : decide (0 ≤ r) = false := by simpa using t
    have HR := Lib.hid (fun h => t (hr.2 h))
    clear hr
    go_wp2
    go_ret
    exact PSame.no HR.out

set_option maxRecDepth 100000 in
set_option maxHeartbeats 8000000 in
theorem iTell_of (x : Filt) (ih : ∀ kind n s v kids, x = .mk kind n s v kids → ∀ y ∈ kids, TellC 30 y) : TellC 30 x := by
  intro us w B d hB h hF hC
  obtain ⟨kind, n, s, v, kids, a3, a4, a5, A6, n6, q6, A7, n7, q7, A8, q8, rfl, rfl, hs, hv, hk⟩ := filtDs_all h
  have IH := Lib.hid (ih _ _ _ _ _ rfl)
  have hff := (fform_iff (fform_pos hF)).1 hF
  have hk1 := hff.1.1
  have HFK := Lib.hid hff.2.1
  have hkn : kids.length ≤ 3 := by
    have h1 : kidsOf kind ≤ 3 := kidsOf_le kind
    omega
  have HK1 := Lib.hid hk1
  have HR := Lib.hid (kidsOf_range (k := kind) (by omega))
  have HK := Lib.hid hk
  have hC2 : ∀ y ∈ kids, filtCnt y ≤ 16 := fun y hy => by
    have := filtsCnt_mem hy
    simp only [filtCnt] at hC
    omega
  have HC := Lib.hid hC2
  have HT := Lib.hid (fun y (hy : y ∈ kids) => tl_small (hC2 y hy))
  have HCX := Lib.hid hC
  clear ih hF hff h hv hk hs hC hC2
  obtain ⟨iI, hiI, zI0, zI1, zI2⟩ := info_parts' Tryd.info_int
  have hbx := below_box w (.cells #[.int .i64 kind, .int .i64 n, .string s, .int .i64 a3, .int .i64 a4, .string a5, .slice A6 n6 q6, .slice A7 n7 q7, .slice A8 kids.length q8] 36)
  by_cases h5 : kind = 5
  · subst h5
    clear hk1
    go_enter Tryd.func30, Tryd.ntmps30
    go_wp2
    go_ret
    exact ⟨by simp [tl, tlK], hbx⟩
  by_cases h18 : kind = 18
  · subst h18
    clear hk1
    go_enter Tryd.func30, Tryd.ntmps30
    go_wp2
    go_ret
    exact ⟨by simp [tl, tlK], hbx⟩
  by_cases h19 : kind = 19
  · subst h19
    clear hk1
    go_enter Tryd.func30, Tryd.ntmps30
    go_wp2
    go_ret
    exact ⟨by simp [tl, tlK], hbx⟩
  by_cases h12 : kind = 12
  · subst h12
    clear hk1
    go_enter Tryd.func30, Tryd.ntmps30
    go_wp2
    go_ret
    exact ⟨by simp [tl, tlK], hbx⟩
  by_cases h20 : kind = 20
  · subst h20
    clear hk1
    go_enter Tryd.func30, Tryd.ntmps30
    go_wp2
    go_ret
    exact ⟨by simp [tl, tlK], hbx⟩
  by_cases h17 : kind = 17
  · subst h17
    have hl1 : kids.length = 1 := by
      have h2 : kidsOf 17 = 1 := by decide
      omega
    have m0 : 0 < kids.length := by omega
    have m1 : (0 : Int) < (kids.length : Int) := by omega
    obtain ⟨ad, y, x0, x1, x2, x3, x4, x5, x6, x7, x8, rfl, hbl, hv, hm, hd, z0, z1, z2, z3, z4, z5, z6, z7, z8⟩ := row9_at HK.out rfl m0
    have u0 : w.cell? ad = some x0 := by simpa [Addr.add] using z0
    have zz0 := fun o => (World.cell?_alloc_lt w o ad (by show ad.block < _; omega)).trans u0
    have u1 : w.cell? ⟨ad.block, ad.off + 1, none⟩ = some x1 := by simpa [Addr.add] using z1
    have zz1 := fun o => (World.cell?_alloc_lt w o ⟨ad.block, ad.off + 1, none⟩ (by show ad.block < _; omega)).trans u1
    have u2 : w.cell? ⟨ad.block, ad.off + 2, none⟩ = some x2 := by simpa [Addr.add] using z2
    have zz2 := fun o => (World.cell?_alloc_lt w o ⟨ad.block, ad.off + 2, none⟩ (by show ad.block < _; omega)).trans u2
    have u3 : w.cell? ⟨ad.block, ad.off + 3, none⟩ = some x3 := by simpa [Addr.add] using z3
    have zz3 := fun o => (World.cell?_alloc_lt w o ⟨ad.block, ad.off + 3, none⟩ (by show ad.block < _; omega)).trans u3
    have u4 : w.cell? ⟨ad.block, ad.off + 4, none⟩ = some x4 := by simpa [Addr.add] using z4
    have zz4 := fun o => (World.cell?_alloc_lt w o ⟨ad.block, ad.off + 4, none⟩ (by show ad.block < _; omega)).trans u4
    have u5 : w.cell? ⟨ad.block, ad.off + 5, none⟩ = some x5 := by simpa [Addr.add] using z5
    have zz5 := fun o => (World.cell?_alloc_lt w o ⟨ad.block, ad.off + 5, none⟩ (by show ad.block < _; omega)).trans u5
    have u6 : w.cell? ⟨ad.block, ad.off + 6, none⟩ = some x6 := by simpa [Addr.add] using z6
    have zz6 := fun o => (World.cell?_alloc_lt w o ⟨ad.block, ad.off + 6, none⟩ (by show ad.block < _; omega)).trans u6
    have u7 : w.cell? ⟨ad.block, ad.off + 7, none⟩ = some x7 := by simpa [Addr.add] using z7
    have zz7 := fun o => (World.cell?_alloc_lt w o ⟨ad.block, ad.off + 7, none⟩ (by show ad.block < _; omega)).trans u7
    have u8 : w.cell? ⟨ad.block, ad.off + 8, none⟩ = some x8 := by simpa [Addr.add] using z8
    have zz8 := fun o => (World.cell?_alloc_lt w o ⟨ad.block, ad.off + 8, none⟩ (by show ad.block < _; omega)).trans u8
    have HE := Lib.hid (show tl (.mk 17 n s v kids) = tl y by
      obtain ⟨y', ey⟩ := len1 hl1
      have h1 := hd.out
      rw [ey] at h1
      injection h1 with h1
      subst ey
      simp [tl, tlK, tls, h1])
    have HV := Lib.hid (hv.below (hbx.mono hB))
    clear hl1 hk1 u0 u1 u2 u3 u4 u5 u6 u7 u8 z0 z1 z2 z3 z4 z5 z6 z7 z8 hv
    go_enter Tryd.func30, Tryd.ntmps30
    go_wp2_with fail
    refine (IH.out y hm [_, _, _, _, _, _, _, _, _] _ B (d - 1) (Nat.le_trans hB hbx.size) HV.out (HFK.out y hm) (HC.out y hm)).mono ?_
    rintro e w1 ⟨rfl, hb1⟩
    have hb2 := hbx.trans (hb1.mono hbx.size)
    clear hb1 zz0 zz1 zz2 zz3 zz4 zz5 zz6 zz7 zz8
    go_wp2
    go_ret
    exact ⟨by rw [HE.out]; rfl, hb2⟩
  by_cases h21 : kind = 21
  · subst h21
    have hl1 : kids.length = 1 := by
      have h2 : kidsOf 21 = 1 := by decide
      omega
    have m0 : 0 < kids.length := by omega
    have m1 : (0 : Int) < (kids.length : Int) := by omega
    obtain ⟨ad, y, x0, x1, x2, x3, x4, x5, x6, x7, x8, rfl, hbl, hv, hm, hd, z0, z1, z2, z3, z4, z5, z6, z7, z8⟩ := row9_at HK.out rfl m0
    have u0 : w.cell? ad = some x0 := by simpa [Addr.add] using z0
    have zz0 := fun o => (World.cell?_alloc_lt w o ad (by show ad.block < _; omega)).trans u0
    have u1 : w.cell? ⟨ad.block, ad.off + 1, none⟩ = some x1 := by simpa [Addr.add] using z1
    have zz1 := fun o => (World.cell?_alloc_lt w o ⟨ad.block, ad.off + 1, none⟩ (by show ad.block < _; omega)).trans u1
    have u2 : w.cell? ⟨ad.block, ad.off + 2, none⟩ = some x2 := by simpa [Addr.add] using z2
    have zz2 := fun o => (World.cell?_alloc_lt w o ⟨ad.block, ad.off + 2, none⟩ (by show ad.block < _; omega)).trans u2
    have u3 : w.cell? ⟨ad.block, ad.off + 3, none⟩ = some x3 := by simpa [Addr.add] using z3
    have zz3 := fun o => (World.cell?_alloc_lt w o ⟨ad.block, ad.off + 3, none⟩ (by show ad.block < _; omega)).trans u3
    have u4 : w.cell? ⟨ad.block, ad.off + 4, none⟩ = some x4 := by simpa [Addr.add] using z4
    have zz4 := fun o => (World.cell?_alloc_lt w o ⟨ad.block, ad.off + 4, none⟩ (by show ad.block < _; omega)).trans u4
    have u5 : w.cell? ⟨ad.block, ad.off + 5, none⟩ = some x5 := by simpa [Addr.add] using z5
    have zz5 := fun o => (World.cell?_alloc_lt w o ⟨ad.block, ad.off + 5, none⟩ (by show ad.block < _; omega)).trans u5
    have u6 : w.cell? ⟨ad.block, ad.off + 6, none⟩ = some x6 := by simpa [Addr.add] using z6
    have zz6 := fun o => (World.cell?_alloc_lt w o ⟨ad.block, ad.off + 6, none⟩ (by show ad.block < _; omega)).trans u6
    have u7 : w.cell? ⟨ad.block, ad.off + 7, none⟩ = some x7 := by simpa [Addr.add] using z7
    have zz7 := fun o => (World.cell?_alloc_lt w o ⟨ad.block, ad.off + 7, none⟩ (by show ad.block < _; omega)).trans u7
    have u8 : w.cell? ⟨ad.block, ad.off + 8, none⟩ = some x8 := by simpa [Addr.add] using z8
    have zz8 := fun o => (World.cell?_alloc_lt w o ⟨ad.block, ad.off + 8, none⟩ (by show ad.block < _; omega)).trans u8
    have HE := Lib.hid (show tl (.mk 21 n s v kids) = tl y by
      obtain ⟨y', ey⟩ := len1 hl1
      have h1 := hd.out
      rw [ey] at h1
      injection h1 with h1
      subst ey
      simp [tl, tlK, tls, h1])
    have HV := Lib.hid (hv.below (hbx.mono hB))
    clear hl1 hk1 u0 u1 u2 u3 u4 u5 u6 u7 u8 z0 z1 z2 z3 z4 z5 z6 z7 z8 hv
    go_enter Tryd.func30, Tryd.ntmps30
    go_wp2_with fail
    refine (IH.out y hm [_, _, _, _, _, _, _, _, _] _ B (d - 1) (Nat.le_trans hB hbx.size) HV.out (HFK.out y hm) (HC.out y hm)).mono ?_
    rintro e w1 ⟨rfl, hb1⟩
    have hb2 := hbx.trans (hb1.mono hbx.size)
    clear hb1 zz0 zz1 zz2 zz3 zz4 zz5 zz6 zz7 zz8
    go_wp2
    go_ret
    exact ⟨by rw [HE.out]; rfl, hb2⟩
  have HFINE := Lib.hid (fun hn => tlK_fine (n := tls kids) h5 h18 h19 h12 h20 h17 h21 hn)
  have HNEG := Lib.hid (fun t hm ht => tlK_neg (n := tls kids) h5 h18 h19 h12 h20 h17 h21 (t := t) hm ht)
  have c5 : (kind == 5) = false := by simpa using h5
  have c18 : (kind == 18) = false := by simpa using h18
  have c19 : (kind == 19) = false := by simpa using h19
  have c12 : (kind == 12) = false := by simpa using h12
  have c20 : (kind == 20) = false := by simpa using h20
  have c17 : (kind == 17) = false := by simpa using h17
  have c21 : (kind == 21) = false := by simpa using h21
  clear h5 h18 h19 h12 h20 h17 h21
  clear hk1 hbx
  have W1e := Lib.hid (Blk.new w 36 [.int .i64 kind, .int .i64 n, .string s, .int .i64 a3, .int .i64 a4, .string a5, .slice A6 n6 q6, .slice A7 n7 q7, .slice A8 kids.length q8])
  have q0 := fun o => (show ((w.alloc (.cells #[.int .i64 kind, .int .i64 n, .string s, .int .i64 a3, .int .i64 a4, .string a5, .slice A6 n6 q6, .slice A7 n7 q7, .slice A8 kids.length q8] 36)).alloc o).cell? ⟨w.heap.size, 8, none⟩ = some (.slice A8 kids.length q8) from (W1e.out.alloc o).cell 8)
  go_enter Tryd.func30, Tryd.ntmps30
  go_wp2
  go_loopw [3, 28] (fun nv i w' => ∃ (k : Nat), k ≤ kids.length ∧ i = .int .i64 k ∧ Hid (Acc w.heap.size (w.heap.size + 1) 3 1 w' nv k (ints (tls (kids.take k)))) ∧ Hid (Below (w.heap.size + 1) (w.alloc (.cells #[.int .i64 kind, .int .i64 n, .string s, .int .i64 a3, .int .i64 a4, .string a5, .slice A6 n6 q6, .slice A7 n7 q7, .slice A8 kids.length q8] 36)) w')) (fun _ i _ => kids.length - (intOf i).toNat)
  case atStart => exact ⟨0, by omega, rfl, acc_made 3 1 (w.alloc (.cells #[.int .i64 kind, .int .i64 n, .string s, .int .i64 a3, .int .i64 a4, .string a5, .slice A6 n6 q6, .slice A7 n7 q7, .slice A8 kids.length q8] 36)) (by simp) (by omega), (Below.refl _ _).alloc (by simp) _⟩
  case round =>
    clear q0
    obtain ⟨k, hk, rfl, HA, HB⟩ := hrel
    have hz : w.heap.size + 1 ≤ wr.heap.size := by have := HB.out.size; simpa using this
    have hb := Lib.hid ((below_box w _).trans (HB.out.mono (by omega)))
    have HP := Lib.hid (W1e.out.same (HB.out.block w.heap.size (by omega)))
    obtain ⟨cP, fP⟩ := blk_rules HP.out
    by_cases hlt : k < kids.length
    · obtain ⟨ad, y, x0, x1, x2, x3, x4, x5, x6, x7, x8, rfl, hbl, hv, hm, hd, z0, z1, z2, z3, z4, z5, z6, z7, z8⟩ := row9_at (HK.out.upto (hb.out.mono hB) (Nat.le_refl _)) rfl hlt
      have hBr : B ≤ wr.heap.size := by omega
      have j0 : (0 : Int) ≤ (k : Int) := by omega
      have j1 : (k : Int) < (kids.length : Int) := by omega
      obtain ⟨g0, g1, g2, g3, g4, g5, G6, h6, i6, G7, h7, i7, G8, h8, i8, ec⟩ := filtDs_shape hv
      simp only [List.cons.injEq, and_true] at ec
      obtain ⟨rfl, rfl, rfl, rfl, rfl, rfl, rfl, rfl, rfl⟩ := ec
      have hby := below_box wr (.cells #[.int .i64 g0, .int .i64 g1, .string g2, .int .i64 g3, .int .i64 g4, .string g5, .slice G6 h6 i6, .slice G7 h7 i7, .slice G8 h8 i8] 36)
      have HV := Lib.hid (hv.below (hby.mono hBr))
      clear hv
      go_wp2_with fail
      refine (IH.out y hm [_, _, _, _, _, _, _, _, _] _ B (d - 1) (Nat.le_trans hBr hby.size) HV.out (HFK.out y hm) (HC.out y hm)).mono ?_
      rintro e w4 ⟨rfl, hb1⟩
      have HB4 := Lib.hid (hby.trans (hb1.mono hby.size))
      clear hby
      have hr := HT.out y hm
      clear hb1 z0 z1 z2 z3 z4 z5 z6 z7 z8 cP fP
      go_wp2_with (at_builtin; (refine wpList_append_acc rfl _ _ 65 rfl 3 iI (.int .i64 0) 1 8 Tryd.underlying65 hiI zI0 zI1 zI2 rfl (by decide) rfl rfl HA.out HB4.out (us1 := [_]) (show ODv w4 [.int (tl y)] [.int .i64 (tl y)] [] from ⟨_, _, [], [], rfl, rfl, ⟨rfl, rfl⟩, rfl, rfl⟩) (Fresh.nil _ _) rfl (by unfold maxLen; omega) (by omega) hz (by omega) ?_; intro v5 w5 hA5 hB5 hz6; have HA5 := Lib.hid hA5; have HB5 := Lib.hid hB5; clear hA5 hB5 hz6))
      have HA6 := Lib.hid (show Acc w.heap.size (w.heap.size + 1) 3 1 w5 v5 (k + 1) (ints (tls (kids.take (k + 1)))) by
        rw [take_of_drop hd.out, tls_eq, List.map_append, ints_append, ← tls_eq]
        exact HA5.out)
      have HB6 := Lib.hid (HB.out.trans ((HB4.out.mono hz).trans HB5.out))
      clear HA HB HA5 HB5 HB4 HP hb hr
      go_wp2
      go_roundw
      case rel => exact ⟨k + 1, by omega, by go_num, HA6, HB6⟩
      case measure => simp [intOf]; omega
    · obtain rfl : k = kids.length := by omega
      obtain ⟨La, Lm, Lc, rfl⟩ := HA.out.shape
      have HA0 := Lib.hid (show Acc w.heap.size (w.heap.size + 1) 3 1 wr (.slice La Lm Lc) kids.length (ints (tls kids)) by have h := HA.out; rwa [List.take_length] at h)
      have hLm : Lm = kids.length := by
        obtain ⟨us, fp, ⟨h1, h2⟩, _⟩ := HA0.out
        rcases h2 with ⟨e1, e2⟩ | ⟨g, cap, cur, e1, _⟩
        · injection e1 with e1 e3 e4
          omega
        · injection e1
      subst hLm
      clear HA HB
      have HL := Lib.hid (tls_length kids)
      have hIA : IntsAt wr La (tls kids) := fun h0 => by
        obtain ⟨g, cap, e1, e0, hc⟩ := HA0.out.ints_open h0
        injection e1 with e1 _ e3
        exact ⟨g, e1, hc⟩
      have HIA := Lib.hid hIA
      have hl9 : (tls kids).length ≤ 1000 := by rw [HL.out]; omega
      have HCT := Lib.hid (show Calls Tryd.prog 47 #[.slice La kids.length Lc, .int .i64 (-1)] wr (PSame (-1 ∈ tls kids) wr) by
        have h := contains_calls (tls kids) (-1) La Lc wr hl9 HIA.out
        rwa [HL.out] at h)
      clear hIA hl9
      by_cases tn : -1 ∈ tls kids
      · have HV := Lib.hid (show tl (.mk kind n s v kids) = -1 from HNEG.out (-1) tn (by omega))
        go_wp2_with fail
        refine (HCT.out.mono fun e w' h => h.true_ tn).mono ?_
        rintro e w6 ⟨rfl, rfl⟩
        clear tn
        go_wp2
        go_ret
        exact ⟨by rw [HV.out]; rfl, hb.out⟩
      have hall : ∀ t ∈ tls kids, ¬ t < 0 := fun t ht h0 => by
        rw [tls_eq] at ht
        obtain ⟨y, hy, rfl⟩ := List.mem_map.1 ht
        have := HT.out y hy
        have e1 : tl y = -1 := by omega
        exact tn (by rw [tls_eq, ← e1]; exact List.mem_map.2 ⟨y, hy, rfl⟩)
      go_wp2_with fail
      refine (HCT.out.mono fun e w' h => h.false_ tn).mono ?_
      rintro e w6 ⟨rfl, rfl⟩
      clear tn
      by_cases h6 : kind = 6
      · subst h6
        have hln : (tls kids).length = 2 := by
          rw [HL.out]
          have h1 := HK1.out
          have h2 : kidsOf 6 = 2 := by decide
          omega
        obtain ⟨t0, t1, et⟩ := len2 hln
        obtain ⟨g, cap, e1, e0, hc⟩ := HA0.out.ints_open (by omega)
        injection e1 with e1 _ e3
        subst e1 e3
        have y0 : w6.cell? ⟨g, 0, none⟩ = some (.int .i64 t0) := hc 0 t0 (by rw [et]; rfl)
        have m0 : 0 < kids.length := by omega
        have mm0 : (0 : Int) < (kids.length : Int) := by omega
        have y1 : w6.cell? ⟨g, 1, none⟩ = some (.int .i64 t1) := hc 1 t1 (by rw [et]; rfl)
        have m1 : 1 < kids.length := by omega
        have mm1 : (1 : Int) < (kids.length : Int) := by omega
        have HVal := Lib.hid (show tl (.mk 6 n s v kids) = t0 * t1 by
          simp only [tl]
          rw [HFINE.out (fun t ht => by have := hall t ht; omega), et]
          simp)
        have hran : -1 ≤ tl (.mk 6 n s v kids) ∧ tl (.mk 6 n s v kids) ≤ 65536 := tl_small HCX.out
        rw [HVal.out] at hran
        have hw : IntKind.i64.wrap (t0 * t1) = t0 * t1 := IntWalk.i64_in _ (by omega)
        clear et hc hln e0 hran
        go_wp2
        go_quiet (fail)
        go_wp2
        go_ret
        exact ⟨by rw [HVal.out]; rfl, below_drewN hb.out _⟩
      by_cases h9 : kind = 9
      · subst h9
        have hln : (tls kids).length = 2 := by
          rw [HL.out]
          have h1 := HK1.out
          have h2 : kidsOf 9 = 2 := by decide
          omega
        obtain ⟨t0, t1, et⟩ := len2 hln
        obtain ⟨g, cap, e1, e0, hc⟩ := HA0.out.ints_open (by omega)
        injection e1 with e1 _ e3
        subst e1 e3
        have y0 : w6.cell? ⟨g, 0, none⟩ = some (.int .i64 t0) := hc 0 t0 (by rw [et]; rfl)
        have m0 : 0 < kids.length := by omega
        have mm0 : (0 : Int) < (kids.length : Int) := by omega
        have y1 : w6.cell? ⟨g, 1, none⟩ = some (.int .i64 t1) := hc 1 t1 (by rw [et]; rfl)
        have m1 : 1 < kids.length := by omega
        have mm1 : (1 : Int) < (kids.length : Int) := by omega
        have HVal := Lib.hid (show tl (.mk 9 n s v kids) = t0 * t1 by
          simp only [tl]
          rw [HFINE.out (fun t ht => by have := hall t ht; omega), et]
          simp)
        have hran : -1 ≤ tl (.mk 9 n s v kids) ∧ tl (.mk 9 n s v kids) ≤ 65536 := tl_small HCX.out
        rw [HVal.out] at hran
        have hw : IntKind.i64.wrap (t0 * t1) = t0 * t1 := IntWalk.i64_in _ (by omega)
        clear et hc hln e0 hran
        go_wp2
        go_quiet (fail)
        go_wp2
        go_ret
        exact ⟨by rw [HVal.out]; rfl, below_drewN hb.out _⟩
      by_cases h10 : kind = 10
      · subst h10
        have hln : (tls kids).length = 2 := by
          rw [HL.out]
          have h1 := HK1.out
          have h2 : kidsOf 10 = 2 := by decide
          omega
        obtain ⟨t0, t1, et⟩ := len2 hln
        obtain ⟨g, cap, e1, e0, hc⟩ := HA0.out.ints_open (by omega)
        injection e1 with e1 _ e3
        subst e1 e3
        have y0 : w6.cell? ⟨g, 0, none⟩ = some (.int .i64 t0) := hc 0 t0 (by rw [et]; rfl)
        have m0 : 0 < kids.length := by omega
        have mm0 : (0 : Int) < (kids.length : Int) := by omega
        have y1 : w6.cell? ⟨g, 1, none⟩ = some (.int .i64 t1) := hc 1 t1 (by rw [et]; rfl)
        have m1 : 1 < kids.length := by omega
        have mm1 : (1 : Int) < (kids.length : Int) := by omega
        have HVal := Lib.hid (show tl (.mk 10 n s v kids) = t0 * t1 by
          simp only [tl]
          rw [HFINE.out (fun t ht => by have := hall t ht; omega), et]
          simp)
        have hran : -1 ≤ tl (.mk 10 n s v kids) ∧ tl (.mk 10 n s v kids) ≤ 65536 := tl_small HCX.out
        rw [HVal.out] at hran
        have hw : IntKind.i64.wrap (t0 * t1) = t0 * t1 := IntWalk.i64_in _ (by omega)
        clear et hc hln e0 hran
        go_wp2
        go_quiet (fail)
        go_wp2
        go_ret
        exact ⟨by rw [HVal.out]; rfl, below_drewN hb.out _⟩
      by_cases h11 : kind = 11
      · subst h11
        have hln : (tls kids).length = 2 := by
          rw [HL.out]
          have h1 := HK1.out
          have h2 : kidsOf 11 = 2 := by decide
          omega
        obtain ⟨t0, t1, et⟩ := len2 hln
        obtain ⟨g, cap, e1, e0, hc⟩ := HA0.out.ints_open (by omega)
        injection e1 with e1 _ e3
        subst e1 e3
        have y0 : w6.cell? ⟨g, 0, none⟩ = some (.int .i64 t0) := hc 0 t0 (by rw [et]; rfl)
        have m0 : 0 < kids.length := by omega
        have mm0 : (0 : Int) < (kids.length : Int) := by omega
        have y1 : w6.cell? ⟨g, 1, none⟩ = some (.int .i64 t1) := hc 1 t1 (by rw [et]; rfl)
        have m1 : 1 < kids.length := by omega
        have mm1 : (1 : Int) < (kids.length : Int) := by omega
        have HVal := Lib.hid (show tl (.mk 11 n s v kids) = t0 * t1 by
          simp only [tl]
          rw [HFINE.out (fun t ht => by have := hall t ht; omega), et]
          simp)
        have hran : -1 ≤ tl (.mk 11 n s v kids) ∧ tl (.mk 11 n s v kids) ≤ 65536 := tl_small HCX.out
        rw [HVal.out] at hran
        have hw : IntKind.i64.wrap (t0 * t1) = t0 * t1 := IntWalk.i64_in _ (by omega)
        clear et hc hln e0 hran
        go_wp2
        go_quiet (fail)
        go_wp2
        go_ret
        exact ⟨by rw [HVal.out]; rfl, below_drewN hb.out _⟩
      by_cases h7 : kind = 7
      · subst h7
        have hln : (tls kids).length = 2 := by
          rw [HL.out]
          have h1 := HK1.out
          have h2 : kidsOf 7 = 2 := by decide
          omega
        obtain ⟨t0, t1, et⟩ := len2 hln
        obtain ⟨g, cap, e1, e0, hc⟩ := HA0.out.ints_open (by omega)
        injection e1 with e1 _ e3
        subst e1 e3
        have y0 : w6.cell? ⟨g, 0, none⟩ = some (.int .i64 t0) := hc 0 t0 (by rw [et]; rfl)
        have m0 : 0 < kids.length := by omega
        have mm0 : (0 : Int) < (kids.length : Int) := by omega
        have y1 : w6.cell? ⟨g, 1, none⟩ = some (.int .i64 t1) := hc 1 t1 (by rw [et]; rfl)
        have m1 : 1 < kids.length := by omega
        have mm1 : (1 : Int) < (kids.length : Int) := by omega
        have HVal := Lib.hid (show tl (.mk 7 n s v kids) = t0 + t1 by
          simp only [tl]
          rw [HFINE.out (fun t ht => by have := hall t ht; omega), et]
          simp)
        have hran : -1 ≤ tl (.mk 7 n s v kids) ∧ tl (.mk 7 n s v kids) ≤ 65536 := tl_small HCX.out
        rw [HVal.out] at hran
        have hw : IntKind.i64.wrap (t0 + t1) = t0 + t1 := IntWalk.i64_in _ (by omega)
        clear et hc hln e0 hran
        go_wp2
        go_quiet (fail)
        go_wp2
        go_ret
        exact ⟨by rw [HVal.out]; rfl, below_drewN hb.out _⟩
      by_cases h8 : kind = 8
      · subst h8
        have hln : (tls kids).length = 3 := by
          rw [HL.out]
          have h1 := HK1.out
          have h2 : kidsOf 8 = 3 := by decide
          omega
        obtain ⟨t0, t1, t2, et⟩ := len3 hln
        obtain ⟨g, cap, e1, e0, hc⟩ := HA0.out.ints_open (by omega)
        injection e1 with e1 _ e3
        subst e1 e3
        have y0 : w6.cell? ⟨g, 0, none⟩ = some (.int .i64 t0) := hc 0 t0 (by rw [et]; rfl)
        have m0 : 0 < kids.length := by omega
        have mm0 : (0 : Int) < (kids.length : Int) := by omega
        have y1 : w6.cell? ⟨g, 1, none⟩ = some (.int .i64 t1) := hc 1 t1 (by rw [et]; rfl)
        have m1 : 1 < kids.length := by omega
        have mm1 : (1 : Int) < (kids.length : Int) := by omega
        have y2 : w6.cell? ⟨g, 2, none⟩ = some (.int .i64 t2) := hc 2 t2 (by rw [et]; rfl)
        have m2 : 2 < kids.length := by omega
        have mm2 : (2 : Int) < (kids.length : Int) := by omega
        have HVal := Lib.hid (show tl (.mk 8 n s v kids) = t0 * max t1 t2 by
          simp only [tl]
          rw [HFINE.out (fun t ht => by have := hall t ht; omega), et]
          simp)
        have hran : -1 ≤ tl (.mk 8 n s v kids) ∧ tl (.mk 8 n s v kids) ≤ 65536 := tl_small HCX.out
        rw [HVal.out] at hran
        have hw : IntKind.i64.wrap (t0 * max t1 t2) = t0 * max t1 t2 := IntWalk.i64_in _ (by omega)
        have hran2 := hran
        clear hw hran
        clear et hc hln e0
        rcases Int.lt_or_le t1 t2 with hmx | hmx
        · have HV2 := Lib.hid (show tl (.mk 8 n s v kids) = t0 * t2 by rw [HVal.out, show max t1 t2 = t2 from Int.max_eq_right (by omega)])
          have hw2 : IntKind.i64.wrap (t0 * t2) = t0 * t2 := IntWalk.i64_in _ (by rw [show max t1 t2 = t2 from Int.max_eq_right (by omega)] at hran2; omega)
          clear hran2
          go_wp2
          go_quiet (fail)
          go_wp2
          go_ret
          exact ⟨by rw [HV2.out]; rfl, below_drewN hb.out _⟩
        · have HV2 := Lib.hid (show tl (.mk 8 n s v kids) = t0 * t1 by rw [HVal.out, show max t1 t2 = t1 from Int.max_eq_left hmx])
          have hw2 : IntKind.i64.wrap (t0 * t1) = t0 * t1 := IntWalk.i64_in _ (by rw [show max t1 t2 = t1 from Int.max_eq_left hmx] at hran2; omega)
          clear hran2
          go_wp2
          go_quiet (fail)
          go_wp2
          go_ret
          exact ⟨by rw [HV2.out]; rfl, below_drewN hb.out _⟩
      by_cases h16 : kind = 16
      · subst h16
        have hln : (tls kids).length = 2 := by
          rw [HL.out]
          have h1 := HK1.out
          have h2 : kidsOf 16 = 2 := by decide
          omega
        obtain ⟨t0, t1, et⟩ := len2 hln
        obtain ⟨g, cap, e1, e0, hc⟩ := HA0.out.ints_open (by omega)
        injection e1 with e1 _ e3
        subst e1 e3
        have y0 : w6.cell? ⟨g, 0, none⟩ = some (.int .i64 t0) := hc 0 t0 (by rw [et]; rfl)
        have m0 : 0 < kids.length := by omega
        have mm0 : (0 : Int) < (kids.length : Int) := by omega
        have y1 : w6.cell? ⟨g, 1, none⟩ = some (.int .i64 t1) := hc 1 t1 (by rw [et]; rfl)
        have m1 : 1 < kids.length := by omega
        have mm1 : (1 : Int) < (kids.length : Int) := by omega
        have HVal := Lib.hid (show tl (.mk 16 n s v kids) = max t0 t1 by
          simp only [tl]
          rw [HFINE.out (fun t ht => by have := hall t ht; omega), et]
          simp)
        have hran : -1 ≤ tl (.mk 16 n s v kids) ∧ tl (.mk 16 n s v kids) ≤ 65536 := tl_small HCX.out
        rw [HVal.out] at hran
        clear et hc hln e0 hran
        rcases Int.lt_or_le t0 t1 with hmx | hmx
        · have HV2 := Lib.hid (show tl (.mk 16 n s v kids) = t1 by rw [HVal.out, show max t0 t1 = t1 from Int.max_eq_right (by omega)])
          go_wp2
          go_quiet (fail)
          go_wp2
          go_ret
          exact ⟨by rw [HV2.out]; rfl, below_drewN hb.out _⟩
        · have HV2 := Lib.hid (show tl (.mk 16 n s v kids) = t0 by rw [HVal.out, show max t0 t1 = t0 from Int.max_eq_left hmx])
          go_wp2
          go_quiet (fail)
          go_wp2
          go_ret
          exact ⟨by rw [HV2.out]; rfl, below_drewN hb.out _⟩
      have HVal := Lib.hid (show tl (.mk kind n s v kids) = 1 by
        simp only [tl]
        rw [HFINE.out (fun t ht => by have := hall t ht; omega), if_neg (by omega), if_neg (by omega), if_neg (by omega), if_neg (by omega)])
      have c6 : (kind == 6) = false := by simpa using h6
      have c9 : (kind == 9) = false := by simpa using h9
      have c10 : (kind == 10) = false := by simpa using h10
      have c11 : (kind == 11) = false := by simpa using h11
      have c7 : (kind == 7) = false := by simpa using h7
      have c8 : (kind == 8) = false := by simpa using h8
      have c16 : (kind == 16) = false := by simpa using h16
      clear h6 h9 h10 h11 h7 h8 h16
      go_wp2
      go_ret
      exact ⟨by rw [HVal.out]; rfl, hb.out⟩
theorem iTell_calls : ∀ x, TellC 30 x := Filt.ind fun kind n s v kids ih => iTell_of _ fun _ _ _ _ _ e => by
  injection e with e1 e2 e3 e4 e5
  subst e5
  exact ih
end Go.Proofs.YtppfgepoegicgaaDoor
