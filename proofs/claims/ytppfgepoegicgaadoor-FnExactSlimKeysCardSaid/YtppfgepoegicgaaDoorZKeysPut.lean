/- The reference's l6Put: a text comes into a row in order. -/
import Derived.Test.YtppfgepoegicgaaDoorZKeysDef
import Derived.Test.YtppfgepoegicgaaDoorZSortDef
namespace Go.Proofs.YtppfgepoegicgaaDoor
open Go Go.RowKit

theorem StrRow.take {base c : Nat} {w : World} {A : Option Addr} {l : List ByteArray} (h : StrRow base w A c l) (k : Nat) (hk : k ≤ l.length) : StrRow base w A c (l.take k) := by
  have hl : (l.take k).length = k := by simp; omega
  unfold StrRow at h ⊢
  obtain ⟨h1, ⟨e, h2⟩ | ⟨g, cap, cur, e, hb, hg, hn, hm, hs, ht⟩⟩ := h
  · obtain rfl : k = 0 := by omega
    rw [hl]
    injection e with e1 e2 e3
    subst e1 e3
    exact ⟨by simp [strVs], .inl ⟨rfl, rfl⟩⟩
  · rw [hl]
    injection e with e1 e2 e3
    subst e1 e3
    refine ⟨by rw [strVs_length]; omega, .inr ⟨g, c, cur, rfl, hb, hg, by omega, hm, hs, ?_⟩⟩
    have h5 : (cur.toList.take (l.length * 1)).take (k * 1) = (strVs l).take (k * 1) := by rw [ht]
    rw [List.take_take, Nat.min_eq_left (by omega)] at h5
    rw [h5]
    simp [strVs]
theorem StrRow.reads' {base c : Nat} {w : World} {A : Option Addr} {l : List ByteArray} (h : StrRow base w A c l) : Reads w w.heap.size 1 A l.length (strVs l) := by
  obtain ⟨f0, h1, _, _⟩ := owns_osl h
  obtain ⟨A', cap, e, _, _, hr⟩ := h1.reads (B := w.heap.size) (OSl.lt h1)
  injection e with e1 _ _
  subst e1
  exact hr
theorem StrRow.cap {base c : Nat} {w : World} {A : Option Addr} {l : List ByteArray} (h : StrRow base w A c l) : l.length ≤ c := by
  obtain ⟨h1, ⟨e, h2⟩ | ⟨g, cap, cur, e, hb, hg, hn, hm, hs, ht⟩⟩ := h
  · injection e with e1 e2 e3; omega
  · injection e with e1 e2 e3; omega
theorem StrRow.at {base c : Nat} {w : World} {A : Option Addr} {l : List ByteArray} (h : StrRow base w A c l) {k : Nat} (hk : k < l.length) : ∃ g, A = some ⟨g, 0, none⟩ ∧ w.cell? ⟨g, k, none⟩ = some (.string l[k]) := by
  obtain ⟨ad, rfl, hb, hc⟩ := h.reads'.2 (by omega)
  obtain ⟨h1, ⟨e, h2⟩ | ⟨g, cap, cur, e, _⟩⟩ := h
  · cases e
  · injection e with e1 _ _
    injection e1 with e1
    subst e1
    refine ⟨g, rfl, ?_⟩
    have := hc k (.string l[k]) (by simp [strVs, List.getElem?_eq_getElem hk])
    rwa [show (⟨g, 0, none⟩ : Addr).add k = ⟨g, k, none⟩ by unfold Addr.add; split <;> simp_all] at this

theorem drop_reads {base c g k : Nat} {w : World} {o : Obj} {l : List ByteArray} (h : StrRow base w (some ⟨g, 0, none⟩) c l) (hk : k ≤ l.length) : Reads (w.alloc o) w.heap.size 1 (some ⟨g, k, none⟩) (l.length - k) (strVs (l.drop k)) := by
  refine ⟨by rw [strVs_length, List.length_drop, Nat.mul_one], fun h0 => ⟨_, rfl, ?_, fun j u hj => ?_⟩⟩
  · obtain ⟨ad, e, hb, _⟩ := h.reads'.2 (by omega)
    injection e with e
    subst e
    exact hb
  · obtain ⟨ad, e, hb, hc⟩ := h.reads'.2 (by omega)
    injection e with e
    subst e
    have hj' : j < l.length - k := by
      have := (List.getElem?_eq_some_iff.1 hj).1
      rw [strVs_length, List.length_drop] at this
      exact this
    have e1 : (⟨g, k, none⟩ : Addr).add j = (⟨g, 0, none⟩ : Addr).add (k + j) := by unfold Addr.add; split <;> split <;> simp_all
    rw [e1]
    refine ((below_box w o).cell (p := (⟨g, 0, none⟩ : Addr).add (k + j)) (by rw [block_of_add]; exact hb)).trans (hc (k + j) u ?_)
    rw [← hj]
    simp [strVs]

set_option maxRecDepth 100000 in
set_option maxHeartbeats 4000000 in
theorem put_calls (base : Nat) (A : Option Addr) (c : Nat) (l : List ByteArray) (s : ByteArray) (w : World) (hbase : base ≤ w.heap.size) (h : StrRow base w A c l) (hl : l.length ≤ 1000) :
    Calls Tryd.prog 48 #[.slice A l.length c, .string s] w fun e w' => ∃ A' c' l', e = .returned (.slice A' l'.length c') ∧ Hid (l' = insS l s) ∧ Hid (StrRow base w' A' c' l') ∧ Hid (Grew w w' (Value.slice A l.length c).ownBlock (Value.slice A' l'.length c').ownBlock) := by
  have HR := Lib.hid h
  have hlc := h.cap
  clear h
  obtain ⟨iS, hiS, zS0, zS1, zS2⟩ := info_parts' Tryd.info_string
  go_enter Tryd.func48, Tryd.ntmps48
  go_wp2
  go_loopw [5] (fun i w' => ∃ (k : Nat), k ≤ l.length ∧ i = .int .i64 k ∧ Hid (∀ t ∈ l.take k, Op.bytesLess t.toList s.toList = true) ∧ w' = w) (fun i _ => l.length - (intOf i).toNat)
  case atStart => exact ⟨0, by omega, rfl, (by simp : ∀ t ∈ l.take 0, Op.bytesLess t.toList s.toList = true), rfl⟩
  case round =>
    obtain ⟨k, hk, rfl, HT, rfl⟩ := hrel
    by_cases hlt : k < l.length
    · obtain ⟨g, rfl, hat⟩ := HR.out.at hlt
      obtain ⟨t, et⟩ : ∃ t, t = l[k] := ⟨_, rfl⟩
      have ET := Lib.hid (show l[k]? = some t by rw [List.getElem?_eq_getElem hlt, et])
      rw [← et] at hat
      have j0 : (0 : Int) ≤ (k : Int) := by omega
      have j1 : (k : Int) < (l.length : Int) := by omega
      clear et
      by_cases tl : Op.bytesLess t.toList s.toList = true
      · have HT2 := Lib.hid (show ∀ t' ∈ l.take (k + 1), Op.bytesLess t'.toList s.toList = true from fun t' h => by
          rw [List.take_add_one, ET.out] at h
          rcases List.mem_append.1 h with h | h
          · exact HT.out t' h
          · rw [List.mem_singleton.1 h]; exact tl)
        go_wp2
        go_roundw
        case rel => exact ⟨k + 1, by omega, by go_num, HT2, trivial⟩
        case measure => simp [intOf]; omega
      have tl' : Op.bytesLess t.toList s.toList = false := by simpa using tl
      have HINS0 := Lib.hid (insS_at s l k HT.out hk (fun t' ht' => by rw [ET.out] at ht'; injection ht' with ht'; rw [← ht']; exact tl'))
      by_cases te : t = s
      · subst te
        have HINS := Lib.hid (show l = insS l t by rw [HINS0.out, if_pos ET.out])
        clear HINS0 tl
        go_wp2
        go_ret
        exact ⟨_, _, l, rfl, HINS.out, HR.out, Grew.of_below (Below.refl _ _) _⟩
      · have HINS := Lib.hid (show insS l s = l.take k ++ (s :: l.drop k) by rw [HINS0.out, if_neg (by rw [ET.out]; intro h; injection h with h; exact te h)])
        have tes := str_ne te
        have hck : ¬ c = k := by omega
        have hck2 : ¬ (c : Int) = (k : Int) := by omega
        have j2 : (k : Int) ≤ (c : Int) := by omega
        have j3 : (k : Int) ≤ (l.length : Int) := by omega
        clear te HINS0 tl
        have HM1 := Lib.hid (World.ownsRow_made (base := wr.heap.size) (e := 9) (size := 1) wr #[] 0 (Nat.le_refl _) (by unfold maxLen; omega) (by simp))
        have HRD1 := Lib.hid (show Reads (wr.alloc (.cells #[] 9)) wr.heap.size 1 (some ⟨g, k, none⟩) (l.length - k) (strVs (l.drop k)) from drop_reads HR.out (by omega))
        have HON1 := Lib.hid (strVs_one (l.drop k))
        have HLK := Lib.hid (show (l.drop k).length = l.length - k by simp)
        have hlt6 : l.length - k ≤ 1000 := by omega
        have HTK := Lib.hid (show (l.take k).length = k by simp <;> omega)
        have HNO := Lib.hid (show ∀ q, (Value.slice (some ⟨g, 0, none⟩) (k) (c)).ownBlock = some q → base ≤ q ∧ q < wr.heap.size from fun q hq => HR.out.lt q hq)
        go_wp2_with (first
          | (at_builtin; (refine wpList_append_reads _ rfl _ _ 22 rfl wr.heap.size 9 iS _ 1 16 Tryd.underlying22 hiS zS0 zS1 zS2 rfl (by decide) _ 0 _ (by rfl) HM1.out _ (l.length - k) (c - k) _ (strVs (l.drop k)) (by rfl) HRD1.out HON1.out (by unfold maxLen; omega) (by omega) (by simp) ?_; intro v6 w6 hown6 hg6 hat6; obtain ⟨A6, c6, rfl, hr6⟩ := StrRow.of_owns (l := l.drop k) hown6 (by rw [Nat.zero_add, HLK.out]) (by rw [List.nil_append]); have HR6 := Lib.hid hr6; have HB6 := Lib.hid (show Below wr.heap.size wr w6 from (below_box wr _).trans ((Grew.of_grown hg6 hat6).below (by simp) (fun q hq => (HM1.out.lt q hq).1))); clear hown6 hg6 hat6 hr6; have hz6 := HB6.out.size; have HL6 := Lib.hid (HR.out.grew HB6.out); have HP6 := Lib.hid (show (w6.alloc (.cells #[.string s] 9)).ownsRow base 9 1 (.slice (some ⟨g, 0, none⟩) (k) (c)) (k) (strVs (l.take k)) from by have h := (StrRow.take HL6.out (k) (by omega)).alloc (.cells #[.string s] 9); rw [HTK.out] at h; exact h); have HRD2 := Lib.hid (show Reads (w6.alloc (.cells #[.string s] 9)) (w6.heap.size + 1) 1 (some ⟨w6.heap.size, 0, none⟩) 1 [.string s] from ⟨rfl, fun _ => ⟨_, rfl, by show w6.heap.size < _; omega, fun i u hi => by rw [show (⟨w6.heap.size, 0, none⟩ : Addr).add i = ⟨w6.heap.size, i, none⟩ by unfold Addr.add; split <;> simp_all, (Blk.new w6 9 [Value.string s]).cell]; exact hi⟩⟩); have HON2 := Lib.hid (show ∀ u ∈ [Value.string s], u.oneCell' = true from strVs_one [s]); obtain ⟨l7, el7⟩ : ∃ l7, l7 = l.take k ++ [s] := ⟨_, rfl⟩; have HL7 := Lib.hid el7; have hl7 : l7.length = k + 1 := (by rw [el7, List.length_append, HTK.out, List.length_singleton]); have hl7b : l7.length ≤ 1001 := (by omega); have HLEN7 := Lib.hid hl7; clear el7 hl7))
          | (at_builtin; (refine wpList_append_reads _ rfl _ _ 22 rfl base 9 iS _ 1 16 Tryd.underlying22 hiS zS0 zS1 zS2 rfl (by decide) _ (k) _ (by rfl) HP6.out _ 1 1 _ [_] (by rfl) HRD2.out HON2.out (by unfold maxLen; omega) (by omega) (by simp <;> omega) ?_; intro v7 w7 hown7 hg7 hat7; obtain ⟨A7, c7, rfl, hr7⟩ := StrRow.of_owns (l := l7) hown7 (by rw [HLEN7.out]) (by rw [HL7.out, strVs_append]; rfl); have HR7 := Lib.hid hr7; have HG7 := Lib.hid ((Grew.of_below HB6.out _).trans ((Grew.of_below (below_box w6 _) _).trans (Grew.of_grown hg7 hat7))); have HT7 := Lib.hid (show StrRow wr.heap.size w7 A6 c6 (l.drop k) from World.ownsRow.kept (World.ownsRow.alloc HR6.out _) hg7 (Classical.or_iff_not_imp_left.2 fun hne e => by obtain ⟨q, hq⟩ := Option.ne_none_iff_exists'.1 hne; have h1 := (StrRow.lt HR6.out q hq).1; have h2 := (HNO.out q (e ▸ hq)).2; omega)); clear hown7 hg7 hat7 hr7; have hz7 := HG7.out.size; have HT7' := Lib.hid (show Reads w7 w7.heap.size 1 A6 (l.drop k).length (strVs (l.drop k)) from HT7.out.reads'); rw [HLK.out] at HT7'; obtain ⟨l8, el8⟩ : ∃ l8, l8 = insS l s := ⟨_, rfl⟩; have HL8 := Lib.hid el8; have HE8 := Lib.hid (show l8 = l7 ++ l.drop k by rw [el8, HINS.out, HL7.out]; simp); clear el8))
          | (at_builtin; (refine wpList_append_reads _ rfl _ _ 22 rfl base 9 iS _ 1 16 Tryd.underlying22 hiS zS0 zS1 zS2 rfl (by decide) _ l7.length _ (by rfl) HR7.out _ (l.length - k) c6 _ (strVs (l.drop k)) (by rfl) HT7'.out HON1.out (by unfold maxLen; omega) (by omega) (by omega) ?_; intro v8 w8 hown8 hg8 hat8; obtain ⟨A8, c8, rfl, hr8⟩ := StrRow.of_owns (l := l8) hown8 (by rw [HE8.out, List.length_append, HLK.out]) (by rw [HE8.out, strVs_append]); have HR8 := Lib.hid hr8; have HG8 := Lib.hid (HG7.out.trans (Grew.of_grown hg8 hat8)); clear hown8 hg8 hat8 hr8)))
        go_ret
        exact ⟨_, _, l8, rfl, HL8.out, HR8.out, HG8.out⟩
    · have ek : k = l.length := by omega
      have HINS := Lib.hid (show insS l s = l.take k ++ (s :: l.drop k) by rw [insS_at s l k HT.out hk (fun t' ht' => by rw [List.getElem?_eq_none (by omega)] at ht'; cases ht'), if_neg (by rw [List.getElem?_eq_none (by omega)]; exact fun h => by cases h)])
      subst ek
      have j3 : (l.length : Int) ≤ (l.length : Int) := Int.le_refl _
      cases A with
      | none =>
        have hc : c = l.length := by
          obtain ⟨_, ⟨e, h2⟩ | ⟨g, cap, cur, e, _⟩⟩ := HR.out
          · injection e with e1 e2 e3; omega
          · cases e
        subst hc
        have HM1 := Lib.hid (World.ownsRow_made (base := wr.heap.size) (e := 9) (size := 1) wr #[] 0 (Nat.le_refl _) (by unfold maxLen; omega) (by simp))
        have HRD1 := Lib.hid (show Reads (wr.alloc (.cells #[] 9)) wr.heap.size 1 none (0) (strVs (l.drop l.length)) from (by rw [List.drop_length]; exact Reads.none_ _))
        have HON1 := Lib.hid (strVs_one (l.drop l.length))
        have HLK := Lib.hid (show (l.drop l.length).length = 0 by simp)
        have hlt6 : 0 ≤ 1000 := by omega
        have HTK := Lib.hid (show (l.take l.length).length = l.length by simp <;> omega)
        have HNO := Lib.hid (show ∀ q, (Value.slice none (l.length) (l.length)).ownBlock = some q → base ≤ q ∧ q < wr.heap.size from fun q hq => HR.out.lt q hq)
        go_wp2_with (first
          | (at_builtin; (refine wpList_append_reads _ rfl _ _ 22 rfl wr.heap.size 9 iS _ 1 16 Tryd.underlying22 hiS zS0 zS1 zS2 rfl (by decide) _ 0 _ (by rfl) HM1.out _ (0) (0) _ (strVs (l.drop l.length)) (by rfl) HRD1.out HON1.out (by unfold maxLen; omega) (by omega) (by simp) ?_; intro v6 w6 hown6 hg6 hat6; obtain ⟨A6, c6, rfl, hr6⟩ := StrRow.of_owns (l := l.drop l.length) hown6 (by rw [Nat.zero_add, HLK.out]) (by rw [List.nil_append]); have HR6 := Lib.hid hr6; have HB6 := Lib.hid (show Below wr.heap.size wr w6 from (below_box wr _).trans ((Grew.of_grown hg6 hat6).below (by simp) (fun q hq => (HM1.out.lt q hq).1))); clear hown6 hg6 hat6 hr6; have hz6 := HB6.out.size; have HL6 := Lib.hid (HR.out.grew HB6.out); have HP6 := Lib.hid (show (w6.alloc (.cells #[.string s] 9)).ownsRow base 9 1 (.slice none (l.length) (l.length)) (l.length) (strVs (l.take l.length)) from by have h := (StrRow.take HL6.out (l.length) (by omega)).alloc (.cells #[.string s] 9); rw [HTK.out] at h; exact h); have HRD2 := Lib.hid (show Reads (w6.alloc (.cells #[.string s] 9)) (w6.heap.size + 1) 1 (some ⟨w6.heap.size, 0, none⟩) 1 [.string s] from ⟨rfl, fun _ => ⟨_, rfl, by show w6.heap.size < _; omega, fun i u hi => by rw [show (⟨w6.heap.size, 0, none⟩ : Addr).add i = ⟨w6.heap.size, i, none⟩ by unfold Addr.add; split <;> simp_all, (Blk.new w6 9 [Value.string s]).cell]; exact hi⟩⟩); have HON2 := Lib.hid (show ∀ u ∈ [Value.string s], u.oneCell' = true from strVs_one [s]); obtain ⟨l7, el7⟩ : ∃ l7, l7 = l.take l.length ++ [s] := ⟨_, rfl⟩; have HL7 := Lib.hid el7; have hl7 : l7.length = l.length + 1 := (by rw [el7, List.length_append, HTK.out, List.length_singleton]); have hl7b : l7.length ≤ 1001 := (by omega); have HLEN7 := Lib.hid hl7; clear el7 hl7))
          | (at_builtin; (refine wpList_append_reads _ rfl _ _ 22 rfl base 9 iS _ 1 16 Tryd.underlying22 hiS zS0 zS1 zS2 rfl (by decide) _ (l.length) _ (by rfl) HP6.out _ 1 1 _ [_] (by rfl) HRD2.out HON2.out (by unfold maxLen; omega) (by omega) (by simp <;> omega) ?_; intro v7 w7 hown7 hg7 hat7; obtain ⟨A7, c7, rfl, hr7⟩ := StrRow.of_owns (l := l7) hown7 (by rw [HLEN7.out]) (by rw [HL7.out, strVs_append]; rfl); have HR7 := Lib.hid hr7; have HG7 := Lib.hid ((Grew.of_below HB6.out _).trans ((Grew.of_below (below_box w6 _) _).trans (Grew.of_grown hg7 hat7))); have HT7 := Lib.hid (show StrRow wr.heap.size w7 A6 c6 (l.drop l.length) from World.ownsRow.kept (World.ownsRow.alloc HR6.out _) hg7 (Classical.or_iff_not_imp_left.2 fun hne e => by obtain ⟨q, hq⟩ := Option.ne_none_iff_exists'.1 hne; have h1 := (StrRow.lt HR6.out q hq).1; have h2 := (HNO.out q (e ▸ hq)).2; omega)); clear hown7 hg7 hat7 hr7; have hz7 := HG7.out.size; have HT7' := Lib.hid (show Reads w7 w7.heap.size 1 A6 (l.drop l.length).length (strVs (l.drop l.length)) from HT7.out.reads'); rw [HLK.out] at HT7'; obtain ⟨l8, el8⟩ : ∃ l8, l8 = insS l s := ⟨_, rfl⟩; have HL8 := Lib.hid el8; have HE8 := Lib.hid (show l8 = l7 ++ l.drop l.length by rw [el8, HINS.out, HL7.out]; simp); clear el8))
          | (at_builtin; (refine wpList_append_reads _ rfl _ _ 22 rfl base 9 iS _ 1 16 Tryd.underlying22 hiS zS0 zS1 zS2 rfl (by decide) _ l7.length _ (by rfl) HR7.out _ (0) c6 _ (strVs (l.drop l.length)) (by rfl) HT7'.out HON1.out (by unfold maxLen; omega) (by omega) (by omega) ?_; intro v8 w8 hown8 hg8 hat8; obtain ⟨A8, c8, rfl, hr8⟩ := StrRow.of_owns (l := l8) hown8 (by rw [HE8.out, List.length_append, HLK.out]) (by rw [HE8.out, strVs_append]); have HR8 := Lib.hid hr8; have HG8 := Lib.hid (HG7.out.trans (Grew.of_grown hg8 hat8)); clear hown8 hg8 hat8 hr8)))
        go_ret
        exact ⟨_, _, l8, rfl, HL8.out, HR8.out, HG8.out⟩
      | some ad =>
        obtain ⟨g, eg⟩ : ∃ g, ad = ⟨g, 0, none⟩ := by
          obtain ⟨_, ⟨e, h2⟩ | ⟨g, cap, cur, e, _⟩⟩ := HR.out
          · cases e
          · injection e with e1 _ _; injection e1 with e1; exact ⟨g, e1⟩
        subst eg
        by_cases hc : c = l.length
        · subst hc
          have HM1 := Lib.hid (World.ownsRow_made (base := wr.heap.size) (e := 9) (size := 1) wr #[] 0 (Nat.le_refl _) (by unfold maxLen; omega) (by simp))
          have HRD1 := Lib.hid (show Reads (wr.alloc (.cells #[] 9)) wr.heap.size 1 (some ⟨g, 0, none⟩) (0) (strVs (l.drop l.length)) from (by rw [List.drop_length]; exact Reads.none_ _))
          have HON1 := Lib.hid (strVs_one (l.drop l.length))
          have HLK := Lib.hid (show (l.drop l.length).length = 0 by simp)
          have hlt6 : 0 ≤ 1000 := by omega
          have HTK := Lib.hid (show (l.take l.length).length = l.length by simp <;> omega)
          have HNO := Lib.hid (show ∀ q, (Value.slice (some ⟨g, 0, none⟩) (l.length) (l.length)).ownBlock = some q → base ≤ q ∧ q < wr.heap.size from fun q hq => HR.out.lt q hq)
          go_wp2_with (first
            | (at_builtin; (refine wpList_append_reads _ rfl _ _ 22 rfl wr.heap.size 9 iS _ 1 16 Tryd.underlying22 hiS zS0 zS1 zS2 rfl (by decide) _ 0 _ (by rfl) HM1.out _ (0) (0) _ (strVs (l.drop l.length)) (by rfl) HRD1.out HON1.out (by unfold maxLen; omega) (by omega) (by simp) ?_; intro v6 w6 hown6 hg6 hat6; obtain ⟨A6, c6, rfl, hr6⟩ := StrRow.of_owns (l := l.drop l.length) hown6 (by rw [Nat.zero_add, HLK.out]) (by rw [List.nil_append]); have HR6 := Lib.hid hr6; have HB6 := Lib.hid (show Below wr.heap.size wr w6 from (below_box wr _).trans ((Grew.of_grown hg6 hat6).below (by simp) (fun q hq => (HM1.out.lt q hq).1))); clear hown6 hg6 hat6 hr6; have hz6 := HB6.out.size; have HL6 := Lib.hid (HR.out.grew HB6.out); have HP6 := Lib.hid (show (w6.alloc (.cells #[.string s] 9)).ownsRow base 9 1 (.slice (some ⟨g, 0, none⟩) (l.length) (l.length)) (l.length) (strVs (l.take l.length)) from by have h := (StrRow.take HL6.out (l.length) (by omega)).alloc (.cells #[.string s] 9); rw [HTK.out] at h; exact h); have HRD2 := Lib.hid (show Reads (w6.alloc (.cells #[.string s] 9)) (w6.heap.size + 1) 1 (some ⟨w6.heap.size, 0, none⟩) 1 [.string s] from ⟨rfl, fun _ => ⟨_, rfl, by show w6.heap.size < _; omega, fun i u hi => by rw [show (⟨w6.heap.size, 0, none⟩ : Addr).add i = ⟨w6.heap.size, i, none⟩ by unfold Addr.add; split <;> simp_all, (Blk.new w6 9 [Value.string s]).cell]; exact hi⟩⟩); have HON2 := Lib.hid (show ∀ u ∈ [Value.string s], u.oneCell' = true from strVs_one [s]); obtain ⟨l7, el7⟩ : ∃ l7, l7 = l.take l.length ++ [s] := ⟨_, rfl⟩; have HL7 := Lib.hid el7; have hl7 : l7.length = l.length + 1 := (by rw [el7, List.length_append, HTK.out, List.length_singleton]); have hl7b : l7.length ≤ 1001 := (by omega); have HLEN7 := Lib.hid hl7; clear el7 hl7))
            | (at_builtin; (refine wpList_append_reads _ rfl _ _ 22 rfl base 9 iS _ 1 16 Tryd.underlying22 hiS zS0 zS1 zS2 rfl (by decide) _ (l.length) _ (by rfl) HP6.out _ 1 1 _ [_] (by rfl) HRD2.out HON2.out (by unfold maxLen; omega) (by omega) (by simp <;> omega) ?_; intro v7 w7 hown7 hg7 hat7; obtain ⟨A7, c7, rfl, hr7⟩ := StrRow.of_owns (l := l7) hown7 (by rw [HLEN7.out]) (by rw [HL7.out, strVs_append]; rfl); have HR7 := Lib.hid hr7; have HG7 := Lib.hid ((Grew.of_below HB6.out _).trans ((Grew.of_below (below_box w6 _) _).trans (Grew.of_grown hg7 hat7))); have HT7 := Lib.hid (show StrRow wr.heap.size w7 A6 c6 (l.drop l.length) from World.ownsRow.kept (World.ownsRow.alloc HR6.out _) hg7 (Classical.or_iff_not_imp_left.2 fun hne e => by obtain ⟨q, hq⟩ := Option.ne_none_iff_exists'.1 hne; have h1 := (StrRow.lt HR6.out q hq).1; have h2 := (HNO.out q (e ▸ hq)).2; omega)); clear hown7 hg7 hat7 hr7; have hz7 := HG7.out.size; have HT7' := Lib.hid (show Reads w7 w7.heap.size 1 A6 (l.drop l.length).length (strVs (l.drop l.length)) from HT7.out.reads'); rw [HLK.out] at HT7'; obtain ⟨l8, el8⟩ : ∃ l8, l8 = insS l s := ⟨_, rfl⟩; have HL8 := Lib.hid el8; have HE8 := Lib.hid (show l8 = l7 ++ l.drop l.length by rw [el8, HINS.out, HL7.out]; simp); clear el8))
            | (at_builtin; (refine wpList_append_reads _ rfl _ _ 22 rfl base 9 iS _ 1 16 Tryd.underlying22 hiS zS0 zS1 zS2 rfl (by decide) _ l7.length _ (by rfl) HR7.out _ (0) c6 _ (strVs (l.drop l.length)) (by rfl) HT7'.out HON1.out (by unfold maxLen; omega) (by omega) (by omega) ?_; intro v8 w8 hown8 hg8 hat8; obtain ⟨A8, c8, rfl, hr8⟩ := StrRow.of_owns (l := l8) hown8 (by rw [HE8.out, List.length_append, HLK.out]) (by rw [HE8.out, strVs_append]); have HR8 := Lib.hid hr8; have HG8 := Lib.hid (HG7.out.trans (Grew.of_grown hg8 hat8)); clear hown8 hg8 hat8 hr8)))
          go_ret
          exact ⟨_, _, l8, rfl, HL8.out, HR8.out, HG8.out⟩
        · have hc2 : ¬ (c : Int) = (l.length : Int) := by omega
          have j2 : (l.length : Int) ≤ (c : Int) := by omega
          have HM1 := Lib.hid (World.ownsRow_made (base := wr.heap.size) (e := 9) (size := 1) wr #[] 0 (Nat.le_refl _) (by unfold maxLen; omega) (by simp))
          have HRD1 := Lib.hid (show Reads (wr.alloc (.cells #[] 9)) wr.heap.size 1 (some ⟨g, l.length, none⟩) (0) (strVs (l.drop l.length)) from (by rw [List.drop_length]; exact Reads.none_ _))
          have HON1 := Lib.hid (strVs_one (l.drop l.length))
          have HLK := Lib.hid (show (l.drop l.length).length = 0 by simp)
          have hlt6 : 0 ≤ 1000 := by omega
          have HTK := Lib.hid (show (l.take l.length).length = l.length by simp <;> omega)
          have HNO := Lib.hid (show ∀ q, (Value.slice (some ⟨g, 0, none⟩) (l.length) (c)).ownBlock = some q → base ≤ q ∧ q < wr.heap.size from fun q hq => HR.out.lt q hq)
          go_wp2_with (first
            | (at_builtin; (refine wpList_append_reads _ rfl _ _ 22 rfl wr.heap.size 9 iS _ 1 16 Tryd.underlying22 hiS zS0 zS1 zS2 rfl (by decide) _ 0 _ (by rfl) HM1.out _ (0) (c - l.length) _ (strVs (l.drop l.length)) (by rfl) HRD1.out HON1.out (by unfold maxLen; omega) (by omega) (by simp) ?_; intro v6 w6 hown6 hg6 hat6; obtain ⟨A6, c6, rfl, hr6⟩ := StrRow.of_owns (l := l.drop l.length) hown6 (by rw [Nat.zero_add, HLK.out]) (by rw [List.nil_append]); have HR6 := Lib.hid hr6; have HB6 := Lib.hid (show Below wr.heap.size wr w6 from (below_box wr _).trans ((Grew.of_grown hg6 hat6).below (by simp) (fun q hq => (HM1.out.lt q hq).1))); clear hown6 hg6 hat6 hr6; have hz6 := HB6.out.size; have HL6 := Lib.hid (HR.out.grew HB6.out); have HP6 := Lib.hid (show (w6.alloc (.cells #[.string s] 9)).ownsRow base 9 1 (.slice (some ⟨g, 0, none⟩) (l.length) (c)) (l.length) (strVs (l.take l.length)) from by have h := (StrRow.take HL6.out (l.length) (by omega)).alloc (.cells #[.string s] 9); rw [HTK.out] at h; exact h); have HRD2 := Lib.hid (show Reads (w6.alloc (.cells #[.string s] 9)) (w6.heap.size + 1) 1 (some ⟨w6.heap.size, 0, none⟩) 1 [.string s] from ⟨rfl, fun _ => ⟨_, rfl, by show w6.heap.size < _; omega, fun i u hi => by rw [show (⟨w6.heap.size, 0, none⟩ : Addr).add i = ⟨w6.heap.size, i, none⟩ by unfold Addr.add; split <;> simp_all, (Blk.new w6 9 [Value.string s]).cell]; exact hi⟩⟩); have HON2 := Lib.hid (show ∀ u ∈ [Value.string s], u.oneCell' = true from strVs_one [s]); obtain ⟨l7, el7⟩ : ∃ l7, l7 = l.take l.length ++ [s] := ⟨_, rfl⟩; have HL7 := Lib.hid el7; have hl7 : l7.length = l.length + 1 := (by rw [el7, List.length_append, HTK.out, List.length_singleton]); have hl7b : l7.length ≤ 1001 := (by omega); have HLEN7 := Lib.hid hl7; clear el7 hl7))
            | (at_builtin; (refine wpList_append_reads _ rfl _ _ 22 rfl base 9 iS _ 1 16 Tryd.underlying22 hiS zS0 zS1 zS2 rfl (by decide) _ (l.length) _ (by rfl) HP6.out _ 1 1 _ [_] (by rfl) HRD2.out HON2.out (by unfold maxLen; omega) (by omega) (by simp <;> omega) ?_; intro v7 w7 hown7 hg7 hat7; obtain ⟨A7, c7, rfl, hr7⟩ := StrRow.of_owns (l := l7) hown7 (by rw [HLEN7.out]) (by rw [HL7.out, strVs_append]; rfl); have HR7 := Lib.hid hr7; have HG7 := Lib.hid ((Grew.of_below HB6.out _).trans ((Grew.of_below (below_box w6 _) _).trans (Grew.of_grown hg7 hat7))); have HT7 := Lib.hid (show StrRow wr.heap.size w7 A6 c6 (l.drop l.length) from World.ownsRow.kept (World.ownsRow.alloc HR6.out _) hg7 (Classical.or_iff_not_imp_left.2 fun hne e => by obtain ⟨q, hq⟩ := Option.ne_none_iff_exists'.1 hne; have h1 := (StrRow.lt HR6.out q hq).1; have h2 := (HNO.out q (e ▸ hq)).2; omega)); clear hown7 hg7 hat7 hr7; have hz7 := HG7.out.size; have HT7' := Lib.hid (show Reads w7 w7.heap.size 1 A6 (l.drop l.length).length (strVs (l.drop l.length)) from HT7.out.reads'); rw [HLK.out] at HT7'; obtain ⟨l8, el8⟩ : ∃ l8, l8 = insS l s := ⟨_, rfl⟩; have HL8 := Lib.hid el8; have HE8 := Lib.hid (show l8 = l7 ++ l.drop l.length by rw [el8, HINS.out, HL7.out]; simp); clear el8))
            | (at_builtin; (refine wpList_append_reads _ rfl _ _ 22 rfl base 9 iS _ 1 16 Tryd.underlying22 hiS zS0 zS1 zS2 rfl (by decide) _ l7.length _ (by rfl) HR7.out _ (0) c6 _ (strVs (l.drop l.length)) (by rfl) HT7'.out HON1.out (by unfold maxLen; omega) (by omega) (by omega) ?_; intro v8 w8 hown8 hg8 hat8; obtain ⟨A8, c8, rfl, hr8⟩ := StrRow.of_owns (l := l8) hown8 (by rw [HE8.out, List.length_append, HLK.out]) (by rw [HE8.out, strVs_append]); have HR8 := Lib.hid hr8; have HG8 := Lib.hid (HG7.out.trans (Grew.of_grown hg8 hat8)); clear hown8 hg8 hat8 hr8)))
          go_ret
          exact ⟨_, _, l8, rfl, HL8.out, HR8.out, HG8.out⟩
end Go.Proofs.YtppfgepoegicgaaDoor
