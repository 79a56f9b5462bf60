/- An asker keeps a tree: the reference's l7Keep. -/
import Derived.Test.YtppfgepoegicgaaZPutKit
import Derived.Test.YtppfgepoegicgaaGf
namespace Go.Proofs.Ytppfgepoegicgaa
open Go Go.RowKit

theorem owns_below {w w' : World} {base sz n : Nat} {e : TypeId} {v : Value} {us : List Value} (h : w.ownsRow base e sz v n us) (hb : Below w.heap.size w w') : w'.ownsRow base e sz v n us :=
  h.kept (w := w) (w' := w') (show w.grownBy w' none from ⟨hb.os, hb.tape, hb.output, hb.size, fun k hk _ => hb.block k hk⟩) (by cases hv : v.ownBlock <;> simp)
/-- The name of a tree, as it lies in the row's cells. -/
theorem name_cell {w : World} {l : List Kept} {us : List Value} {f : List Nat} {m : Nat} {t : Kept} (h : ODv w (keptsDs l) us f) (hm : l[m]? = some t) : us[m * 6]? = some (.string t.name) := by
  obtain ⟨hlt, _⟩ := List.getElem?_eq_some_iff.1 hm
  rw [keptsDs_at hm] at h
  obtain ⟨u0, ur, f0, fr, rfl, rfl, k0, kr⟩ := h.split
  have l0 := k0.length_eq
  rw [keptsDs_length, List.length_take, Nat.min_eq_left (by omega)] at l0
  obtain ⟨u, us', f1, f2, rfl, rfl, ⟨rfl, _⟩, _⟩ := kr
  rw [List.getElem?_append_right (by omega), l0, Nat.sub_self]
  rfl
def KeepIs (a : Asker) (nm : ByteArray) (v : Val) (sl0 : Value) (f fv : List Nat) (w w' : World) (sl : Value) (c : Int) : Prop :=
  ∃ r : Int, First (a.trees.map (·.name)) nm r ∧ ((¬ Fits a (putAt a.trees nm v r) ∧ sl = sl0 ∧ c = 2) ∨ (Fits a (putAt a.trees nm v r) ∧ c = 0 ∧ ∃ f', OD w' (.row 6 (putAt a.trees nm v r).length (keptsDs (putAt a.trees nm v r))) sl f' ∧ f'.Nodup ∧ ∀ b ∈ f', b ∈ f ∨ b ∈ fv ∨ w.heap.size ≤ b))

set_option maxRecDepth 100000 in
set_option maxHeartbeats 4000000 in
theorem sKeep_calls (a : Asker) (nm : ByteArray) (v : Val) (T : Option Addr) (ct : Nat) (uv : List Value) (f fv : List Nat) (w : World) (hT : OD w (.row 6 a.trees.length (keptsDs a.trees)) (.slice T a.trees.length ct) f) (hf : f.Nodup) (hv : ODv w (valDs v) uv fv) (hfv : fv.Nodup) (hd : ∀ b ∈ f, b ∉ fv)
    (hns : a.name.size ≤ 9223372036854775807) (hnm : nm.size ≤ 9223372036854775807) (hok : ∀ y ∈ a.trees, ValOk y.v) (hvok : ValOk v) (hl : a.trees.length ≤ 4) :
    Calls Try.prog 68 #[.agg #[.string a.name, .int .i64 a.most, .int .i64 a.fuel, .slice T a.trees.length ct], .string nm, .agg uv.toArray] w
      fun e w' => ∃ sl c, e = .returned (.tuple #[.agg #[.string a.name, .int .i64 a.most, .int .i64 a.fuel, sl], .int .i64 c]) ∧ KeepIs a nm v (.slice T a.trees.length ct) f fv w w' sl c ∧ Below w.heap.size w w' := by
  obtain ⟨us, f0, f1, rfl, hS, hV⟩ := hT
  obtain ⟨b0, b1, b2, A5, n5, q5, A6, n6, q6, rfl⟩ := valDs_shape hv.rd'
  obtain ⟨iK, hiK, zK0, zK1, zK2⟩ := info_parts' Try.info_Kept
  obtain ⟨_, _, eS, _, _, hRS⟩ := OSl.reads hS (fun b hb => OSl.lt hS b hb)
  injection eS with eS1 _ eS2
  subst eS1 eS2
  have HRD := Lib.hid (show RDv w w.heap.size (askerDs a) [.string a.name, .int .i64 a.most, .int .i64 a.fuel, .slice T a.trees.length ct] from ⟨_, _, rfl, ⟨rfl, hns⟩, _, _, rfl, rfl, _, _, rfl, rfl, _, _, rfl, (show OD w (.row 6 a.trees.length (keptsDs a.trees)) (.slice T a.trees.length ct) (f0 ++ f1) from ⟨us, f0, f1, rfl, hS, hV⟩).rd', rfl⟩)
  have HONE := Lib.hid (RDv.one _ _ hV.rd')
  have HVD := Lib.hid (RDv.one _ _ hv.rd')
  have HRS := Lib.hid hRS
  have HV := Lib.hid hv
  have HK := Lib.hid hV
  have HD := Lib.hid hd
  have HOKS := Lib.hid hok
  obtain ⟨W1, EW⟩ : ∃ W1 : World, W1 = (((w.alloc (.cells #[.string a.name, .int .i64 a.most, .int .i64 a.fuel, .slice T a.trees.length ct] 61)).alloc (.cells #[.int .i64 b0, .int .i64 b1, .string b2, .slice A5 n5 q5, .slice A6 n6 q6] 39)).alloc (.cells #[.string ⟨#[]⟩, .int .i64 0, .int .i64 0, .slice none 0 0] 61)).alloc (.cells #[.string a.name, .int .i64 a.most, .int .i64 a.fuel, .slice T a.trees.length ct] 61) := ⟨_, rfl⟩
  have E1 : W1.heap.size = w.heap.size + 4 := by rw [EW]; simp
  have HBW := Lib.hid (show Below w.heap.size w W1 by rw [EW]; exact (((((Below.refl _ w).alloc (Nat.le_refl _) _).alloc (by simp) _).alloc (by simp <;> omega) _).alloc (by simp <;> omega) _))
  have HPb := Lib.hid (show Blk W1 w.heap.size 61 [.string a.name, .int .i64 a.most, .int .i64 a.fuel, .slice T a.trees.length ct] by rw [EW]; exact (((Blk.new w _ _).alloc _).alloc _).alloc _)
  have HVb := Lib.hid (show Blk W1 (w.heap.size + 1) 39 [.int .i64 b0, .int .i64 b1, .string b2, .slice A5 n5 q5, .slice A6 n6 q6] by
    rw [EW]
    have := (((Blk.new (w.alloc (.cells #[.string a.name, .int .i64 a.most, .int .i64 a.fuel, .slice T a.trees.length ct] 61)) 39 [.int .i64 b0, .int .i64 b1, .string b2, .slice A5 n5 q5, .slice A6 n6 q6]).alloc (.cells #[.string ⟨#[]⟩, .int .i64 0, .int .i64 0, .slice none 0 0] 61)).alloc (.cells #[.string a.name, .int .i64 a.most, .int .i64 a.fuel, .slice T a.trees.length ct] 61))
    simpa using this)
  have HRb := Lib.hid (show Blk W1 (w.heap.size + 1 + 1) 61 [.string ⟨#[]⟩, .int .i64 0, .int .i64 0, .slice none 0 0] by
    rw [EW]
    have := ((Blk.new ((w.alloc (.cells #[.string a.name, .int .i64 a.most, .int .i64 a.fuel, .slice T a.trees.length ct] 61)).alloc (.cells #[.int .i64 b0, .int .i64 b1, .string b2, .slice A5 n5 q5, .slice A6 n6 q6] 39)) 61 [.string ⟨#[]⟩, .int .i64 0, .int .i64 0, .slice none 0 0]).alloc (.cells #[.string a.name, .int .i64 a.most, .int .i64 a.fuel, .slice T a.trees.length ct] 61))
    simpa using this)
  have HOb := Lib.hid (show Blk W1 (w.heap.size + 1 + 1 + 1) 61 [.string a.name, .int .i64 a.most, .int .i64 a.fuel, .slice T a.trees.length ct] by
    rw [EW]
    have := (Blk.new (((w.alloc (.cells #[.string a.name, .int .i64 a.most, .int .i64 a.fuel, .slice T a.trees.length ct] 61)).alloc (.cells #[.int .i64 b0, .int .i64 b1, .string b2, .slice A5 n5 q5, .slice A6 n6 q6] 39)).alloc (.cells #[.string ⟨#[]⟩, .int .i64 0, .int .i64 0, .slice none 0 0] 61)) 61 [.string a.name, .int .i64 a.most, .int .i64 a.fuel, .slice T a.trees.length ct])
    simpa using this)
  have HE := Lib.hid EW
  have HOW := Lib.hid (show (W1.alloc (.cells #[] 70)).ownsRow (w.heap.size + 4) 70 6 (.slice (some ⟨w.heap.size + 4, 0, none⟩) 0 0) 0 [] from by
    rw [← E1]
    exact World.ownsRow_made W1 #[] 0 (Nat.le_refl _) (by unfold maxLen; omega) (by simp))
  have HRA := Lib.hid (show Reads (W1.alloc (.cells #[] 70)) w.heap.size 6 T a.trees.length us from Reads.keep HRS.out fun p hp => (HBW.out.trans ((below_box W1 _).mono (by omega))).cell hp)
  have hpa : (W1.alloc (.cells #[] 70)).cell? ⟨w.heap.size, 3, none⟩ = some (.slice T a.trees.length ct) := (HPb.out.alloc _).cell 3
  clear hv hS hV hd hRS hok EW
  go_enter Try.func68, Try.ntmps68
  go_upto_region 2 with fail
  rw [← HE.out]
  go_wp2_with (at_builtin; go_loud (refine wpList_append_reads _ rfl _ _ 59 rfl (w.heap.size + 4) 70 iK _ 6 96 Try.underlying59 hiK zK0 zK1 zK2 rfl (by decide) _ 0 [] (by rfl) HOW.out _ a.trees.length ct w.heap.size us (by rfl) HRA.out HONE.out (by unfold maxLen; omega) (by omega) (by simp <;> omega) ?_; intro v7 w7 hown7 hg7 hat7; obtain ⟨A7, n7, q7, rfl⟩ := owns_shape hown7; have HW7 := Lib.hid hown7; have HB7 := Lib.hid (grown_new (W := W1) (show (W1.alloc (.cells #[] 70)).grownBy w7 (some W1.heap.size) from by rw [E1]; exact hg7)); have hz7 := HB7.out.2; have HP7 := Lib.hid (HPb.out.below HB7.out.1); have HV7 := Lib.hid (HVb.out.below HB7.out.1); have HR7 := Lib.hid (HRb.out.below HB7.out.1); have HO7 := Lib.hid (HOb.out.below HB7.out.1); clear hown7 hg7 hat7 hpa; have cO7 : w7.cell? ⟨w.heap.size + 1 + 1 + 1, 3, none⟩ = some (.slice T a.trees.length ct) := HO7.out.cell 3; have fO7 := HO7.out.frozen 3; have cP7 := HP7.out.cell; have fP7 := HP7.out.frozen))
  have ne3 : w.heap.size + 1 + 1 + 1 ≠ w.heap.size := by omega
  have HW8 := Lib.hid (owns_far HW7.out (p := ⟨w.heap.size + 1 + 1 + 1, 3, none⟩) (by show w.heap.size + 1 + 1 + 1 < w.heap.size + 4; omega) (.slice A7 n7 q7))
  have HP8 := Lib.hid (HP7.out.far (p := ⟨w.heap.size + 1 + 1 + 1, 3, none⟩) (by show w.heap.size ≠ w.heap.size + 1 + 1 + 1; omega) (.slice A7 n7 q7))
  have HV8 := Lib.hid (HV7.out.far (p := ⟨w.heap.size + 1 + 1 + 1, 3, none⟩) (by show w.heap.size + 1 ≠ w.heap.size + 1 + 1 + 1; omega) (.slice A7 n7 q7))
  have HR8 := Lib.hid (HR7.out.far (p := ⟨w.heap.size + 1 + 1 + 1, 3, none⟩) (by show w.heap.size + 1 + 1 ≠ w.heap.size + 1 + 1 + 1; omega) (.slice A7 n7 q7))
  have HO8 := Lib.hid (HO7.out.set_ 3 (.slice A7 n7 q7))
  have HB8 := Lib.hid ((HBW.out.trans (HB7.out.1.mono (by omega))).setCell (p := ⟨w.heap.size + 1 + 1 + 1, 3, none⟩) (by show w.heap.size ≤ w.heap.size + 1 + 1 + 1; omega) (.slice A7 n7 q7))
  have E8 : (w7.setCell ⟨w.heap.size + 1 + 1 + 1, 3, none⟩ (.slice A7 n7 q7)).heap.size = w7.heap.size := by simp [World.setCell]
  clear cO7 fO7 cP7 fP7 HP7 HV7 HR7 HO7 HW7 HPb HVb HRb HOb HOW HRA
  refine (sTree_calls a [_, _, _, _] nm _ w.heap.size (by rw [E8]; omega) (HRD.out.below HB8.out)).mono ?_
  rintro e w9 ⟨r, rfl, hf9, hb9⟩
  have HF := Lib.hid hf9
  have hz9 := hb9.size
  rw [E8] at hz9
  have HW9 := Lib.hid (owns_below HW8.out hb9)
  have HP9 := Lib.hid (HP8.out.below hb9)
  have HV9 := Lib.hid (HV8.out.below hb9)
  have HR9 := Lib.hid (HR8.out.below hb9)
  have HO9 := Lib.hid (HO8.out.below hb9)
  have HB9 := Lib.hid (HB8.out.trans (hb9.mono (by rw [E8]; omega)))
  clear hf9 hb9 HP8 HV8 HR8 HO8 HW8 HB8 E8
  obtain ⟨cP, fP⟩ := blk_rules HP9.out
  obtain ⟨cV, fV⟩ := blk_rules HV9.out
  obtain ⟨cR, fR⟩ := blk_rules HR9.out
  obtain ⟨cO, fO⟩ := blk_rules HO9.out
  by_cases tr : r < 0
  · by_cases t4 : 4 ≤ a.trees.length
    · have HN := Lib.hid (show KeepIs a nm v (.slice T a.trees.length ct) (f0 ++ f1) fv w w9 (.slice T a.trees.length ct) 2 from ⟨r, HF.out, .inl ⟨fun h => by have := h.1; rw [putAt_length, if_pos tr] at this; omega, rfl, rfl⟩⟩)
      have t4' : decide ((4 : Int) ≤ (a.trees.length : Int)) = true := by simp; omega
      have tr' : decide (0 ≤ r) = false := by simpa using tr
      clear tr t4
      go_wp2
      refine bodyPost_ret (v := .tuple #[.agg #[.string a.name, .int .i64 a.most, .int .i64 a.fuel, .slice T a.trees.length ct], .int .i64 2]) (by simp [results, Try.results68, go_sem, cR]) rfl ?_
      obtain ⟨q, h1, h2⟩ := HN.out
      refine ⟨_, _, rfl, ⟨q, h1, ?_⟩, setAll_below (o := 0) [_, _, _, _] (by omega) HB9.out⟩
      rcases h2 with h2 | ⟨_, h, _⟩
      · exact .inl h2
      · cases h
    · have t4' : decide ((4 : Int) ≤ (a.trees.length : Int)) = false := by simp; omega
      have tr' : decide (0 ≤ r) = false := by simpa using tr
      have HWa := Lib.hid (HW9.out.alloc (.cells #[.string nm, .int .i64 b0, .int .i64 b1, .string b2, .slice A5 n5 q5, .slice A6 n6 q6] 70))
      have HRa := Lib.hid (show Reads (w9.alloc (.cells #[.string nm, .int .i64 b0, .int .i64 b1, .string b2, .slice A5 n5 q5, .slice A6 n6 q6] 70)) (w9.heap.size + 1) 6 (some ⟨w9.heap.size, 0, none⟩) 1 [.string nm, .int .i64 b0, .int .i64 b1, .string b2, .slice A5 n5 q5, .slice A6 n6 q6] from
        ⟨rfl, fun _ => ⟨_, rfl, by show w9.heap.size < _; omega, fun i u hi => by
          rw [show (⟨w9.heap.size, 0, none⟩ : Addr).add i = ⟨w9.heap.size, i, none⟩ by unfold Addr.add; split <;> simp_all, (Blk.new w9 70 [Value.string nm, .int .i64 b0, .int .i64 b1, .string b2, .slice A5 n5 q5, .slice A6 n6 q6]).cell]; exact hi⟩⟩)
      have HON2 := Lib.hid (show ∀ u ∈ [Value.string nm, .int .i64 b0, .int .i64 b1, .string b2, .slice A5 n5 q5, .slice A6 n6 q6], u.oneCell' = true from fun u hu => by
        rcases List.mem_cons.1 hu with rfl | hu
        · rfl
        · exact HVD.out u hu)
      have hl3 : a.trees.length ≤ 3 := by omega
      clear tr t4
      go_wp2_with (at_builtin; go_loud (refine wpList_append_reads _ rfl _ _ 59 rfl (w.heap.size + 4) 70 iK _ 6 96 Try.underlying59 hiK zK0 zK1 zK2 rfl (by decide) _ (0 + a.trees.length) _ (by rfl) HWa.out _ 1 1 (w9.heap.size + 1) [_, _, _, _, _, _] (by rfl) HRa.out HON2.out (by unfold maxLen; omega) (by omega) (by simp <;> omega) ?_; intro v10 w10 hown10 hg10 hat10; obtain ⟨A10, n10, q10, rfl⟩ := owns_shape hown10; have HW10 := Lib.hid hown10; have HB10 := Lib.hid hg10; have HA10 := Lib.hid hat10; clear hown10 hg10 hat10; have same10 := Lib.hid (show ∀ b, b < w.heap.size + 4 → w10.heap[b]? = w9.heap[b]? from fun b hb => (HB10.out.block b (by simp; omega) (fun e => by have := (HW9.out.lt b e.symm).1; omega)).trans (Below.heap_alloc _ _ _ (by omega))); have HO10 := Lib.hid (HO9.out.same (same10.out _ (by omega))); have HP10 := Lib.hid (HP9.out.same (same10.out _ (by omega))); have HR10 := Lib.hid (HR9.out.same (same10.out _ (by omega))); clear cP fP cV fV cR fR cO fO; obtain ⟨cO, fO⟩ := blk_rules HO10.out; obtain ⟨cP, fP⟩ := blk_rules HP10.out; obtain ⟨cR, fR⟩ := blk_rules HR10.out))
      have hpl : (putAt a.trees nm v r).length = 0 + a.trees.length + 1 := by rw [putAt_length, if_pos (by simpa using tr')]; omega
      have hpc : putCells us nm [.int .i64 b0, .int .i64 b1, .string b2, .slice A5 n5 q5, .slice A6 n6 q6] r = [] ++ us ++ [.string nm, .int .i64 b0, .int .i64 b1, .string b2, .slice A5 n5 q5, .slice A6 n6 q6] := by unfold putCells; rw [if_pos (by simpa using tr')]; rfl
      have HO11 := Lib.hid (HO10.out.set_ 3 (.slice A10 n10 q10))
      have HP11 := Lib.hid (HP10.out.far (p := ⟨w.heap.size + 1 + 1 + 1, 3, none⟩) (by show w.heap.size ≠ w.heap.size + 1 + 1 + 1; omega) (.slice A10 n10 q10))
      have HR11 := Lib.hid (HR10.out.far (p := ⟨w.heap.size + 1 + 1 + 1, 3, none⟩) (by show w.heap.size + 1 + 1 ≠ w.heap.size + 1 + 1 + 1; omega) (.slice A10 n10 q10))
      have hz10 := HB10.out.size
      have hz10' : w9.heap.size + 1 ≤ w10.heap.size := by simpa using hz10
      have HB11 := Lib.hid (show Below w.heap.size w (w10.setCell ⟨w.heap.size + 1 + 1 + 1, 3, none⟩ (.slice A10 n10 q10)) from
        (HB9.out.trans ⟨HB10.out.os, HB10.out.tape, HB10.out.output, by omega, fun b hb => same10.out b (by omega)⟩).setCell (by show w.heap.size ≤ w.heap.size + 1 + 1 + 1; omega) _)
      have HW11 := Lib.hid (owns_far HW10.out (p := ⟨w.heap.size + 1 + 1 + 1, 3, none⟩) (by show w.heap.size + 1 + 1 + 1 < w.heap.size + 4; omega) (.slice A10 n10 q10))
      rw [← hpc, ← hpl] at HW11
      have HLT := Lib.hid (ODv.lt _ _ _ HK.out)
      have HLV := Lib.hid (ODv.lt _ _ _ HV.out)
      obtain ⟨nf1, nf2, nf3⟩ := List.nodup_append.1 hf
      obtain ⟨f', hO', hN', hI'⟩ := kept_put (l := a.trees) (r := r) hnm (by have h9 : r < 0 := (by simpa using tr'); omega) HK.out nf2 HV.out hfv (fun b hb => HD.out b (by simp [hb]))
      obtain ⟨f'', hO2, hN2, hI2⟩ := row_own hO' (fun b hb => HB11.out.block b (by rcases hI' b hb with h | h; exact HLT.out b h; exact HLV.out b h)) HW11.out (fun b hb => by rcases hI' b hb with h | h; (have := HLT.out b h; omega); (have := HLV.out b h; omega)) hN'
      have HOD := Lib.hid hO2
      have HND := Lib.hid hN2
      have HIN := Lib.hid (show ∀ b ∈ f'', b ∈ f0 ++ f1 ∨ b ∈ fv ∨ w.heap.size ≤ b from fun b hb => by
        rcases hI2 b hb with h | h
        · rcases hI' b h with h | h
          · exact .inl (List.mem_append_right _ h)
          · exact .inr (.inl h)
        · exact .inr (.inr (by omega)))
      have HNR := Lib.hid (show ∀ b ∈ f'', b ≠ w.heap.size + 1 + 1 from fun b hb => by
        rcases hI2 b hb with h | h
        · rcases hI' b h with h | h
          · have := HLT.out b h; omega
          · have := HLV.out b h; omega
        · omega)
      have HPL := Lib.hid hpl
      have hok' : ∀ y ∈ (withTrees a (putAt a.trees nm v r)).trees, ValOk y.v := fun y hy => by
        rcases putAt_mem hy with h | rfl
        · exact HOKS.out y h
        · exact hvok
      have hcl : keptsCnt (withTrees a (putAt a.trees nm v r)).trees ≤ 60 * (a.trees.length + 1) := by
        have := keptsCnt_le _ hok'
        have e : (withTrees a (putAt a.trees nm v r)).trees.length = 0 + a.trees.length + 1 := hpl
        rw [e] at this
        omega
      have HOK2 := Lib.hid hok'
      have HSL := Lib.hid (show ∃ q : Nat, q = keptsCnt (putAt a.trees nm v r) from ⟨_, rfl⟩)
      obtain ⟨kc, hkc⟩ := HSL.out
      have hkc' : kc ≤ 60 * (a.trees.length + 1) := by rw [hkc]; exact hcl
      have HKC := Lib.hid hkc
      have HRDn := Lib.hid (show RDv (w10.setCell ⟨w.heap.size + 1 + 1 + 1, 3, none⟩ (.slice A10 n10 q10)) (w10.setCell ⟨w.heap.size + 1 + 1 + 1, 3, none⟩ (.slice A10 n10 q10)).heap.size (askerDs (withTrees a (putAt a.trees nm v r))) [.string a.name, .int .i64 a.most, .int .i64 a.fuel, .slice A10 n10 q10] from
        ⟨_, _, rfl, ⟨rfl, hns⟩, _, _, rfl, rfl, _, _, rfl, rfl, _, _, rfl, hO2.rd', rfl⟩)
      clear hO' hN' hI' hO2 hN2 hI2 hok' hcl hkc hpl hpc cO fO cP fP cR fR HO10 HP10 HR10 HW10 HW11
      go_upto_region 9 with fail
      have kD0 := Lib.hid (show (w10.setCell ⟨w.heap.size + 1 + 1 + 1, 3, none⟩ (.slice A10 n10 q10)).drew.cell? ⟨w.heap.size + 1 + 1 + 1, 0, none⟩ = some (.string a.name) from HO11.out.drew.cell 0)
      have kD1 := Lib.hid (show (w10.setCell ⟨w.heap.size + 1 + 1 + 1, 3, none⟩ (.slice A10 n10 q10)).drew.cell? ⟨w.heap.size + 1 + 1 + 1, 1, none⟩ = some (.int .i64 a.most) from HO11.out.drew.cell 1)
      have kD2 := Lib.hid (show (w10.setCell ⟨w.heap.size + 1 + 1 + 1, 3, none⟩ (.slice A10 n10 q10)).drew.cell? ⟨w.heap.size + 1 + 1 + 1, 2, none⟩ = some (.int .i64 a.fuel) from HO11.out.drew.cell 2)
      have kD3 := Lib.hid (show (w10.setCell ⟨w.heap.size + 1 + 1 + 1, 3, none⟩ (.slice A10 n10 q10)).drew.cell? ⟨w.heap.size + 1 + 1 + 1, 3, none⟩ = some (.slice A10 n10 q10) from HO11.out.drew.cell 3)
      have hkc0 : keptsCnt (withTrees a (putAt a.trees nm v r)).trees ≤ 1099511627776 := by
        have e : keptsCnt (withTrees a (putAt a.trees nm v r)).trees = kc := HKC.out.symm
        omega
      have HKL := Lib.hid hkc0
      clear hkc0
      go_region_held3 (fun w' => w'.cell? ⟨w.heap.size + 1 + 1 + 1, 0, none⟩ = some (.string a.name) ∧ w'.cell? ⟨w.heap.size + 1 + 1 + 1, 1, none⟩ = some (.int .i64 a.most) ∧ w'.cell? ⟨w.heap.size + 1 + 1 + 1, 2, none⟩ = some (.int .i64 a.fuel) ∧ w'.cell? ⟨w.heap.size + 1 + 1 + 1, 3, none⟩ = some (.slice A10 n10 q10))
        (first | (with_reducible exact ⟨kD0.out, kD1.out, kD2.out, kD3.out⟩) | (with_reducible exact ⟨k20.out, k21.out, k22.out, k23.out⟩) | fail "keep")
        ((go_at_call 48; ((refine (sSum_calls (withTrees a (putAt a.trees nm v r)) [_, _, _, _] (w10.setCell ⟨w.heap.size + 1 + 1 + 1, 3, none⟩ (.slice A10 n10 q10)).drew (w10.setCell ⟨w.heap.size + 1 + 1 + 1, 3, none⟩ (.slice A10 n10 q10)).heap.size (Nat.le_refl _) (HRDn.out.below (Below.refl _ _).drew) HOK2.out HKL.out).mono ?_); rintro e w12 ⟨rfl, hb12⟩; rw [show keptsCnt (withTrees a (putAt a.trees nm v r)).trees = kc from HKC.out.symm]; have HB12 := Lib.hid ((Below.refl _ _).drew.trans hb12 : Below (w10.setCell ⟨w.heap.size + 1 + 1 + 1, 3, none⟩ (.slice A10 n10 q10)).heap.size (w10.setCell ⟨w.heap.size + 1 + 1 + 1, 3, none⟩ (.slice A10 n10 q10)) w12); have HO12 := Lib.hid (HO11.out.below HB12.out); have k20 := Lib.hid (show w12.cell? ⟨w.heap.size + 1 + 1 + 1, 0, none⟩ = some (.string a.name) from HO12.out.cell 0); have k21 := Lib.hid (show w12.cell? ⟨w.heap.size + 1 + 1 + 1, 1, none⟩ = some (.int .i64 a.most) from HO12.out.cell 1); have k22 := Lib.hid (show w12.cell? ⟨w.heap.size + 1 + 1 + 1, 2, none⟩ = some (.int .i64 a.fuel) from HO12.out.cell 2); have k23 := Lib.hid (show w12.cell? ⟨w.heap.size + 1 + 1 + 1, 3, none⟩ = some (.slice A10 n10 q10) from HO12.out.cell 3); clear hb12)))
      have HP12 := Lib.hid (HP11.out.below HB12.out)
      have HR12 := Lib.hid (HR11.out.below HB12.out)
      have HB13 := Lib.hid (HB11.out.trans (HB12.out.mono HB11.out.size))
      have HO13 := Lib.hid (OD.keep (w' := w12) _ _ _ (fun b hm => HB12.out.block b (OD.lt _ _ _ HOD.out b hm)) HOD.out)
      obtain ⟨cO, fO⟩ := blk_rules HO12.out
      obtain ⟨cP, fP⟩ := blk_rules HP12.out
      obtain ⟨cR, fR⟩ := blk_rules HR12.out
      clear kD0 kD1 kD2 kD3 k20 k21 k22 k23 HOD HP11 HR11 HO11 HB11 HB12
      by_cases tf : a.most < (kc : Int)
      · have tf' : ¬ (kc : Int) ≤ a.most := by omega
        have HNF := Lib.hid (show ¬ Fits a (putAt a.trees nm v r) from fun h => by have := h.2; rw [← HKC.out] at this; omega)
        go_wp2
        refine bodyPost_ret (v := .tuple #[.agg #[.string a.name, .int .i64 a.most, .int .i64 a.fuel, .slice T a.trees.length ct], .int .i64 2]) (by simp [results, Try.results68, go_sem, cR]) rfl ?_
        exact ⟨_, _, rfl, ⟨r, HF.out, .inl ⟨HNF.out, rfl, rfl⟩⟩, setAll_below (o := 0) [_, _, _, _] (by omega) HB13.out⟩
      · have tf' : (kc : Int) ≤ a.most := by omega
        have HFI := Lib.hid (show Fits a (putAt a.trees nm v r) from ⟨by rw [HPL.out]; omega, by rw [← HKC.out]; omega⟩)
        go_wp2
        refine bodyPost_ret (v := .tuple #[.agg #[.string a.name, .int .i64 a.most, .int .i64 a.fuel, .slice A10 n10 q10], .int .i64 0]) (by simp [results, Try.results68, go_sem, cR]) rfl ?_
        exact ⟨_, _, rfl, ⟨r, HF.out, .inr ⟨HFI.out, rfl, f'', OD.keep _ _ _ (fun b hm => setAll_other [_, _, _, _] w12 (w.heap.size + 1 + 1) 0 b (HNR.out b hm)) HO13.out, HND.out, HIN.out⟩⟩, setAll_below (o := 0) [_, _, _, _] (by omega) HB13.out⟩
  · obtain ⟨m, t, rfl, hlm, hdm, hfm⟩ := first_at (f := fun x : Kept => x.name) HF.out tr
    have hnt : t.name = nm := by
      rcases hfm with ⟨h, _⟩ | ⟨i, hi, h, _⟩
      · omega
      · obtain rfl : m = i := by omega
        rw [List.getElem?_map, drop_get hdm] at h
        injection h
    obtain ⟨g7, c7, e7, hg7, hlg7, hc7, hf7, hput⟩ := own_put HW9.out (show m < 0 + a.trees.length by omega) (show [Value.int .i64 b0, .int .i64 b1, .string b2, .slice A5 n5 q5, .slice A6 n6 q6].length = 5 from rfl)
    injection e7 with e71 e72 e73
    subst e71 e72 e73
    have HPUT := Lib.hid (hput nm (by rw [List.nil_append, name_cell HK.out (drop_get hdm), hnt]))
    have hml : m ≤ 4 := by omega
    have j0 : (0 : Int) ≤ (m : Int) := by omega
    have j1 : (m : Int) < ((0 + a.trees.length : Nat) : Int) := by omega
    obtain ⟨u1, z1⟩ := hc7 1 (by omega)
    obtain ⟨u2, z2⟩ := hc7 2 (by omega)
    obtain ⟨u3, z3⟩ := hc7 3 (by omega)
    obtain ⟨u4, z4⟩ := hc7 4 (by omega)
    obtain ⟨u5, z5⟩ := hc7 5 (by omega)
    clear hdm hfm hput tr hc7 hnt
    go_upto_region 9 with fail
    obtain ⟨w10, e10⟩ : ∃ w10 : World, w10 = ((((w9.setCell ⟨g7, m * 6 + 1, none⟩ (.int .i64 b0)).setCell ⟨g7, m * 6 + 1 + 1, none⟩ (.int .i64 b1)).setCell ⟨g7, m * 6 + 1 + 2, none⟩ (.string b2)).setCell ⟨g7, m * 6 + 1 + 3, none⟩ (.slice A5 n5 q5)).setCell ⟨g7, m * 6 + 1 + 4, none⟩ (.slice A6 n6 q6) := ⟨_, rfl⟩
    rw [← e10]
    have HW11 := Lib.hid (show w10.ownsRow (w.heap.size + 4) 70 6 (.slice (some ⟨g7, 0, none⟩) (0 + a.trees.length) q7) (0 + a.trees.length) (putCells ([] ++ us) nm [.int .i64 b0, .int .i64 b1, .string b2, .slice A5 n5 q5, .slice A6 n6 q6] (m : Int)) from by rw [e10]; exact HPUT.out)
    rw [List.nil_append, Nat.zero_add] at HW11
    have same10 : ∀ b, b ≠ g7 → w10.heap[b]? = w9.heap[b]? := fun b hb => by rw [e10]; exact setAll_other [.int .i64 b0, .int .i64 b1, .string b2, .slice A5 n5 q5, .slice A6 n6 q6] w9 g7 (m * 6 + 1) b hb
    have hz10 : w10.heap.size = w9.heap.size := by rw [e10]; exact setAll_size [.int .i64 b0, .int .i64 b1, .string b2, .slice A5 n5 q5, .slice A6 n6 q6] w9 g7 (m * 6 + 1)
    have HB11 := Lib.hid (show Below w.heap.size w w10 from by rw [e10]; exact setAll_below (o := m * 6 + 1) [.int .i64 b0, .int .i64 b1, .string b2, .slice A5 n5 q5, .slice A6 n6 q6] (by omega) HB9.out)
    have HO11 := Lib.hid (show Blk w10 (w.heap.size + 1 + 1 + 1) 61 [.string a.name, .int .i64 a.most, .int .i64 a.fuel, .slice (some ⟨g7, 0, none⟩) a.trees.length q7] from by
      have h := HO9.out.same (same10 _ (by omega))
      rw [Nat.zero_add] at h
      exact h)
    have HP11 := Lib.hid (HP9.out.same (same10 _ (by omega)))
    have HR11 := Lib.hid (HR9.out.same (same10 _ (by omega)))
    have hpl : (putAt a.trees nm v (m : Int)).length = a.trees.length := by rw [putAt_length, if_neg (by omega)]
    have HW11 := Lib.hid (show w10.ownsRow (w.heap.size + 4) 70 6 (.slice (some ⟨g7, 0, none⟩) a.trees.length q7) (putAt a.trees nm v (m : Int)).length (putCells us nm [.int .i64 b0, .int .i64 b1, .string b2, .slice A5 n5 q5, .slice A6 n6 q6] (m : Int)) from by rw [hpl]; exact HW11.out)
    clear z1 z2 z3 z4 z5 HPUT e10 cP fP cV fV cR fR cO fO hf7
    have HLT := Lib.hid (ODv.lt _ _ _ HK.out)
    have HLV := Lib.hid (ODv.lt _ _ _ HV.out)
    obtain ⟨nf1, nf2, nf3⟩ := List.nodup_append.1 hf
    obtain ⟨f', hO', hN', hI'⟩ := kept_put (l := a.trees) (r := (m : Int)) hnm (by omega) HK.out nf2 HV.out hfv (fun b hb => HD.out b (by simp [hb]))
    obtain ⟨f'', hO2, hN2, hI2⟩ := row_own hO' (fun b hb => HB11.out.block b (by rcases hI' b hb with h | h; exact HLT.out b h; exact HLV.out b h)) HW11.out (fun b hb => by rcases hI' b hb with h | h; (have := HLT.out b h; omega); (have := HLV.out b h; omega)) hN'
    have HOD := Lib.hid hO2
    have HND := Lib.hid hN2
    have HIN := Lib.hid (show ∀ b ∈ f'', b ∈ f0 ++ f1 ∨ b ∈ fv ∨ w.heap.size ≤ b from fun b hb => by
      rcases hI2 b hb with h | h
      · rcases hI' b h with h | h
        · exact .inl (List.mem_append_right _ h)
        · exact .inr (.inl h)
      · exact .inr (.inr (by omega)))
    have HNR := Lib.hid (show ∀ b ∈ f'', b ≠ w.heap.size + 1 + 1 from fun b hb => by
      rcases hI2 b hb with h | h
      · rcases hI' b h with h | h
        · have := HLT.out b h; omega
        · have := HLV.out b h; omega
      · omega)
    have HPL := Lib.hid hpl
    have hok' : ∀ y ∈ (withTrees a (putAt a.trees nm v (m : Int))).trees, ValOk y.v := fun y hy => by
      rcases putAt_mem (l := a.trees) (nm := nm) (v := v) (r := (m : Int)) hy with h | rfl
      · exact HOKS.out y h
      · exact hvok
    have hcl : keptsCnt (withTrees a (putAt a.trees nm v (m : Int))).trees ≤ 60 * (a.trees.length + 1) := by
      have := keptsCnt_le _ hok'
      have e : (withTrees a (putAt a.trees nm v (m : Int))).trees.length = a.trees.length := hpl
      rw [e] at this
      omega
    have HOK2 := Lib.hid hok'
    have HSL := Lib.hid (show ∃ q : Nat, q = keptsCnt (putAt a.trees nm v (m : Int)) from ⟨_, rfl⟩)
    obtain ⟨kc, hkc⟩ := HSL.out
    have hkc' : kc ≤ 60 * (a.trees.length + 1) := by rw [hkc]; exact hcl
    have HKC := Lib.hid hkc
    have HRDn := Lib.hid (show RDv w10 w10.heap.size (askerDs (withTrees a (putAt a.trees nm v (m : Int)))) [.string a.name, .int .i64 a.most, .int .i64 a.fuel, .slice (some ⟨g7, 0, none⟩) a.trees.length q7] from
      ⟨_, _, rfl, ⟨rfl, hns⟩, _, _, rfl, rfl, _, _, rfl, rfl, _, _, rfl, hO2.rd', rfl⟩)
    clear hO' hN' hI' hO2 hN2 hI2 hok' hcl hkc hpl HW11 same10 hz10
    have kD0 := Lib.hid (show w10.drew.cell? ⟨w.heap.size + 1 + 1 + 1, 0, none⟩ = some (.string a.name) from HO11.out.drew.cell 0)
    have kD1 := Lib.hid (show w10.drew.cell? ⟨w.heap.size + 1 + 1 + 1, 1, none⟩ = some (.int .i64 a.most) from HO11.out.drew.cell 1)
    have kD2 := Lib.hid (show w10.drew.cell? ⟨w.heap.size + 1 + 1 + 1, 2, none⟩ = some (.int .i64 a.fuel) from HO11.out.drew.cell 2)
    have kD3 := Lib.hid (show w10.drew.cell? ⟨w.heap.size + 1 + 1 + 1, 3, none⟩ = some (.slice (some ⟨g7, 0, none⟩) a.trees.length q7) from HO11.out.drew.cell 3)
    have hkc0 : keptsCnt (withTrees a (putAt a.trees nm v (m : Int))).trees ≤ 1099511627776 := by
      have e : keptsCnt (withTrees a (putAt a.trees nm v (m : Int))).trees = kc := HKC.out.symm
      omega
    have HKL := Lib.hid hkc0
    clear hkc0
    go_region_held3 (fun w' => w'.cell? ⟨w.heap.size + 1 + 1 + 1, 0, none⟩ = some (.string a.name) ∧ w'.cell? ⟨w.heap.size + 1 + 1 + 1, 1, none⟩ = some (.int .i64 a.most) ∧ w'.cell? ⟨w.heap.size + 1 + 1 + 1, 2, none⟩ = some (.int .i64 a.fuel) ∧ w'.cell? ⟨w.heap.size + 1 + 1 + 1, 3, none⟩ = some (.slice (some ⟨g7, 0, none⟩) a.trees.length q7))
      (first | (with_reducible exact ⟨kD0.out, kD1.out, kD2.out, kD3.out⟩) | (with_reducible exact ⟨k20.out, k21.out, k22.out, k23.out⟩) | fail "keep")
      ((go_at_call 48; ((refine (sSum_calls (withTrees a (putAt a.trees nm v (m : Int))) [_, _, _, _] w10.drew w10.heap.size (Nat.le_refl _) (HRDn.out.below (Below.refl _ _).drew) HOK2.out HKL.out).mono ?_); rintro e w12 ⟨rfl, hb12⟩; rw [show keptsCnt (withTrees a (putAt a.trees nm v (m : Int))).trees = kc from HKC.out.symm]; have HB12 := Lib.hid ((Below.refl _ _).drew.trans hb12 : Below w10.heap.size w10 w12); have HO12 := Lib.hid (HO11.out.below HB12.out); have k20 := Lib.hid (show w12.cell? ⟨w.heap.size + 1 + 1 + 1, 0, none⟩ = some (.string a.name) from HO12.out.cell 0); have k21 := Lib.hid (show w12.cell? ⟨w.heap.size + 1 + 1 + 1, 1, none⟩ = some (.int .i64 a.most) from HO12.out.cell 1); have k22 := Lib.hid (show w12.cell? ⟨w.heap.size + 1 + 1 + 1, 2, none⟩ = some (.int .i64 a.fuel) from HO12.out.cell 2); have k23 := Lib.hid (show w12.cell? ⟨w.heap.size + 1 + 1 + 1, 3, none⟩ = some (.slice (some ⟨g7, 0, none⟩) a.trees.length q7) from HO12.out.cell 3); clear hb12)))
    have HP12 := Lib.hid (HP11.out.below HB12.out)
    have HR12 := Lib.hid (HR11.out.below HB12.out)
    have HB13 := Lib.hid (HB11.out.trans (HB12.out.mono HB11.out.size))
    have HO13 := Lib.hid (OD.keep (w' := w12) _ _ _ (fun b hm => HB12.out.block b (OD.lt _ _ _ HOD.out b hm)) HOD.out)
    obtain ⟨cO, fO⟩ := blk_rules HO12.out
    obtain ⟨cP, fP⟩ := blk_rules HP12.out
    obtain ⟨cR, fR⟩ := blk_rules HR12.out
    clear kD0 kD1 kD2 kD3 k20 k21 k22 k23 HOD HP11 HR11 HO11 HB11 HB12
    by_cases tf : a.most < (kc : Int)
    · have tf' : ¬ (kc : Int) ≤ a.most := by omega
      have HNF := Lib.hid (show ¬ Fits a (putAt a.trees nm v (m : Int)) from fun h => by have := h.2; rw [← HKC.out] at this; omega)
      go_wp2
      refine bodyPost_ret (v := .tuple #[.agg #[.string a.name, .int .i64 a.most, .int .i64 a.fuel, .slice T a.trees.length ct], .int .i64 2]) (by simp [results, Try.results68, go_sem, cR]) rfl ?_
      exact ⟨_, _, rfl, ⟨(m : Int), HF.out, .inl ⟨HNF.out, rfl, rfl⟩⟩, setAll_below (o := 0) [_, _, _, _] (by omega) HB13.out⟩
    · have tf' : (kc : Int) ≤ a.most := by omega
      have HFI := Lib.hid (show Fits a (putAt a.trees nm v (m : Int)) from ⟨by rw [HPL.out]; omega, by rw [← HKC.out]; omega⟩)
      go_wp2
      refine bodyPost_ret (v := .tuple #[.agg #[.string a.name, .int .i64 a.most, .int .i64 a.fuel, .slice (some ⟨g7, 0, none⟩) a.trees.length q7], .int .i64 0]) (by simp [results, Try.results68, go_sem, cR]) rfl ?_
      exact ⟨_, _, rfl, ⟨(m : Int), HF.out, .inr ⟨HFI.out, rfl, f'', OD.keep _ _ _ (fun b hm => setAll_other [_, _, _, _] w12 (w.heap.size + 1 + 1) 0 b (HNR.out b hm)) HO13.out, HND.out, HIN.out⟩⟩, setAll_below (o := 0) [_, _, _, _] (by omega) HB13.out⟩
end Go.Proofs.Ytppfgepoegicgaa
