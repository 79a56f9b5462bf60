/- An asker keeps a tree: the program's keep. -/
import Derived.Test.YtppfgepoegicgaaZKeepS
import Derived.Test.YtppfgepoegicgaaZCloneK
import Derived.Test.YtppfgepoegicgaaGi
namespace Go.Proofs.Ytppfgepoegicgaa
open Go Go.RowKit

def KeptIs (a : Asker) (nm : ByteArray) (v : Val) (g : Nat) (t0 : TypeId) (us0 us2 : List Value) (f : List Nat) (w w' : World) (b : Bool) : Prop :=
  ∃ r : Int, First (a.trees.map (·.name)) nm r ∧ ((¬ Fits a (putAt a.trees nm v r) ∧ b = false ∧ Below w.heap.size w w') ∨ (Fits a (putAt a.trees nm v r) ∧ b = true ∧ ∃ sl f', Blk w' g t0 (us0 ++ ([.string a.name, .int .i64 a.most, .int .i64 a.fuel, sl] ++ us2)) ∧
    OD w' (.row 6 (putAt a.trees nm v r).length (keptsDs (putAt a.trees nm v r))) sl f' ∧ f'.Nodup ∧ (∀ b ∈ f', b ∈ f ∨ w.heap.size ≤ b) ∧ Upd [g] w w'))

set_option maxRecDepth 100000 in
set_option maxHeartbeats 4000000 in
theorem iKeep_calls (a : Asker) (nm : ByteArray) (v : Val) (T : Option Addr) (ct g k : Nat) (t0 : TypeId) (us0 us2 uv : List Value) (f : List Nat) (w : World) (B : Nat) (hB : B ≤ w.heap.size) (hg : Blk w g t0 (us0 ++ ([.string a.name, .int .i64 a.most, .int .i64 a.fuel, .slice T a.trees.length ct] ++ us2))) (h0 : us0.length = k * 4)
    (hT : OD w (.row 6 a.trees.length (keptsDs a.trees)) (.slice T a.trees.length ct) f) (hf : f.Nodup) (hgf : g ∉ f) (hv : RDv w B (valDs v) uv) (hsv : SmallDs (valDs v)) (hns : a.name.size ≤ 9223372036854775807) (hnm : nm.size ≤ 9223372036854775807) (hok : ∀ y ∈ a.trees, ValOk y.v) (hvok : ValOk v) (hl : a.trees.length ≤ 4) :
    Calls Try.prog 71 #[.pointer (some ⟨g, k * 4, none⟩), .string nm, .agg uv.toArray] w fun e w' => ∃ b, e = .returned (.bool b) ∧ KeptIs a nm v g t0 us0 us2 f w w' b := by
  obtain ⟨us, f0, f1, rfl, hS, hV⟩ := hT
  obtain ⟨b0, b1, b2, A5, n5, q5, A6, n6, q6, rfl⟩ := valDs_shape hv
  obtain ⟨iK, hiK, zK0, zK1, zK2⟩ := info_parts' Try.info_Kept
  obtain ⟨_, _, eS, _, _, hRS⟩ := OSl.reads hS (fun b hb => OSl.lt hS b hb)
  injection eS with eS1 _ eS2
  subst eS1 eS2
  have HRD := Lib.hid (show RDv w w.heap.size (askerDs a) [.string a.name, .int .i64 a.most, .int .i64 a.fuel, .slice T a.trees.length ct] from ⟨_, _, rfl, ⟨rfl, hns⟩, _, _, rfl, rfl, _, _, rfl, rfl, _, _, rfl, (show OD w (.row 6 a.trees.length (keptsDs a.trees)) (.slice T a.trees.length ct) (f0 ++ f1) from ⟨us, f0, f1, rfl, hS, hV⟩).rd', rfl⟩)
  have HONE := Lib.hid (RDv.one _ _ hV.rd')
  have HRS := Lib.hid hRS
  have HV := Lib.hid hv
  have HK := Lib.hid hV
  have HOKS := Lib.hid hok
  have HG := Lib.hid hg
  have HSV := Lib.hid hsv
  have hgl := hg.lt
  have hbx := fun o1 => below_box w o1
  have c0 : w.cell? ⟨g, k * 4, none⟩ = some (.string a.name) := hg.mid h0 0 rfl
  have c1 : w.cell? ⟨g, k * 4 + 1, none⟩ = some (.int .i64 a.most) := hg.mid h0 1 rfl
  have c2 : w.cell? ⟨g, k * 4 + 2, none⟩ = some (.int .i64 a.fuel) := hg.mid h0 2 rfl
  have c3 : w.cell? ⟨g, k * 4 + 3, none⟩ = some (.slice T a.trees.length ct) := hg.mid h0 3 rfl
  clear hv hS hV hRS hok hg hsv
  go_enter Try.func71, Try.ntmps71
  go_wp2_with fail
  refine (cloneRow_calls T a.trees.length ct us _ w.heap.size (hbx _).size (Reads.keep HRS.out fun p hp => (hbx _).cell hp) HONE.out (by omega)).mono ?_
  rintro e w1 ⟨A7, n7, q7, rfl, hw1, hb1⟩
  rw [show ∀ o, (w.alloc o).heap.size = w.heap.size + 1 from fun o => by simp] at hw1
  obtain ⟨hb, hz, bV⟩ := boxes1 (P := [_, _, _, _, _]) (boxes1_of hb1)
  have HW1 := Lib.hid hw1
  have HB1 := Lib.hid hb
  have HVb := Lib.hid bV
  have HG1 := Lib.hid (HG.out.below hb)
  clear hw1 hb1 c0 c1 c2 c3 bV
  have c0 : w1.cell? ⟨g, k * 4, none⟩ = some (.string a.name) := HG1.out.mid h0 0 rfl
  have c1 : w1.cell? ⟨g, k * 4 + 1, none⟩ = some (.int .i64 a.most) := HG1.out.mid h0 1 rfl
  have c2 : w1.cell? ⟨g, k * 4 + 2, none⟩ = some (.int .i64 a.fuel) := HG1.out.mid h0 2 rfl
  have c3 : w1.cell? ⟨g, k * 4 + 3, none⟩ = some (.slice T a.trees.length ct) := HG1.out.mid h0 3 rfl
  go_wp2_with fail
  refine (iTree_calls a [_, _, _, _] nm _ w.heap.size (by omega) (HRD.out.below HB1.out)).mono ?_
  rintro e w2 ⟨r, rfl, hf2, hb2⟩
  have HF := Lib.hid hf2
  have hz2 := hb2.size
  have HW2 := Lib.hid (owns_below HW1.out hb2)
  have HV2 := Lib.hid (HVb.out.below hb2)
  have HG2 := Lib.hid (HG1.out.below hb2)
  have HB2 := Lib.hid (HB1.out.trans (hb2.mono (by omega)))
  clear hf2 hb2 c0 c1 c2 c3 HW1 HVb HG1
  obtain ⟨cV, fV⟩ := blk_rules HV2.out
  by_cases tr : r < 0
  · have tr' : decide (0 ≤ r) = false := by simpa using tr
    go_wp2_with fail
    refine (clone_calls v [_, _, _, _, _] w2 B (by omega) (HV.out.below (HB2.out.mono hB)) HSV.out).mono ?_
    rintro e w3 ⟨vs, fp, rfl, hO3, hF3, hb3⟩
    obtain ⟨d0, d1, d2, A8, n8, q8, A9, n9, q9, rfl⟩ := valDs_shape hO3.rd'
    have hz3 := hb3.size
    have HO3 := Lib.hid hO3
    have HF3 := Lib.hid hF3
    have HW3 := Lib.hid (owns_below HW2.out hb3)
    have HG3 := Lib.hid (HG2.out.below hb3)
    have HB3 := Lib.hid (HB2.out.trans (hb3.mono (by omega)))
    have HWa := Lib.hid (HW3.out.alloc (.cells #[.string nm, .int .i64 d0, .int .i64 d1, .string d2, .slice A8 n8 q8, .slice A9 n9 q9] 70))
    have HRa := Lib.hid (show Reads (w3.alloc (.cells #[.string nm, .int .i64 d0, .int .i64 d1, .string d2, .slice A8 n8 q8, .slice A9 n9 q9] 70)) (w3.heap.size + 1) 6 (some ⟨w3.heap.size, 0, none⟩) 1 [.string nm, .int .i64 d0, .int .i64 d1, .string d2, .slice A8 n8 q8, .slice A9 n9 q9] from
      ⟨rfl, fun _ => ⟨_, rfl, by show w3.heap.size < _; omega, fun i u hi => by
        rw [show (⟨w3.heap.size, 0, none⟩ : Addr).add i = ⟨w3.heap.size, i, none⟩ by unfold Addr.add; split <;> simp_all, (Blk.new w3 70 [Value.string nm, .int .i64 d0, .int .i64 d1, .string d2, .slice A8 n8 q8, .slice A9 n9 q9]).cell]; exact hi⟩⟩)
    have HON2 := Lib.hid (show ∀ u ∈ [Value.string nm, .int .i64 d0, .int .i64 d1, .string d2, .slice A8 n8 q8, .slice A9 n9 q9], u.oneCell' = true from fun u hu => by
      rcases List.mem_cons.1 hu with rfl | hu
      · rfl
      · exact RDv.one _ _ hO3.rd' u hu)
    clear hO3 hF3 hb3 cV fV tr
    go_wp2_with (at_builtin; go_loud (refine wpList_append_reads _ rfl _ _ 59 rfl _ 70 iK _ 6 96 Try.underlying59 hiK zK0 zK1 zK2 rfl (by decide) _ a.trees.length _ (by rfl) HWa.out _ 1 1 (w3.heap.size + 1) [_, _, _, _, _, _] (by rfl) HRa.out HON2.out (by unfold maxLen; omega) (by omega) (by simp <;> omega) ?_; intro v10 w10 hown10 hg10 hat10; obtain ⟨A10, n10, q10, rfl⟩ := owns_shape hown10; have HW10 := Lib.hid hown10; have HB10 := Lib.hid hg10; clear hown10 hg10 hat10))
    have hz10 : w3.heap.size + 1 ≤ w10.heap.size := by have := HB10.out.size; simpa using this
    have own3 : ∀ q, (Value.slice A7 n7 q7).ownBlock = some q → w.heap.size ≤ q := fun q hq => by have := (HW3.out.lt q hq).1; omega
    have HB11 := Lib.hid (show Below w.heap.size w w10 from
      HB3.out.trans ⟨HB10.out.os, HB10.out.tape, HB10.out.output, by omega, fun b hb => (HB10.out.block b (by simp; omega) (fun e => by have := own3 b e.symm; omega)).trans (Below.heap_alloc _ _ _ (by omega))⟩)
    have hn10 : n10 = a.trees.length + 1 := by
      rcases HW10.out.2 with ⟨_, h⟩ | ⟨_, _, _, e, _⟩
      · omega
      · injection e
    subst hn10
    by_cases t4 : a.trees.length = 4
    · have t4' : decide ((4 : Int) < (a.trees.length : Int) + 1) = true := by simp; omega
      have t5' : decide ((4 : Int) < ((a.trees.length + 1 : Nat) : Int)) = true := by simp; omega
      have HNF := Lib.hid (show ¬ Fits a (putAt a.trees nm v r) from fun h => by have := h.1; rw [putAt_length, if_pos (by simpa using tr')] at this; omega)
      clear t4
      go_upto_region 7 with fail
      go_quiet (fail)
      go_wp2
      go_ret
      exact ⟨_, rfl, r, HF.out, .inl ⟨HNF.out, rfl, below_drewN (HB11.out.trans ((below_box w10 _).mono (by have := HB11.out.size; omega))) _⟩⟩
    · have t4' : decide ((4 : Int) < (a.trees.length : Int) + 1) = false := by simp; omega
      have t5' : decide ((4 : Int) < ((a.trees.length + 1 : Nat) : Int)) = false := by simp; omega
      have hpl : (putAt a.trees nm v r).length = a.trees.length + 1 := by rw [putAt_length, if_pos (by simpa using tr')]
      have hpc : putCells us nm [.int .i64 d0, .int .i64 d1, .string d2, .slice A8 n8 q8, .slice A9 n9 q9] r = us ++ [.string nm, .int .i64 d0, .int .i64 d1, .string d2, .slice A8 n8 q8, .slice A9 n9 q9] := by unfold putCells; rw [if_pos (by simpa using tr')]
      obtain ⟨nf1, nf2, nf3⟩ := List.nodup_append.1 hf
      have HLT := Lib.hid (ODv.lt _ _ _ HK.out)
      have own1 : ∀ q, (Value.slice A7 n7 q7).ownBlock = some q → w.heap.size ≤ q ∧ q < w2.heap.size := fun q hq => ⟨own3 q hq, (HW2.out.lt q hq).2⟩
      obtain ⟨f', hO', hN', hI'⟩ := kept_put (l := a.trees) (r := r) hnm (by have h9 : r < 0 := (by simpa using tr'); omega) (ODv.keep (w' := w3) _ _ _ (fun b hb => HB3.out.block b (HLT.out b hb)) HK.out) nf2 HO3.out HF3.out.1 (fun b hb h => by have := HLT.out b hb; have := (HF3.out.2 b h).1; have := HB2.out.size; omega)
      have HO10 := Lib.hid (ODv.keep (w' := w10) _ _ _ (fun b hb => by
        have hb3 : b < w3.heap.size ∧ ((b < w.heap.size) ∨ w2.heap.size ≤ b) := by
          rcases hI' b hb with h | h
          · have := HLT.out b h; have := HB3.out.size; exact ⟨by omega, .inl (by omega)⟩
          · have := HF3.out.2 b h; exact ⟨this.2, .inr this.1⟩
        exact (HB10.out.block b (by simp; omega) (fun e => by have := own1 b e.symm; omega)).trans (Below.heap_alloc _ _ _ hb3.1)) hO')
      rw [← hpc, ← hpl] at HW10
      have HG10 := Lib.hid (HG3.out.same (w' := w10) ((HB10.out.block g (by simp; omega) (fun e => by have := own1 g e.symm; omega)).trans (Below.heap_alloc _ _ _ (by omega))))
      have HIF := Lib.hid (show ∀ b ∈ f', b ∈ f1 ∨ w.heap.size ≤ b from fun b hb => by
        rcases hI' b hb with h | h
        · exact .inl h
        · have := HF3.out.2 b h; exact .inr (by omega))
      have hn63 : (a.trees.length + 1) ≤ 9223372036854775807 := by omega
      obtain ⟨fo, hos, _, _⟩ := owns_osl HW10.out
      obtain ⟨_, _, eO, hcO, h63O, hRO⟩ := OSl.reads hos (fun b hb => OSl.lt hos b hb)
      injection eO with eO1 _ eO2
      subst eO1 eO2
      have HRO := Lib.hid hRO
      have HRDn := Lib.hid (show RDv w10 w10.heap.size (askerDs ⟨⟨#[]⟩, 0, 0, putAt a.trees nm v r⟩) [.string ⟨#[]⟩, .int .i64 0, .int .i64 0, .slice A10 (a.trees.length + 1) q10] from
        ⟨_, _, rfl, ⟨rfl, by show (0 : Nat) ≤ _; omega⟩, _, _, rfl, rfl, _, _, rfl, rfl, _, _, rfl, ⟨_, _, _, by rw [hpl], (hcO.elim id fun h => by omega), by rw [hpl]; omega, hRO, HO10.out.rd'⟩, rfl⟩)
      clear hos hcO h63O hRO
      obtain ⟨W11, E11⟩ : ∃ W : World, W = w10.alloc (.cells #[.string ⟨#[]⟩, .int .i64 0, .int .i64 0, .slice A10 (a.trees.length + 1) q10] 61) := ⟨_, rfl⟩
      have HN11 := Lib.hid (show Blk W11 w10.heap.size 61 [.string ⟨#[]⟩, .int .i64 0, .int .i64 0, .slice A10 (a.trees.length + 1) q10] by rw [E11]; exact Blk.new w10 _ _)
      have HG11 := Lib.hid (show Blk W11 g t0 _ by rw [E11]; exact HG10.out.alloc _)
      have HB10' := Lib.hid (show Below w10.heap.size w10 W11 by rw [E11]; exact below_box w10 _)
      have hz11 : w10.heap.size + 1 = W11.heap.size := by rw [E11]; simp
      have HE := Lib.hid (E11)
      clear E11
      have kD0 := Lib.hid (show W11.drew.cell? ⟨w10.heap.size, 0, none⟩ = some (.string ⟨#[]⟩) from HN11.out.drew.cell 0)
      have kD1 := Lib.hid (show W11.drew.cell? ⟨w10.heap.size, 1, none⟩ = some (.int .i64 0) from HN11.out.drew.cell 1)
      have kD2 := Lib.hid (show W11.drew.cell? ⟨w10.heap.size, 2, none⟩ = some (.int .i64 0) from HN11.out.drew.cell 2)
      have kD3 := Lib.hid (show W11.drew.cell? ⟨w10.heap.size, 3, none⟩ = some (.slice A10 (a.trees.length + 1) q10) from HN11.out.drew.cell 3)
      have kD4 := Lib.hid (show W11.drew.cell? ⟨g, k * 4 + 1, none⟩ = some (.int .i64 a.most) from HG11.out.drew.mid h0 1 rfl)
      have hok' : ∀ y ∈ putAt a.trees nm v r, ValOk y.v := fun y hy => by
        rcases putAt_mem hy with h | rfl
        · exact HOKS.out y h
        · exact hvok
      obtain ⟨kc, hkc⟩ : ∃ q : Nat, q = keptsCnt (putAt a.trees nm v r) := ⟨_, rfl⟩
      have hkl : kc ≤ 60 * 5 := by have := keptsCnt_le _ hok'; rw [hpl, ← hkc] at this; omega
      have HKC := Lib.hid hkc
      have HPL := Lib.hid hpl
      have HKL := Lib.hid (show keptsCnt (⟨⟨#[]⟩, 0, 0, putAt a.trees nm v r⟩ : Asker).trees ≤ 1099511627776 from by show keptsCnt (putAt a.trees nm v r) ≤ _; rw [← hkc]; omega)
      clear hkc hok'
      go_upto_region 7 with fail
      rw [← HE.out]
      first | (go_region_held3 (fun w' => w'.cell? ⟨w10.heap.size, 0, none⟩ = some (.string ⟨#[]⟩) ∧ w'.cell? ⟨w10.heap.size, 1, none⟩ = some (.int .i64 0) ∧ w'.cell? ⟨w10.heap.size, 2, none⟩ = some (.int .i64 0) ∧ w'.cell? ⟨w10.heap.size, 3, none⟩ = some (.slice A10 (a.trees.length + 1) q10) ∧ w'.cell? ⟨g, k * 4 + 1, none⟩ = some (.int .i64 a.most))
        (first | (with_reducible exact ⟨kD0.out, kD1.out, kD2.out, kD3.out, kD4.out⟩) | (with_reducible exact ⟨k20.out, k21.out, k22.out, k23.out, k24.out⟩) | fail "keep")
        ((go_at_call 46; ((refine (iUsed_calls ⟨⟨#[]⟩, 0, 0, putAt a.trees nm v r⟩ [_, _, _, _] W11.drew w10.heap.size (show w10.heap.size ≤ W11.heap.size by omega) (HRDn.out.below HB10'.out.drew) HKL.out).mono ?_); rintro e w12 ⟨rfl, hb12⟩; rw [show keptsCnt (⟨⟨#[]⟩, 0, 0, putAt a.trees nm v r⟩ : Asker).trees = kc from HKC.out.symm]; have HB12 := Lib.hid (HB10'.out.trans (((Below.refl _ _).drew.trans hb12 : Below W11.heap.size W11 w12).mono (by omega))); have HN12 := Lib.hid (HN11.out.below ((Below.refl _ _).drew.trans hb12 : Below W11.heap.size W11 w12)); have HG12 := Lib.hid (HG11.out.below ((Below.refl _ _).drew.trans hb12 : Below W11.heap.size W11 w12)); have k20 := Lib.hid (show w12.cell? ⟨w10.heap.size, 0, none⟩ = some (.string ⟨#[]⟩) from HN12.out.cell 0); have k21 := Lib.hid (show w12.cell? ⟨w10.heap.size, 1, none⟩ = some (.int .i64 0) from HN12.out.cell 1); have k22 := Lib.hid (show w12.cell? ⟨w10.heap.size, 2, none⟩ = some (.int .i64 0) from HN12.out.cell 2); have k23 := Lib.hid (show w12.cell? ⟨w10.heap.size, 3, none⟩ = some (.slice A10 (a.trees.length + 1) q10) from HN12.out.cell 3); have k24 := Lib.hid (show w12.cell? ⟨g, k * 4 + 1, none⟩ = some (.int .i64 a.most) from HG12.out.mid h0 1 rfl); clear hb12)))) | fail "region 7"
      have hz12 := HB12.out.size
      have HB13 := Lib.hid (HB11.out.trans (HB12.out.mono HB11.out.size))
      have HO12 := Lib.hid (ODv.keep (w' := w12) _ _ _ (fun b hb => HB12.out.block b (ODv.lt _ _ _ HO10.out b hb)) HO10.out)
      have HRO12 := Lib.hid (Reads.keep (w' := w12) HRO.out fun p hp => HB12.out.cell hp)
      clear kD0 kD1 kD2 kD3 kD4 k20 k21 k22 k23 k24 HN11 HG11 HO10 HRO HG10 HRDn HB12 HB10' HE hz11
      by_cases tf : a.most < (kc : Int)
      · have tf' : ¬ (kc : Int) ≤ a.most := by omega
        have HNF := Lib.hid (show ¬ Fits a (putAt a.trees nm v r) from fun h => by have := h.2; rw [← HKC.out] at this; omega)
        go_wp2
        go_ret
        exact .inl ⟨rfl, r, HF.out, .inl ⟨HNF.out, rfl, HB13.out⟩⟩
      · have tf' : (kc : Int) ≤ a.most := by omega
        have HFI := Lib.hid (show Fits a (putAt a.trees nm v r) from ⟨by rw [HPL.out]; omega, by rw [← HKC.out]; omega⟩)
        have HOWN := Lib.hid (show (w12.alloc (.cells #[] 70)).ownsRow w12.heap.size 70 6 (.slice (some ⟨w12.heap.size, 0, none⟩) 0 0) 0 [] from World.ownsRow_made w12 #[] 0 (Nat.le_refl _) (by unfold maxLen; omega) (by simp))
        have HRDS := Lib.hid (show Reads (w12.alloc (.cells #[] 70)) w12.heap.size 6 A10 (a.trees.length + 1) _ from HPL.out ▸ (Reads.keep (w' := (w12.alloc (.cells #[] 70)).drew) HRO12.out fun p hp => (below_box w12 _).cell (by omega)).more hz12)
        have HONE2 := Lib.hid (RDv.one _ _ HO12.out.rd')
        have c12 : w12.cell? ⟨g, k * 4 + 3, none⟩ = some (.slice T a.trees.length ct) := HG12.out.mid h0 3 rfl
        have f12 : w12.frozen? ⟨g, k * 4 + 3, none⟩ = false := HG12.out.frozen _
        have hgl12 : g < w12.heap.size := HG12.out.lt
        clear HOKS HKL
        go_wp2_with (at_builtin; go_loud (refine wpList_append_reads _ rfl _ _ 59 rfl w12.heap.size 70 iK _ 6 96 Try.underlying59 hiK zK0 zK1 zK2 rfl (by decide) _ 0 [] (by rfl) HOWN.out _ (a.trees.length + 1) q10 w12.heap.size _ (by rfl) HRDS.out HONE2.out (by unfold maxLen; omega) (by omega) (by simp <;> omega) ?_; intro v14 w14 hown14 hg14 hat14; obtain ⟨A14, n14, q14, rfl⟩ := owns_shape hown14; have HW14 := Lib.hid hown14; have HB14 := Lib.hid (grown_new hg14); have c14 : w14.cell? ⟨g, k * 4 + 3, none⟩ = some (.slice T a.trees.length ct) := (HG12.out.below HB14.out.1).mid h0 3 rfl; have f14 : w14.frozen? ⟨g, k * 4 + 3, none⟩ = false := (HG12.out.below HB14.out.1).frozen _; clear hown14 hg14 hat14))
        have HW14 := Lib.hid (show w14.ownsRow w12.heap.size 70 6 (.slice A14 n14 q14) (putAt a.trees nm v r).length _ from by have h := HW14.out; rw [Nat.zero_add, List.nil_append] at h; rw [HPL.out]; exact h)
        have HG14 := Lib.hid (HG12.out.below HB14.out.1)
        have hz14 := HB14.out.1.size
        have HLF := Lib.hid (ODv.lt _ _ _ HO12.out)
        have hgf' : ∀ b ∈ f', b ≠ g := fun b hb e => by rcases HIF.out b hb with h | h; exact hgf (e ▸ List.mem_append_right _ h); omega
        obtain ⟨f'', hO2, hN2, hI2⟩ := row_own (W := w14.setCell ⟨g, k * 4 + 3, none⟩ (.slice A14 n14 q14)) HO12.out (fun b hb => (Below.heap_setCell w14 ⟨g, k * 4 + 3, none⟩ _ b (hgf' b hb)).trans (HB14.out.1.block b (HLF.out b hb))) (owns_far HW14.out (by show g < _; omega) _) HLF.out hN'
        have HRES := Lib.hid (show KeptIs a nm v g t0 us0 us2 (f0 ++ f1) w (w14.setCell ⟨g, k * 4 + 3, none⟩ (.slice A14 n14 q14)) true from
          ⟨r, HF.out, .inr ⟨HFI.out, rfl, _, f'', HG14.out.set_mid h0 3 (by simp) _, hO2, hN2, fun b hb => by
            rcases hI2 b hb with h | h
            · rcases HIF.out b h with h | h
              · exact .inl (List.mem_append_right _ h)
              · exact .inr h
            · exact .inr (by have := HB13.out.size; omega),
          (Upd.of_below (HB13.out.trans (HB14.out.1.mono HB13.out.size))).trans (Upd.setCell _ (by simp) _)⟩⟩)
        clear hO2 hN2 hI2
        go_ret
        exact .inr ⟨rfl, HRES.out⟩
  · obtain ⟨m, t, rfl, hlm, hdm, hfm⟩ := first_at (f := fun x : Kept => x.name) HF.out tr
    have hnt : t.name = nm := by
      rcases hfm with ⟨h, _⟩ | ⟨i, hi, h, _⟩
      · omega
      · obtain rfl : m = i := by omega
        rw [List.getElem?_map, drop_get hdm] at h
        injection h
    have HNC := Lib.hid (show us[m * 6]? = some (.string nm) by rw [name_cell HK.out (drop_get hdm), hnt])
    have tr' : decide ((0 : Int) ≤ (m : Int)) = true := by simp
    have j0 : (0 : Int) ≤ (m : Int) := by omega
    have j1 : (m : Int) < (a.trees.length : Int) := by omega
    clear hdm hfm hnt tr
    obtain ⟨g7, c7, e7, hg7, hlg7, hc7, hf7, -⟩ := own_put HW2.out (show m < a.trees.length by omega) (show [Value.int .i64 0, .int .i64 0, .int .i64 0, .int .i64 0, .int .i64 0].length = 5 from rfl)
    injection e7 with e71 e72 e73
    subst e71 e72 e73
    clear hc7 hf7
    go_wp2_with fail
    refine (clone_calls v [_, _, _, _, _] w2 B (by omega) (HV.out.below (HB2.out.mono hB)) HSV.out).mono ?_
    rintro e w3 ⟨vs, fp, rfl, hO3, hF3, hb3⟩
    obtain ⟨d0, d1, d2, A8, n8, q8, A9, n9, q9, rfl⟩ := valDs_shape hO3.rd'
    have hz3 := hb3.size
    have HO3 := Lib.hid hO3
    have HF3 := Lib.hid hF3
    have HW3 := Lib.hid (owns_below HW2.out hb3)
    have HG3 := Lib.hid (HG2.out.below hb3)
    have HB3 := Lib.hid (HB2.out.trans (hb3.mono (by omega)))
    obtain ⟨g8, c8, e8, hg8, hlg8, hc8, hf8, hput⟩ := own_put HW3.out (show m < a.trees.length by omega) (show [Value.int .i64 d0, .int .i64 d1, .string d2, .slice A8 n8 q8, .slice A9 n9 q9].length = 5 from rfl)
    injection e8 with e81 e82 e83
    injection e81 with e81
    injection e81 with e81
    subst e81 e83
    have HPUT := Lib.hid (hput nm HNC.out)
    obtain ⟨u1, z1⟩ := hc8 1 (by omega)
    obtain ⟨u2, z2⟩ := hc8 2 (by omega)
    obtain ⟨u3, z3⟩ := hc8 3 (by omega)
    obtain ⟨u4, z4⟩ := hc8 4 (by omega)
    obtain ⟨u5, z5⟩ := hc8 5 (by omega)
    obtain ⟨w10, e10⟩ : ∃ w10 : World, w10 = ((((w3.setCell ⟨g7, m * 6 + 1, none⟩ (.int .i64 d0)).setCell ⟨g7, m * 6 + 1 + 1, none⟩ (.int .i64 d1)).setCell ⟨g7, m * 6 + 1 + 2, none⟩ (.string d2)).setCell ⟨g7, m * 6 + 1 + 3, none⟩ (.slice A8 n8 q8)).setCell ⟨g7, m * 6 + 1 + 4, none⟩ (.slice A9 n9 q9) := ⟨_, rfl⟩
    have HW10 := Lib.hid (show w10.ownsRow (w.heap.size + 1) 70 6 (.slice (some ⟨g7, 0, none⟩) a.trees.length q7) a.trees.length (putCells us nm [.int .i64 d0, .int .i64 d1, .string d2, .slice A8 n8 q8, .slice A9 n9 q9] (m : Int)) from by rw [e10]; exact HPUT.out)
    have HW10 := Lib.hid (show w10.ownsRow (w.heap.size + 1) 70 6 (.slice (some ⟨g7, 0, none⟩) a.trees.length q7) a.trees.length _ from HW10.out)
    have same10 : ∀ b, b ≠ g7 → w10.heap[b]? = w3.heap[b]? := fun b hb => by rw [e10]; exact setAll_other [.int .i64 d0, .int .i64 d1, .string d2, .slice A8 n8 q8, .slice A9 n9 q9] w3 g7 (m * 6 + 1) b hb
    have hz10' : w10.heap.size = w3.heap.size := by rw [e10]; exact setAll_size [.int .i64 d0, .int .i64 d1, .string d2, .slice A8 n8 q8, .slice A9 n9 q9] w3 g7 (m * 6 + 1)
    have HB11 := Lib.hid (show Below w.heap.size w w10 from by rw [e10]; exact setAll_below (o := m * 6 + 1) [.int .i64 d0, .int .i64 d1, .string d2, .slice A8 n8 q8, .slice A9 n9 q9] (by omega) HB3.out)
    have HG10 := Lib.hid (HG3.out.same (w' := w10) (same10 _ (by omega)))
    have hpl : (putAt a.trees nm v (m : Int)).length = a.trees.length := by rw [putAt_length, if_neg (by omega)]
    rw [← hpl] at HW10
    have t4' : decide ((4 : Int) < (a.trees.length : Int)) = false := by simp; omega
    obtain ⟨nf1, nf2, nf3⟩ := List.nodup_append.1 hf
    have HLT := Lib.hid (ODv.lt _ _ _ HK.out)
    obtain ⟨f', hO', hN', hI'⟩ := kept_put (l := a.trees) (r := (m : Int)) hnm (by omega) (ODv.keep (w' := w3) _ _ _ (fun b hb => HB3.out.block b (HLT.out b hb)) HK.out) nf2 HO3.out HF3.out.1 (fun b hb h => by have := HLT.out b hb; have := (HF3.out.2 b h).1; have := HB2.out.size; omega)
    have HO10 := Lib.hid (ODv.keep (w' := w10) _ _ _ (fun b hb => same10 b (by
      rcases hI' b hb with h | h
      · have := HLT.out b h; omega
      · have := HF3.out.2 b h; omega)) hO')
    have HIF := Lib.hid (show ∀ b ∈ f', b ∈ f1 ∨ w.heap.size ≤ b from fun b hb => by
      rcases hI' b hb with h | h
      · exact .inl h
      · have := HF3.out.2 b h; exact .inr (by omega))
    clear hO3 hF3 hb3 cV fV hput hc8
    have hn63 : a.trees.length ≤ 9223372036854775807 := by omega
    obtain ⟨fo, hos, _, _⟩ := owns_osl HW10.out
    obtain ⟨_, _, eO, hcO, h63O, hRO⟩ := OSl.reads hos (fun b hb => OSl.lt hos b hb)
    injection eO with eO1 _ eO2
    subst eO1 eO2
    have HRO := Lib.hid hRO
    have HRDn := Lib.hid (show RDv w10 w10.heap.size (askerDs ⟨⟨#[]⟩, 0, 0, putAt a.trees nm v (m : Int)⟩) [.string ⟨#[]⟩, .int .i64 0, .int .i64 0, .slice (some ⟨g7, 0, none⟩) a.trees.length q7] from
      ⟨_, _, rfl, ⟨rfl, by show (0 : Nat) ≤ _; omega⟩, _, _, rfl, rfl, _, _, rfl, rfl, _, _, rfl, ⟨_, _, _, by rw [hpl], (hcO.elim id fun h => by omega), by rw [hpl]; omega, hRO, HO10.out.rd'⟩, rfl⟩)
    clear hos hcO h63O hRO
    obtain ⟨W11, E11⟩ : ∃ W : World, W = w10.alloc (.cells #[.string ⟨#[]⟩, .int .i64 0, .int .i64 0, .slice (some ⟨g7, 0, none⟩) a.trees.length q7] 61) := ⟨_, rfl⟩
    have HN11 := Lib.hid (show Blk W11 w10.heap.size 61 [.string ⟨#[]⟩, .int .i64 0, .int .i64 0, .slice (some ⟨g7, 0, none⟩) a.trees.length q7] by rw [E11]; exact Blk.new w10 _ _)
    have HG11 := Lib.hid (show Blk W11 g t0 _ by rw [E11]; exact HG10.out.alloc _)
    have HB10' := Lib.hid (show Below w10.heap.size w10 W11 by rw [E11]; exact below_box w10 _)
    have hz11 : w10.heap.size + 1 = W11.heap.size := by rw [E11]; simp
    have HE := Lib.hid (show W11 = World.alloc (((((w3.setCell ⟨g7, m * 6 + 1, none⟩ (.int .i64 d0)).setCell ⟨g7, m * 6 + 1 + 1, none⟩ (.int .i64 d1)).setCell ⟨g7, m * 6 + 1 + 2, none⟩ (.string d2)).setCell ⟨g7, m * 6 + 1 + 3, none⟩ (.slice A8 n8 q8)).setCell ⟨g7, m * 6 + 1 + 4, none⟩ (.slice A9 n9 q9)) (.cells #[.string ⟨#[]⟩, .int .i64 0, .int .i64 0, .slice (some ⟨g7, 0, none⟩) a.trees.length q7] 61) from by rw [E11, e10])
    clear E11
    have kD0 := Lib.hid (show W11.drew.cell? ⟨w10.heap.size, 0, none⟩ = some (.string ⟨#[]⟩) from HN11.out.drew.cell 0)
    have kD1 := Lib.hid (show W11.drew.cell? ⟨w10.heap.size, 1, none⟩ = some (.int .i64 0) from HN11.out.drew.cell 1)
    have kD2 := Lib.hid (show W11.drew.cell? ⟨w10.heap.size, 2, none⟩ = some (.int .i64 0) from HN11.out.drew.cell 2)
    have kD3 := Lib.hid (show W11.drew.cell? ⟨w10.heap.size, 3, none⟩ = some (.slice (some ⟨g7, 0, none⟩) a.trees.length q7) from HN11.out.drew.cell 3)
    have kD4 := Lib.hid (show W11.drew.cell? ⟨g, k * 4 + 1, none⟩ = some (.int .i64 a.most) from HG11.out.drew.mid h0 1 rfl)
    have hok' : ∀ y ∈ putAt a.trees nm v (m : Int), ValOk y.v := fun y hy => by
      rcases putAt_mem hy with h | rfl
      · exact HOKS.out y h
      · exact hvok
    obtain ⟨kc, hkc⟩ : ∃ q : Nat, q = keptsCnt (putAt a.trees nm v (m : Int)) := ⟨_, rfl⟩
    have hkl : kc ≤ 60 * 5 := by have := keptsCnt_le _ hok'; rw [hpl, ← hkc] at this; omega
    have HKC := Lib.hid hkc
    have HPL := Lib.hid hpl
    have HKL := Lib.hid (show keptsCnt (⟨⟨#[]⟩, 0, 0, putAt a.trees nm v (m : Int)⟩ : Asker).trees ≤ 1099511627776 from by show keptsCnt (putAt a.trees nm v (m : Int)) ≤ _; rw [← hkc]; omega)
    clear hkc hok'
    go_upto_region 7 with fail
    rw [← HE.out, ← hz10']
    have hz10s : w3.heap.size ≤ w10.heap.size := by omega
    clear hz10' e10 same10 z1 z2 z3 z4 z5
    first | (go_region_held3 (fun w' => w'.cell? ⟨w10.heap.size, 0, none⟩ = some (.string ⟨#[]⟩) ∧ w'.cell? ⟨w10.heap.size, 1, none⟩ = some (.int .i64 0) ∧ w'.cell? ⟨w10.heap.size, 2, none⟩ = some (.int .i64 0) ∧ w'.cell? ⟨w10.heap.size, 3, none⟩ = some (.slice (some ⟨g7, 0, none⟩) a.trees.length q7) ∧ w'.cell? ⟨g, k * 4 + 1, none⟩ = some (.int .i64 a.most))
      (first | (with_reducible exact ⟨kD0.out, kD1.out, kD2.out, kD3.out, kD4.out⟩) | (with_reducible exact ⟨k20.out, k21.out, k22.out, k23.out, k24.out⟩) | fail "keep")
      ((go_at_call 46; ((refine (iUsed_calls ⟨⟨#[]⟩, 0, 0, putAt a.trees nm v (m : Int)⟩ [_, _, _, _] W11.drew w10.heap.size (show w10.heap.size ≤ W11.heap.size by omega) (HRDn.out.below HB10'.out.drew) HKL.out).mono ?_); rintro e w12 ⟨rfl, hb12⟩; rw [show keptsCnt (⟨⟨#[]⟩, 0, 0, putAt a.trees nm v (m : Int)⟩ : Asker).trees = kc from HKC.out.symm]; have HB12 := Lib.hid (HB10'.out.trans (((Below.refl _ _).drew.trans hb12 : Below W11.heap.size W11 w12).mono (by omega))); have HN12 := Lib.hid (HN11.out.below ((Below.refl _ _).drew.trans hb12 : Below W11.heap.size W11 w12)); have HG12 := Lib.hid (HG11.out.below ((Below.refl _ _).drew.trans hb12 : Below W11.heap.size W11 w12)); have k20 := Lib.hid (show w12.cell? ⟨w10.heap.size, 0, none⟩ = some (.string ⟨#[]⟩) from HN12.out.cell 0); have k21 := Lib.hid (show w12.cell? ⟨w10.heap.size, 1, none⟩ = some (.int .i64 0) from HN12.out.cell 1); have k22 := Lib.hid (show w12.cell? ⟨w10.heap.size, 2, none⟩ = some (.int .i64 0) from HN12.out.cell 2); have k23 := Lib.hid (show w12.cell? ⟨w10.heap.size, 3, none⟩ = some (.slice (some ⟨g7, 0, none⟩) a.trees.length q7) from HN12.out.cell 3); have k24 := Lib.hid (show w12.cell? ⟨g, k * 4 + 1, none⟩ = some (.int .i64 a.most) from HG12.out.mid h0 1 rfl); clear hb12)))) | fail "region 7"
    have hz12 := HB12.out.size
    have HB13 := Lib.hid (HB11.out.trans (HB12.out.mono HB11.out.size))
    have HO12 := Lib.hid (ODv.keep (w' := w12) _ _ _ (fun b hb => HB12.out.block b (ODv.lt _ _ _ HO10.out b hb)) HO10.out)
    have HRO12 := Lib.hid (Reads.keep (w' := w12) HRO.out fun p hp => HB12.out.cell hp)
    clear kD0 kD1 kD2 kD3 kD4 k20 k21 k22 k23 k24 HN11 HG11 HO10 HRO HG10 HRDn HB12 HB10' HE hz11
    by_cases tf : a.most < (kc : Int)
    · have tf' : ¬ (kc : Int) ≤ a.most := by omega
      have HNF := Lib.hid (show ¬ Fits a (putAt a.trees nm v (m : Int)) from fun h => by have := h.2; rw [← HKC.out] at this; omega)
      go_wp2
      go_ret
      exact .inl ⟨rfl, (m : Int), HF.out, .inl ⟨HNF.out, rfl, HB13.out⟩⟩
    · have tf' : (kc : Int) ≤ a.most := by omega
      have HFI := Lib.hid (show Fits a (putAt a.trees nm v (m : Int)) from ⟨by rw [HPL.out]; omega, by rw [← HKC.out]; omega⟩)
      have HOWN := Lib.hid (show (w12.alloc (.cells #[] 70)).ownsRow w12.heap.size 70 6 (.slice (some ⟨w12.heap.size, 0, none⟩) 0 0) 0 [] from World.ownsRow_made w12 #[] 0 (Nat.le_refl _) (by unfold maxLen; omega) (by simp))
      have HRDS := Lib.hid (show Reads (w12.alloc (.cells #[] 70)) w12.heap.size 6 (some ⟨g7, 0, none⟩) a.trees.length _ from HPL.out ▸ (Reads.keep (w' := (w12.alloc (.cells #[] 70)).drew) HRO12.out fun p hp => (below_box w12 _).cell (by omega)).more hz12)
      have HONE2 := Lib.hid (RDv.one _ _ HO12.out.rd')
      have c12 : w12.cell? ⟨g, k * 4 + 3, none⟩ = some (.slice T a.trees.length ct) := HG12.out.mid h0 3 rfl
      have f12 : w12.frozen? ⟨g, k * 4 + 3, none⟩ = false := HG12.out.frozen _
      have hgl12 : g < w12.heap.size := HG12.out.lt
      clear HOKS HKL
      go_wp2_with (at_builtin; go_loud (refine wpList_append_reads _ rfl _ _ 59 rfl w12.heap.size 70 iK _ 6 96 Try.underlying59 hiK zK0 zK1 zK2 rfl (by decide) _ 0 [] (by rfl) HOWN.out _ a.trees.length q7 w12.heap.size _ (by rfl) HRDS.out HONE2.out (by unfold maxLen; omega) (by omega) (by simp <;> omega) ?_; intro v14 w14 hown14 hg14 hat14; obtain ⟨A14, n14, q14, rfl⟩ := owns_shape hown14; have HW14 := Lib.hid hown14; have HB14 := Lib.hid (grown_new hg14); have c14 : w14.cell? ⟨g, k * 4 + 3, none⟩ = some (.slice T a.trees.length ct) := (HG12.out.below HB14.out.1).mid h0 3 rfl; have f14 : w14.frozen? ⟨g, k * 4 + 3, none⟩ = false := (HG12.out.below HB14.out.1).frozen _; clear hown14 hg14 hat14))
      have HW14 := Lib.hid (show w14.ownsRow w12.heap.size 70 6 (.slice A14 n14 q14) (putAt a.trees nm v (m : Int)).length _ from by have h := HW14.out; rw [Nat.zero_add, List.nil_append] at h; rw [HPL.out]; exact h)
      have HG14 := Lib.hid (HG12.out.below HB14.out.1)
      have hz14 := HB14.out.1.size
      have HLF := Lib.hid (ODv.lt _ _ _ HO12.out)
      have hgf' : ∀ b ∈ f', b ≠ g := fun b hb e => by rcases HIF.out b hb with h | h; exact hgf (e ▸ List.mem_append_right _ h); omega
      obtain ⟨f'', hO2, hN2, hI2⟩ := row_own (W := w14.setCell ⟨g, k * 4 + 3, none⟩ (.slice A14 n14 q14)) HO12.out (fun b hb => (Below.heap_setCell w14 ⟨g, k * 4 + 3, none⟩ _ b (hgf' b hb)).trans (HB14.out.1.block b (HLF.out b hb))) (owns_far HW14.out (by show g < _; omega) _) HLF.out hN'
      have HRES := Lib.hid (show KeptIs a nm v g t0 us0 us2 (f0 ++ f1) w (w14.setCell ⟨g, k * 4 + 3, none⟩ (.slice A14 n14 q14)) true from
        ⟨(m : Int), HF.out, .inr ⟨HFI.out, rfl, _, f'', HG14.out.set_mid h0 3 (by simp) _, hO2, hN2, fun b hb => by
          rcases hI2 b hb with h | h
          · rcases HIF.out b h with h | h
            · exact .inl (List.mem_append_right _ h)
            · exact .inr h
          · exact .inr (by have := HB13.out.size; omega),
        (Upd.of_below (HB13.out.trans (HB14.out.1.mono HB13.out.size))).trans (Upd.setCell _ (by simp) _)⟩⟩)
      clear hO2 hN2 hI2
      go_ret
      exact .inr ⟨rfl, HRES.out⟩
end Go.Proofs.Ytppfgepoegicgaa
