/- Where an asker's tree lies: the reference's l7Tree, the program's find. -/
import Derived.Test.YtppfgepoegicgaaGe
import Derived.Test.YtppfgepoegicgaaGb
import Derived.Test.YtppfgepoegicgaaGc
import Derived.Deep.DrawnRows
namespace Go.Proofs.Ytppfgepoegicgaa
open Go Go.RowKit

/-- r is the first place of s among the names, or -1. -/
def First (ns : List ByteArray) (s : ByteArray) (r : Int) : Prop := (r = -1 ∧ s ∉ ns) ∨ ∃ i : Nat, r = i ∧ ns[i]? = some s ∧ s ∉ ns.take i
def PFirst (ns : List ByteArray) (s : ByteArray) (w : World) (e : Ending) (w' : World) : Prop := ∃ r : Int, e = .returned (.int .i64 r) ∧ First ns s r ∧ Below w.heap.size w w'
theorem names_at {α : Type} {f : α → ByteArray} {vs : List α} {v : α} {k : Nat} (h : vs.drop k = v :: vs.drop (k + 1)) : (vs.map f)[k]? = some (f v) := by
  have : vs[k]? = some v := by
    have := congrArg (·[0]?) h
    simpa using this
  simp [this]
theorem First.hit {ns : List ByteArray} {s x : ByteArray} {k : Nat} (h : ns[k]? = some x) (e : x = s) (hn : s ∉ ns.take k) : First ns s (k : Int) := .inr ⟨k, rfl, by rw [h, e], hn⟩
theorem take_mem_succ {ns : List ByteArray} {s x : ByteArray} {k : Nat} (h : ns[k]? = some x) : s ∈ ns.take (k + 1) ↔ s ∈ ns.take k ∨ s = x := by
  rw [List.take_add_one, h]
  simp
theorem First.step {ns : List ByteArray} {s x : ByteArray} {k : Nat} (h : ns[k]? = some x) (e : x ≠ s) (hn : s ∉ ns.take k) : s ∉ ns.take (k + 1) := by
  rw [take_mem_succ h]
  rintro (h | h)
  · exact hn h
  · exact e h.symm
theorem First.none {ns : List ByteArray} {s : ByteArray} (h : s ∉ ns) : First ns s (-1) := .inl ⟨rfl, h⟩
theorem mem_of_take {ns : List ByteArray} {s : ByteArray} {i k : Nat} (h : ns[i]? = some s) (hik : i < k) : s ∈ ns.take k := by
  refine List.mem_of_getElem? (i := i) ?_
  rw [List.getElem?_take, if_pos hik, h]
/-- The first place of the k-th name is k, unless the name lies ahead of it. -/
theorem First.at {ns : List ByteArray} {s : ByteArray} {k : Nat} {r : Int} (h : First ns s r) (hk : ns[k]? = some s) : r = k ↔ s ∉ ns.take k := by
  rcases h with ⟨rfl, h⟩ | ⟨i, rfl, h1, h2⟩
  · exact absurd (List.mem_of_getElem? hk) h
  · constructor
    · intro e
      obtain rfl : i = k := by omega
      exact h2
    · intro e
      rcases Nat.lt_trichotomy i k with h | h | h
      · exact absurd (mem_of_take h1 h) e
      · rw [h]
      · exact absurd (mem_of_take hk h) h2
theorem First.nonneg {ns : List ByteArray} {s : ByteArray} {r : Int} (h : First ns s r) : r < 0 ↔ s ∉ ns := by
  rcases h with ⟨rfl, h⟩ | ⟨i, rfl, h1, h2⟩
  · simp [h]
  · exact ⟨fun h => by omega, fun h => absurd (List.mem_of_getElem? h1) h⟩
theorem First.det {ns : List ByteArray} {s : ByteArray} {r r' : Int} (h : First ns s r) (h' : First ns s r') : r = r' := by
  rcases h' with ⟨rfl, h'⟩ | ⟨i, rfl, h1, h2⟩
  · have := h.nonneg.2 h'
    rcases h with ⟨rfl, _⟩ | ⟨i, rfl, _⟩
    · rfl
    · omega
  · exact (h.at h1).2 h2

def NameOk (s : ByteArray) : Prop := TextOk s ∧ s.toList ≠ []
theorem iNameOk_calls (s : ByteArray) (w : World) (hs : s.size ≤ 9223372036854775807) : Calls Try.prog 41 #[.string s] w (PSame (NameOk s) w) := by
  by_cases t : TextOk s
  · by_cases t2 : s.toList = []
    all_goals
      go_enter Try.func41, Try.ntmps41
      go_wp2_with fail
      refine ((iTextOk_calls s _ hs).mono fun e w' h => h.true_ t).mono ?_
      rintro e w1 ⟨rfl, rfl⟩
      go_wp2
      go_ret
      exact ⟨_, rfl, by simp [NameOk, t, t2], rfl⟩
  · go_enter Try.func41, Try.ntmps41
    go_wp2_with fail
    refine ((iTextOk_calls s _ hs).mono fun e w' h => h.false_ t).mono ?_
    rintro e w1 ⟨rfl, rfl⟩
    go_wp2
    go_ret
    exact ⟨_, rfl, by simp [NameOk, t], rfl⟩
theorem sName_calls (s : ByteArray) (w : World) (hs : s.size ≤ 9223372036854775807) : Calls Try.prog 61 #[.string s] w (PSame (NameOk s) w) := by
  by_cases t : TextOk s
  · by_cases t2 : s.toList = []
    all_goals
      go_enter Try.func61, Try.ntmps61
      go_wp2_with fail
      refine ((sTextOk_calls s _ hs).mono fun e w' h => h.true_ t).mono ?_
      rintro e w1 ⟨rfl, rfl⟩
      go_wp2
      go_ret
      exact ⟨_, rfl, by simp [NameOk, t, t2], rfl⟩
  · go_enter Try.func61, Try.ntmps61
    go_wp2_with fail
    refine ((sTextOk_calls s _ hs).mono fun e w' h => h.false_ t).mono ?_
    rintro e w1 ⟨rfl, rfl⟩
    go_wp2
    go_ret
    exact ⟨_, rfl, by simp [NameOk, t], rfl⟩
theorem iBounds_calls (m f : Int) (w : World) : Calls Try.prog 43 #[.int .i64 m, .int .i64 f] w (PSame ((0 ≤ m ∧ m ≤ 150) ∧ (0 ≤ f ∧ f ≤ 5000)) w) := by
  by_cases t : 0 ≤ m ∧ m ≤ 150
  · go_enter Try.func43, Try.ntmps43
    go_wp2_with fail
    refine ((within_calls m 0 150 _).mono fun e w' h => h.true_ t).mono ?_
    rintro e w1 ⟨rfl, rfl⟩
    go_wp2_with fail
    refine (within_calls f 0 5000 _).mono ?_
    rintro e w1 ⟨r, rfl, hr, rfl⟩
    have HR := Lib.hid hr
    clear hr
    go_wp2
    go_ret
    exact ⟨r, rfl, by rw [HR.out]; simp [t], rfl⟩
  · go_enter Try.func43, Try.ntmps43
    go_wp2_with fail
    refine ((within_calls m 0 150 _).mono fun e w' h => h.false_ t).mono ?_
    rintro e w1 ⟨rfl, rfl⟩
    go_wp2
    go_ret
    exact ⟨_, rfl, by simp [t], rfl⟩
end Go.Proofs.Ytppfgepoegicgaa
namespace Go.Proofs.Ytppfgepoegicgaa
open Go Go.RowKit

def keptsCnt : List Kept → Nat
  | [] => 0
  | x :: r => valCnt x.v + keptsCnt r
def PInt (n : Nat) (w : World) (e : Ending) (w' : World) : Prop := e = .returned (.int .i64 n) ∧ Below w.heap.size w w'
theorem keptsCnt_le : ∀ (ts : List Kept), (∀ y ∈ ts, ValOk y.v) → keptsCnt ts ≤ 60 * ts.length
  | [], _ => by simp [keptsCnt]
  | x :: r, h => by
    have h1 := (h x (List.mem_cons_self)).2
    have h2 := keptsCnt_le r fun y hy => h y (List.mem_cons_of_mem _ hy)
    simp only [keptsCnt, List.length_cons]
    omega
theorem keptDs_tail {w : World} {B : Nat} {x : Kept} {a : Value} {us : List Value} (h : RDv w B (keptDs x) (a :: us)) : RDv w B (valDs x.v) us := by
  obtain ⟨us', e, _, h2⟩ := keptDs_open h
  injection e with _ e
  rw [e]; exact h2
theorem kept_name {w : World} {B : Nat} {x : Kept} {s : ByteArray} {us : List Value} (h : RDv w B (keptDs x) (.string s :: us)) : s = x.name ∧ x.name.size ≤ 9223372036854775807 := by
  obtain ⟨us', e, h1, h2⟩ := keptDs_open h
  injection e with e _
  injection e with e
  exact ⟨e, h1⟩

set_option maxRecDepth 100000 in
set_option maxHeartbeats 4000000 in
theorem iUsed_calls (x : Asker) (us : List Value) (w : World) (B : Nat) (hB : B ≤ w.heap.size) (h : RDv w B (askerDs x) us) (hC : keptsCnt x.trees ≤ 1099511627776) :
    Calls Try.prog 46 #[.agg us.toArray] w (PInt (keptsCnt x.trees) w) := by
  obtain ⟨A, c, rfl, hs, hl⟩ := askerDs_open h
  have HL := Lib.hid hl
  have hn2 := hl.len
  have HC := Lib.hid hC
  clear h hl hC
  go_enter Try.func46, Try.ntmps46
  go_wp2
  go_loopw [3, 9] (fun m i w' => ∃ (k j : Nat), k ≤ x.trees.length ∧ i = .int .i64 k ∧ m = .int .i64 j ∧ j ≤ 1099511627776 ∧ Hid (j + keptsCnt (x.trees.drop k) = keptsCnt x.trees) ∧ Below (w.heap.size + 1) (w.alloc (.cells #[.string x.name, .int .i64 x.most, .int .i64 x.fuel, .slice A x.trees.length c] 61)) w') (fun _ i _ => x.trees.length - (intOf i).toNat)
  case atStart => exact ⟨0, 0, by omega, rfl, rfl, by omega, (by simp : 0 + keptsCnt (x.trees.drop 0) = keptsCnt x.trees), Below.refl _ _⟩
  case round =>
    obtain ⟨k, j, hk, rfl, rfl, hj, HI, hb0⟩ := hrel
    obtain ⟨hb, hz, bP⟩ := boxes1 (P := [_, _, _, _]) hb0
    by_cases hlt : k < x.trees.length
    · obtain ⟨ad, v, x0, x1, x2, x3, x4, x5, rfl, hbl, hv, hm, hd1, y0, y1, y2, y3, y4, y5⟩ := row6_at (HL.out.upto (hb.mono hB) (Nat.le_refl _)) rfl hlt
      have hj2 : j + valCnt v.v ≤ 1099511627776 := by
        have h1 := HI.out
        rw [hd1.out] at h1
        simp only [keptsCnt] at h1
        have := HC.out
        omega
      have HI2 := Lib.hid (show j + valCnt v.v + keptsCnt (x.trees.drop (k + 1)) = keptsCnt x.trees by
        have h1 := HI.out
        rw [hd1.out] at h1
        simp only [keptsCnt] at h1
        omega)
      obtain ⟨a0, b0, b1, b2, A3, n3, q3, A4, n4, q4, es⟩ := keptDs_shape hv
      simp only [List.cons.injEq, and_true] at es
      obtain ⟨rfl, rfl, rfl, rfl, rfl, rfl⟩ := es
      have HV := Lib.hid (keptDs_tail hv)
      have hBr : B ≤ wr.heap.size := by omega
      have hW := fun o1 => below_box wr o1
      clear bP hv
      go_wp2_with fail
      refine (iMany_calls v.v [_, _, _, _, _] _ B (Nat.le_trans hBr (hW _).size) (HV.out.below ((hW _).mono hBr)) (by omega)).mono ?_
      rintro e w1 ⟨rfl, hb1⟩
      have hb2 := hb0.trans (((hW _).trans (hb1.mono (hW _).size)).mono hz)
      clear hW
      obtain ⟨m, em⟩ : ∃ m, m = valCnt v.v := ⟨_, rfl⟩
      rw [← em] at hj2 HI2
      rw [← em]
      have EM := Lib.hid em
      clear em
      go_wp2
      go_roundw
      case rel => exact ⟨k + 1, j + m, by omega, by go_num, by go_num, by omega, HI2, hb2⟩
      case measure => simp [intOf]; omega
    · have HE := Lib.hid (show j = keptsCnt x.trees by
        have h1 := HI.out
        rw [show k = x.trees.length by omega, List.drop_length] at h1
        simpa only [keptsCnt, Nat.add_zero] using h1)
      go_wp2
      go_ret
      exact ⟨by rw [← HE.out]; rfl, hb⟩

set_option maxRecDepth 100000 in
set_option maxHeartbeats 4000000 in
theorem sSum_calls (x : Asker) (us : List Value) (w : World) (B : Nat) (hB : B ≤ w.heap.size) (h : RDv w B (askerDs x) us) (hok : ∀ y ∈ x.trees, ValOk y.v) (hC : keptsCnt x.trees ≤ 1099511627776) :
    Calls Try.prog 48 #[.agg us.toArray] w (PInt (keptsCnt x.trees) w) := by
  obtain ⟨A, c, rfl, hs, hl⟩ := askerDs_open h
  have HL := Lib.hid hl
  have hn2 := hl.len
  have HC := Lib.hid hC
  have HO := Lib.hid hok
  clear h hl hC hok
  go_enter Try.func48, Try.ntmps48
  go_wp2
  go_loopw [3, 4] (fun m i w' => ∃ (k j : Nat), k ≤ x.trees.length ∧ i = .int .i64 k ∧ m = .int .i64 j ∧ j ≤ 1099511627776 ∧ Hid (j + keptsCnt (x.trees.drop k) = keptsCnt x.trees) ∧ Below (w.heap.size + 1) (w.alloc (.cells #[.string x.name, .int .i64 x.most, .int .i64 x.fuel, .slice A x.trees.length c] 61)) w') (fun _ i _ => x.trees.length - (intOf i).toNat)
  case atStart => exact ⟨0, 0, by omega, rfl, rfl, by omega, (by simp : 0 + keptsCnt (x.trees.drop 0) = keptsCnt x.trees), Below.refl _ _⟩
  case round =>
    obtain ⟨k, j, hk, rfl, rfl, hj, HI, hb0⟩ := hrel
    obtain ⟨hb, hz, bP⟩ := boxes1 (P := [_, _, _, _]) hb0
    obtain ⟨cP, fP⟩ := blk_rules bP
    by_cases hlt : k < x.trees.length
    · obtain ⟨ad, v, x0, x1, x2, x3, x4, x5, rfl, hbl, hv, hm, hd1, y0, y1, y2, y3, y4, y5⟩ := row6_at (HL.out.upto (hb.mono hB) (Nat.le_refl _)) rfl hlt
      have hj2 : j + valCnt v.v ≤ 1099511627776 := by
        have h1 := HI.out
        rw [hd1.out] at h1
        simp only [keptsCnt] at h1
        have := HC.out
        omega
      have HI2 := Lib.hid (show j + valCnt v.v + keptsCnt (x.trees.drop (k + 1)) = keptsCnt x.trees by
        have h1 := HI.out
        rw [hd1.out] at h1
        simp only [keptsCnt] at h1
        omega)
      obtain ⟨a0, b0, b1, b2, A3, n3, q3, A4, n4, q4, es⟩ := keptDs_shape hv
      simp only [List.cons.injEq, and_true] at es
      obtain ⟨rfl, rfl, rfl, rfl, rfl, rfl⟩ := es
      have HV := Lib.hid (keptDs_tail hv)
      have hBr : B ≤ wr.heap.size := by omega
      have j0 : (0 : Int) ≤ (k : Int) := by omega
      have j1 : (k : Int) < (x.trees.length : Int) := by omega
      have hok1 := HO.out v hm
      clear bP hv
      go_wp2_with fail
      refine (sValMany_ok v.v [_, _, _, _, _] _ B hBr HV.out hok1).mono ?_
      rintro e w1 ⟨rfl, hb1⟩
      have hb2 := hb0.trans (hb1.mono hz)
      obtain ⟨m, em⟩ : ∃ m, m = valCnt v.v := ⟨_, rfl⟩
      rw [← em] at hj2 HI2
      rw [← em]
      have EM := Lib.hid em
      clear em hok1 cP fP
      go_wp2
      go_roundw
      case rel => exact ⟨k + 1, j + m, by omega, by go_num, by go_num, by omega, HI2, hb2⟩
      case measure => simp [intOf]; omega
    · have HE := Lib.hid (show j = keptsCnt x.trees by
        have h1 := HI.out
        rw [show k = x.trees.length by omega, List.drop_length] at h1
        simpa only [keptsCnt, Nat.add_zero] using h1)
      go_wp2
      go_ret
      exact ⟨by rw [← HE.out]; rfl, hb⟩
end Go.Proofs.Ytppfgepoegicgaa
namespace Go.Proofs.Ytppfgepoegicgaa
open Go Go.RowKit

theorem nodup_take_succ {ns : List ByteArray} {s : ByteArray} {k : Nat} (h : ns[k]? = some s) : (ns.take (k + 1)).Nodup ↔ (ns.take k).Nodup ∧ s ∉ ns.take k := by
  rw [List.take_add_one, h]
  simp only [Option.toList_some, List.nodup_append, List.mem_singleton]
  constructor
  · rintro ⟨h1, _, h3⟩
    exact ⟨h1, fun hm => h3 s hm s rfl rfl⟩
  · rintro ⟨h1, h2⟩
    refine ⟨h1, by simp, fun a ha b hb e => ?_⟩
    subst hb
    subst e
    exact h2 ha
theorem nodup_at {ns : List ByteArray} {s : ByteArray} {k : Nat} (hn : ns.Nodup) (h : ns[k]? = some s) : s ∉ ns.take k :=
  ((nodup_take_succ h).1 (hn.sublist (List.take_sublist _ _))).2

def KOk (y : Kept) : Prop := NameOk y.name ∧ ValOk y.v
def AskerOk (a : Asker) : Prop := NameOk a.name ∧ (0 ≤ a.most ∧ a.most ≤ 150) ∧ (0 ≤ a.fuel ∧ a.fuel ≤ 5000) ∧ a.trees.length ≤ 4 ∧ (∀ y ∈ a.trees, KOk y) ∧ (a.trees.map (·.name)).Nodup ∧ (keptsCnt a.trees : Int) ≤ a.most

set_option maxRecDepth 100000 in
set_option maxHeartbeats 8000000 in
theorem sAsker_calls (x : Asker) (us : List Value) (w : World) (B : Nat) (hB : B ≤ w.heap.size) (h : RDv w B (askerDs x) us) (hC : ∀ y ∈ x.trees, valCnt y.v ≤ 1099511627776) :
    Calls Try.prog 40 #[.agg us.toArray] w (PBool (AskerOk x) w) := by
  obtain ⟨A, c, rfl, hs, hl⟩ := askerDs_open h
  have HX := Lib.hid h
  have HL := Lib.hid hl
  have hn2 := hl.len
  have HC := Lib.hid hC
  have hbx := fun o => below_box w o
  clear h hl hC
  by_cases tn : NameOk x.name
  case neg =>
    have HN := Lib.hid (show ¬ AskerOk x from fun h => tn h.1)
    go_enter Try.func40, Try.ntmps40
    go_wp2_with fail
    refine ((sName_calls _ _ hs).mono fun e w' h => h.false_ tn).mono ?_
    rintro e w1 ⟨rfl, rfl⟩
    go_wp2
    go_ret
    exact PBool.no HN.out (hbx _)
  by_cases m0 : x.most < 0
  case pos =>
    have HN := Lib.hid (show ¬ AskerOk x from fun h => absurd h.2.1.1 (by omega))
    go_enter Try.func40, Try.ntmps40
    go_wp2_with fail
    refine ((sName_calls _ _ hs).mono fun e w' h => h.true_ tn).mono ?_
    rintro e w1 ⟨rfl, rfl⟩
    go_wp2
    go_ret
    exact PBool.no HN.out (hbx _)
  by_cases m1 : 150 < x.most
  case pos =>
    have HN := Lib.hid (show ¬ AskerOk x from fun h => absurd h.2.1.2 (by omega))
    go_enter Try.func40, Try.ntmps40
    go_wp2_with fail
    refine ((sName_calls _ _ hs).mono fun e w' h => h.true_ tn).mono ?_
    rintro e w1 ⟨rfl, rfl⟩
    go_wp2
    go_ret
    exact PBool.no HN.out (hbx _)
  by_cases f0 : x.fuel < 0
  case pos =>
    have HN := Lib.hid (show ¬ AskerOk x from fun h => absurd h.2.2.1.1 (by omega))
    go_enter Try.func40, Try.ntmps40
    go_wp2_with fail
    refine ((sName_calls _ _ hs).mono fun e w' h => h.true_ tn).mono ?_
    rintro e w1 ⟨rfl, rfl⟩
    go_wp2
    go_ret
    exact PBool.no HN.out (hbx _)
  by_cases f1 : 5000 < x.fuel
  case pos =>
    have HN := Lib.hid (show ¬ AskerOk x from fun h => absurd h.2.2.1.2 (by omega))
    go_enter Try.func40, Try.ntmps40
    go_wp2_with fail
    refine ((sName_calls _ _ hs).mono fun e w' h => h.true_ tn).mono ?_
    rintro e w1 ⟨rfl, rfl⟩
    go_wp2
    go_ret
    exact PBool.no HN.out (hbx _)
  by_cases n1 : 4 < x.trees.length
  case pos =>
    have HN := Lib.hid (show ¬ AskerOk x from fun h => absurd h.2.2.2.1 (by omega))
    go_enter Try.func40, Try.ntmps40
    go_wp2_with fail
    refine ((sName_calls _ _ hs).mono fun e w' h => h.true_ tn).mono ?_
    rintro e w1 ⟨rfl, rfl⟩
    go_wp2
    go_ret
    exact PBool.no HN.out (hbx _)
  have HA := Lib.hid (show (∀ y ∈ x.trees, KOk y) → (x.trees.map (·.name)).Nodup → (AskerOk x ↔ (keptsCnt x.trees : Int) ≤ x.most) from fun h1 h2 =>
    ⟨fun h => h.2.2.2.2.2.2, fun h => ⟨tn, ⟨by omega, by omega⟩, ⟨by omega, by omega⟩, by omega, h1, h2, h⟩⟩)
  go_enter Try.func40, Try.ntmps40
  go_wp2_with fail
  refine ((sName_calls _ _ hs).mono fun e w' h => h.true_ tn).mono ?_
  rintro e w1 ⟨rfl, rfl⟩
  go_wp2
  clear tn m0 m1 f0 f1 hbx
  go_loopw [3] (fun i w' => ∃ (k : Nat), k ≤ x.trees.length ∧ i = .int .i64 k ∧ Hid (∀ y ∈ x.trees.take k, KOk y) ∧ Hid (((x.trees.map (·.name)).take k).Nodup) ∧ Below (w.heap.size + 1) (w.alloc (.cells #[.string x.name, .int .i64 x.most, .int .i64 x.fuel, .slice A x.trees.length c] 61)) w') (fun i _ => x.trees.length - (intOf i).toNat)
  case atStart => exact ⟨0, by omega, rfl, (by simp : ∀ y ∈ x.trees.take 0, KOk y), (by simp : ((x.trees.map (·.name)).take 0).Nodup), Below.refl _ _⟩
  case round =>
    obtain ⟨k, hk, rfl, HK, HD, hb0⟩ := hrel
    obtain ⟨hb, hz, bP⟩ := boxes1 (P := [_, _, _, _]) hb0
    obtain ⟨cP, fP⟩ := blk_rules bP
    by_cases hlt : k < x.trees.length
    · obtain ⟨ad, v, x0, x1, x2, x3, x4, x5, rfl, hbl, hv, hm, hd1, y0, y1, y2, y3, y4, y5⟩ := row6_at (HL.out.upto (hb.mono hB) (Nat.le_refl _)) rfl hlt
      have HM := Lib.hid (names_at (f := fun x : Kept => x.name) hd1.out)
      obtain ⟨a0, b0, b1, b2, A3, n3, q3, A4, n4, q4, es⟩ := keptDs_shape hv
      simp only [List.cons.injEq, and_true] at es
      obtain ⟨rfl, rfl, rfl, rfl, rfl, rfl⟩ := es
      have HV := Lib.hid (keptDs_tail hv)
      obtain ⟨rfl, hvs⟩ := kept_name hv
      have hC1 := HC.out v hm
      have hBr : B ≤ wr.heap.size := by omega
      have j0 : (0 : Int) ≤ (k : Int) := by omega
      have j1 : (k : Int) < (x.trees.length : Int) := by omega
      clear bP hv
      by_cases kn : NameOk v.name
      case neg =>
        have HN := Lib.hid (show ¬ AskerOk x from fun h => kn (h.2.2.2.2.1 v hm).1)
        go_wp2_with fail
        refine ((sName_calls _ _ hvs).mono fun e w' h => h.false_ kn).mono ?_
        rintro e w1 ⟨rfl, rfl⟩
        go_wp2
        go_ret
        exact PBool.no HN.out hb
      go_wp2_with fail
      refine ((sName_calls _ _ hvs).mono fun e w' h => h.true_ kn).mono ?_
      rintro e w1 ⟨rfl, rfl⟩
      go_wp2_with fail
      refine (sValOk_calls v.v [_, _, _, _, _] _ B hBr HV.out hC1).mono ?_
      rintro e w2 ⟨r, rfl, hr, hb1⟩
      have HR := Lib.hid hr
      have hb2 := hb0.trans (hb1.mono hz)
      have KN := Lib.hid kn
      clear hr hb1 cP fP kn y0 y1 y2 y3 y4 y5 hC1
      cases r with
      | false =>
        have HN := Lib.hid (show ¬ AskerOk x from fun h => absurd (HR.out.2 (h.2.2.2.2.1 v hm).2) (by simp))
        have hb3 := (boxes1 (P := [_, _, _, _]) hb2).1
        go_wp2
        go_ret
        exact PBool.no HN.out hb3
      | true =>
        have HK3 := Lib.hid ((take_all_succ hd1.out).2 ⟨HK.out, ⟨KN.out, HR.out.1 rfl⟩⟩)
        go_wp2
        go_loopw [4] (fun i w' => ∃ (j : Nat), j ≤ k ∧ i = .int .i64 j ∧ Hid (v.name ∉ (x.trees.map (·.name)).take j) ∧ Below (w.heap.size + 1) (w.alloc (.cells #[.string x.name, .int .i64 x.most, .int .i64 x.fuel, .slice (some ad) x.trees.length c] 61)) w') (fun i _ => k - (intOf i).toNat)
        case atStart => exact ⟨0, by omega, rfl, (by simp : v.name ∉ (x.trees.map (·.name)).take 0), hb2⟩
        case round =>
          clear hb2 hb hz hb0
          obtain ⟨j, hj, rfl, HJ, hb2⟩ := hrel
          obtain ⟨hb, hz, bP⟩ := boxes1 (P := [_, _, _, _]) hb2
          obtain ⟨cP, fP⟩ := blk_rules bP
          have i0 : (0 : Int) ≤ (j : Int) := by omega
          by_cases hlt2 : j < k
          · obtain ⟨ad', v', x0', x1', x2', x3', x4', x5', ea, hbl', hv', hm', hd1', y0', y1', y2', y3', y4', y5'⟩ := row6_at (HL.out.upto (hb.mono hB) (Nat.le_refl _)) rfl (show j < x.trees.length by omega)
            injection ea with ea
            subst ea
            obtain ⟨ad', v2, z0', z1', z2', z3', z4', z5', ea, hbl2, hv2, hm2, hd2, z0, z1, z2, z3, z4, z5⟩ := row6_at (HL.out.upto (hb.mono hB) (Nat.le_refl _)) rfl hlt
            injection ea with ea
            subst ea
            obtain rfl : v = v2 := by
              have h1 := hd1.out
              rw [hd2.out] at h1
              injection h1 with h1
              exact h1.symm
            obtain ⟨a0, b0, b1, b2, A3, n3, q3, A4, n4, q4, es⟩ := keptDs_shape hv'
            simp only [List.cons.injEq, and_true] at es
            obtain ⟨rfl, rfl, rfl, rfl, rfl, rfl⟩ := es
            obtain ⟨rfl, hvs'⟩ := kept_name hv'
            obtain ⟨a0, b0, b1, b2, A3, n3, q3, A4, n4, q4, es⟩ := keptDs_shape hv2
            simp only [List.cons.injEq, and_true] at es
            obtain ⟨rfl, rfl, rfl, rfl, rfl, rfl⟩ := es
            obtain ⟨rfl, hvs2⟩ := kept_name hv2
            have HM' := Lib.hid (names_at (f := fun x : Kept => x.name) hd1'.out)
            have i1 : (j : Int) < (x.trees.length : Int) := by omega
            have hltI : (j : Int) < (k : Int) := by omega
            clear hv' hv2 hd1' hd2 y1' y2' y3' y4' y5' z1 z2 z3 z4 z5 bP
            by_cases t : v'.name = v.name
            · have HN := Lib.hid (show ¬ AskerOk x from fun h => nodup_at h.2.2.2.2.2.1 HM.out (by rw [← t]; exact mem_of_take HM'.out hlt2))
              rw [t] at y0'
              clear HM'
              go_wp2
              go_quiet (fail)
              go_wp2
              go_ret
              exact PBool.no HN.out (below_drewN hb _)
            · have d6 := str_ne t
              have HJ3 := Lib.hid (First.step HM'.out t HJ.out)
              clear HM' HJ
              go_wp2
              go_quiet (fail)
              go_wp2
              go_roundw
              case rel => exact ⟨j + 1, by omega, by go_num, HJ3, below_drewN hb2 _⟩
              case measure => simp [intOf]; omega
          · have hjk : ¬ (j : Int) < (k : Int) := by omega
            have HD3 := Lib.hid ((nodup_take_succ HM.out).2 ⟨HD.out, by have := HJ.out; rwa [show j = k by omega] at this⟩)
            clear HJ
            go_wp2
            go_roundw
            case rel => exact ⟨k + 1, by omega, by go_num, HK3, HD3, hb2⟩
            case measure => simp [intOf]; omega
    · have HK3 := Lib.hid (show ∀ y ∈ x.trees, KOk y by have := HK.out; rwa [show k = x.trees.length by omega, List.take_length] at this)
      have HD3 := Lib.hid (show (x.trees.map (·.name)).Nodup by have := HD.out; rwa [show k = (x.trees.map (·.name)).length by simp; omega, List.take_length] at this)
      have HA2 := Lib.hid (HA.out HK3.out HD3.out)
      have hsum : keptsCnt x.trees ≤ 1099511627776 := by
        have := keptsCnt_le x.trees fun y hy => (HK3.out y hy).2
        omega
      have OKV := Lib.hid (show ∀ y ∈ x.trees, ValOk y.v from fun y hy => (HK3.out y hy).2)
      clear HK HD HA
      obtain ⟨m, em⟩ : ∃ m, m = keptsCnt x.trees := ⟨_, rfl⟩
      have EM := Lib.hid em
      rw [← em] at HA2
      clear em
      have K2 := Lib.hid (show Has [(w.heap.size, [.string x.name, .int .i64 x.most, .int .i64 x.fuel, .slice A x.trees.length c])] wr.drew from
        Has.cons (Nat.lt_of_lt_of_le (by omega) (Nat.le_refl wr.heap.size)) (fun i u hu => (cP i).trans hu) (Has.nil _))
      have D2 := Lib.hid (show Below wr.heap.size wr wr.drew from (Below.refl _ _).drew)
      have HX2 := Lib.hid (HX.out.below ((hb.trans (D2.out.mono (by omega))).mono hB))
      have hBw : B ≤ wr.drew.heap.size := Nat.le_trans (Nat.le_trans hB hb.size) (Nat.le_refl _)
      by_cases tm : (m : Int) ≤ x.most
      all_goals
        go_wp2_with fail
        have k0 := K2.out.head 0 rfl
        have k1 := K2.out.head 1 rfl
        have k2 := K2.out.head 2 rfl
        have k3 := K2.out.head 3 rfl
        clear cP fP
        go_region_held3 (fun w' => w'.cell? ⟨w.heap.size, 0, none⟩ = some (.string x.name) ∧ w'.cell? ⟨w.heap.size, 1, none⟩ = some (.int .i64 x.most) ∧ w'.cell? ⟨w.heap.size, 2, none⟩ = some (.int .i64 x.fuel) ∧ w'.cell? ⟨w.heap.size, 3, none⟩ = some (.slice A x.trees.length c))
          (first | go_keep | exact ⟨K3.out.head 0 rfl, K3.out.head 1 rfl, K3.out.head 2 rfl, K3.out.head 3 rfl⟩)
          (first
            | (go_at_call 48; ((with_reducible refine (sSum_calls x [.string x.name, .int .i64 x.most, .int .i64 x.fuel, .slice A x.trees.length c] wr.drew B hBw HX2.out OKV.out hsum).mono ?_); rintro e w3 ⟨rfl, hb3⟩; rw [← EM.out]; have K3 := Lib.hid (K2.out.below hb3))))
        go_wp2
        go_ret
        exact ⟨_, rfl, by rw [HA2.out]; simp [tm], hb.trans ((D2.out.trans (hb3.mono D2.out.size)).mono (by omega))⟩
end Go.Proofs.Ytppfgepoegicgaa
namespace Go.Proofs.Ytppfgepoegicgaa
open Go Go.RowKit

theorem asker_name {w : World} {B : Nat} {x : Asker} {s : ByteArray} {us : List Value} (h : RDv w B (askerDs x) (.string s :: us)) : s = x.name ∧ x.name.size ≤ 9223372036854775807 := by
  obtain ⟨A, c, e, h1, h2⟩ := askerDs_open h
  injection e with e _
  injection e with e
  exact ⟨e, h1⟩
def SOk (s : Shelf) : Prop := (∀ a ∈ s.askers, AskerOk a) ∧ (s.askers.map (·.name)).Nodup ∧ s.askers.length ≤ 4

set_option maxRecDepth 100000 in
set_option maxHeartbeats 8000000 in
theorem sShelfOk_calls (x : Shelf) (us : List Value) (w : World) (B : Nat) (hB : B ≤ w.heap.size) (h : RDv w B (shelfDs x) us) (hC : ∀ a ∈ x.askers, ∀ y ∈ a.trees, valCnt y.v ≤ 1099511627776) :
    Calls Try.prog 15 #[.agg us.toArray] w (PBool (SOk x) w) := by
  obtain ⟨A, c, rfl, hl⟩ := shelfDs_open h
  have HL := Lib.hid hl
  have hn2 := hl.len
  have HC := Lib.hid hC
  clear h hl hC
  go_enter Try.func15, Try.ntmps15
  go_wp2
  go_loopw [3] (fun i w' => ∃ (k : Nat), k ≤ x.askers.length ∧ i = .int .i64 k ∧ Hid (∀ y ∈ x.askers.take k, AskerOk y) ∧ Hid (((x.askers.map (·.name)).take k).Nodup) ∧ Below (w.heap.size + 1) (w.alloc (.cells #[.slice A x.askers.length c] 29)) w') (fun i _ => x.askers.length - (intOf i).toNat)
  case atStart => exact ⟨0, by omega, rfl, (by simp : ∀ y ∈ x.askers.take 0, AskerOk y), (by simp : ((x.askers.map (·.name)).take 0).Nodup), Below.refl _ _⟩
  case round =>
    obtain ⟨k, hk, rfl, HK, HD, hb0⟩ := hrel
    obtain ⟨hb, hz, bP⟩ := boxes1 (P := [_]) hb0
    obtain ⟨cP, fP⟩ := blk_rules bP
    by_cases hlt : k < x.askers.length
    · obtain ⟨ad, v, x0, x1, x2, x3, rfl, hbl, hv, hm, hd1, y0, y1, y2, y3⟩ := row4_at (HL.out.upto (hb.mono hB) (Nat.le_refl _)) rfl hlt
      have HM := Lib.hid (names_at (f := fun x : Asker => x.name) hd1.out)
      obtain ⟨a0, b0, b1, A4, n4, q4, es⟩ := askerDs_shape hv
      simp only [List.cons.injEq, and_true] at es
      obtain ⟨rfl, rfl, rfl, rfl⟩ := es
      obtain ⟨rfl, hvs⟩ := asker_name hv
      have HV := Lib.hid hv
      have hC1 := HC.out v hm
      have hBr : B ≤ wr.heap.size := by omega
      have j0 : (0 : Int) ≤ (k : Int) := by omega
      have j1 : (k : Int) < (x.askers.length : Int) := by omega
      clear bP hv
      go_wp2_with fail
      refine (sAsker_calls v [_, _, _, _] _ B hBr HV.out hC1).mono ?_
      rintro e w2 ⟨r, rfl, hr, hb1⟩
      have HR := Lib.hid hr
      have hb2 := hb0.trans (hb1.mono hz)
      clear hr hb1 cP fP y0 y1 y2 y3 hC1
      cases r with
      | false =>
        have HN := Lib.hid (show ¬ SOk x from fun h => absurd (HR.out.2 (h.1 v hm)) (by simp))
        have hb3 := (boxes1 (P := [_]) hb2).1
        go_wp2
        go_ret
        exact PBool.no HN.out hb3
      | true =>
        have HK3 := Lib.hid ((take_all_succ hd1.out).2 ⟨HK.out, HR.out.1 rfl⟩)
        go_wp2
        go_loopw [4] (fun i w' => ∃ (j : Nat), j ≤ k ∧ i = .int .i64 j ∧ Hid (v.name ∉ (x.askers.map (·.name)).take j) ∧ Below (w.heap.size + 1) (w.alloc (.cells #[.slice (some ad) x.askers.length c] 29)) w') (fun i _ => k - (intOf i).toNat)
        case atStart => exact ⟨0, by omega, rfl, (by simp : v.name ∉ (x.askers.map (·.name)).take 0), hb2⟩
        case round =>
          clear hb2 hb hz hb0
          obtain ⟨j, hj, rfl, HJ, hb2⟩ := hrel
          obtain ⟨hb, hz, bP⟩ := boxes1 (P := [_]) hb2
          obtain ⟨cP, fP⟩ := blk_rules bP
          have i0 : (0 : Int) ≤ (j : Int) := by omega
          by_cases hlt2 : j < k
          · obtain ⟨ad', v', x0', x1', x2', x3', ea, hbl', hv', hm', hd1', y0', y1', y2', y3'⟩ := row4_at (HL.out.upto (hb.mono hB) (Nat.le_refl _)) rfl (show j < x.askers.length by omega)
            injection ea with ea
            subst ea
            obtain ⟨ad', v2, z0', z1', z2', z3', ea, hbl2, hv2, hm2, hd2, z0, z1, z2, z3⟩ := row4_at (HL.out.upto (hb.mono hB) (Nat.le_refl _)) rfl hlt
            injection ea with ea
            subst ea
            obtain rfl : v = v2 := by
              have h1 := hd1.out
              rw [hd2.out] at h1
              injection h1 with h1
              exact h1.symm
            obtain ⟨a0, b0, b1, A4, n4, q4, es⟩ := askerDs_shape hv'
            simp only [List.cons.injEq, and_true] at es
            obtain ⟨rfl, rfl, rfl, rfl⟩ := es
            obtain ⟨rfl, hvs'⟩ := asker_name hv'
            obtain ⟨a0, b0, b1, A4, n4, q4, es⟩ := askerDs_shape hv2
            simp only [List.cons.injEq, and_true] at es
            obtain ⟨rfl, rfl, rfl, rfl⟩ := es
            obtain ⟨rfl, hvs2⟩ := asker_name hv2
            have HM' := Lib.hid (names_at (f := fun x : Asker => x.name) hd1'.out)
            have i1 : (j : Int) < (x.askers.length : Int) := by omega
            have hltI : (j : Int) < (k : Int) := by omega
            clear hv' hv2 hd1' hd2 y1' y2' y3' z1 z2 z3 bP
            by_cases t : v'.name = v.name
            · have HN := Lib.hid (show ¬ SOk x from fun h => nodup_at h.2.1 HM.out (by rw [← t]; exact mem_of_take HM'.out hlt2))
              rw [t] at y0'
              clear HM'
              go_wp2
              go_quiet (fail)
              go_wp2
              go_ret
              exact PBool.no HN.out (below_drewN hb _)
            · have d6 := str_ne t
              have HJ3 := Lib.hid (First.step HM'.out t HJ.out)
              clear HM' HJ
              go_wp2
              go_quiet (fail)
              go_wp2
              go_roundw
              case rel => exact ⟨j + 1, by omega, by go_num, HJ3, below_drewN hb2 _⟩
              case measure => simp [intOf]; omega
          · have hjk : ¬ (j : Int) < (k : Int) := by omega
            have HD3 := Lib.hid ((nodup_take_succ HM.out).2 ⟨HD.out, by have := HJ.out; rwa [show j = k by omega] at this⟩)
            clear HJ
            go_wp2
            go_roundw
            case rel => exact ⟨k + 1, by omega, by go_num, HK3, HD3, hb2⟩
            case measure => simp [intOf]; omega
    · have HK3 := Lib.hid (show ∀ y ∈ x.askers, AskerOk y by have := HK.out; rwa [show k = x.askers.length by omega, List.take_length] at this)
      have HD3 := Lib.hid (show (x.askers.map (·.name)).Nodup by have := HD.out; rwa [show k = (x.askers.map (·.name)).length by simp; omega, List.take_length] at this)
      have HA2 := Lib.hid (show SOk x ↔ x.askers.length ≤ 4 from ⟨fun h => h.2.2, fun h => ⟨HK3.out, HD3.out, h⟩⟩)
      clear HK HD HK3 HD3
      by_cases tm : (x.askers.length : Int) ≤ 4
      · have HT := Lib.hid (HA2.out.2 (by omega))
        go_wp2
        go_ret
        exact PBool.yes HT.out hb
      · have HN := Lib.hid (show ¬ SOk x from fun h => tm (by have := HA2.out.1 h; omega))
        go_wp2
        go_ret
        exact PBool.no HN.out hb
end Go.Proofs.Ytppfgepoegicgaa
namespace Go.Proofs.Ytppfgepoegicgaa
open Go Go.RowKit

theorem asker_first {w : World} {B : Nat} {x : Asker} {us : List Value} (h : RDv w B (askerDs x) us) : us.head? = some (.string x.name) := by
  obtain ⟨_, us', rfl, h1, h2⟩ := h
  rw [show _ = _ from h1.1]; rfl

set_option maxHeartbeats 1000000 in
theorem closA_calls (x : Asker) (us : List Value) (s : ByteArray) (g : Nat) (w : World) (B : Nat) (h : RDv w B (askerDs x) us) (hg : Blk w g 9 [.string s]) :
    Calls Try.prog 80 #[.agg us.toArray, .pointer (some ⟨g, 0, none⟩)] w (PBool (x.name = s) w) := by
  have h1 := asker_first h
  obtain ⟨a0, a1, a2, A3, n3, q3, rfl⟩ := askerDs_shape h
  obtain rfl : a0 = x.name := by simpa using h1
  have q0 := fun o => (hg.alloc o).cell 0
  have hb := fun o => below_box w o
  clear h h1 hg
  by_cases t : x.name = s
  · rw [t]
    go_enter Try.func80, Try.ntmps80
    go_wp2
    go_ret
    exact PBool.yes trivial (hb _)
  · have d := str_ne t
    go_enter Try.func80, Try.ntmps80
    go_wp2
    go_ret
    exact PBool.no t (hb _)

set_option maxRecDepth 100000 in
set_option maxHeartbeats 2000000 in
theorem indexA_calls (vs : List Asker) (s : ByteArray) (g : Nat) (A : Option Addr) (c : Nat) (w : World) (B : Nat) (hB : B ≤ w.heap.size) (h : RD w B (.row 4 vs.length (askersDs vs)) (.slice A vs.length c)) (hg : Blk w g 9 [.string s]) :
    Calls Try.prog 79 #[.slice A vs.length c, .func (.func 80) #[] #[.pointer (some ⟨g, 0, none⟩)]] w (PFirst (vs.map (·.name)) s w) := by
  have hn1 := h.len
  have HL := Lib.hid h
  have HG := Lib.hid hg
  clear h hg
  go_enter Try.func79, Try.ntmps79
  go_wp2
  go_loopw [8] (fun i w' => ∃ (k : Nat), k ≤ vs.length ∧ i = .int .i64 k ∧ Hid (s ∉ (vs.map (·.name)).take k) ∧ Below w.heap.size w w') (fun i _ => vs.length - (intOf i).toNat)
  case atStart => exact ⟨0, by omega, rfl, (by simp : s ∉ (vs.map (·.name)).take 0), Below.refl _ _⟩
  case round =>
    obtain ⟨k, hk, rfl, HT, hb⟩ := hrel
    have hz := hb.size
    by_cases hlt : k < vs.length
    · obtain ⟨ad, v, c0, c1, c2, c3, rfl, hbl, hv, hm, hd, y0, y1, y2, y3⟩ := row4_at (HL.out.upto (hb.mono hB) (Nat.le_refl _)) rfl hlt
      have HD := Lib.hid (names_at (f := fun x : Asker => x.name) hd.out)
      have HV := Lib.hid hv
      have HGr := Lib.hid (HG.out.below hb)
      have j0 : (0 : Int) ≤ (k : Int) := by omega
      have j1 : (k : Int) < (vs.length : Int) := by omega
      obtain ⟨a0, a1, a2, A3, n3, q3, es⟩ := askerDs_shape hv
      simp only [List.cons.injEq, and_true] at es
      obtain ⟨rfl, rfl, rfl, rfl⟩ := es
      clear hv
      go_wp2_with fail
      refine (closA_calls v [_, _, _, _] s g _ _ HV.out HGr.out).mono ?_
      rintro e w1 ⟨r, rfl, hr, hb1⟩
      have HR := Lib.hid hr
      have hb2 := hb.trans (hb1.mono hz)
      clear hr hb1
      cases r with
      | true =>
        have HF := Lib.hid (First.hit HD.out (HR.out.1 rfl) HT.out)
        go_wp2
        go_ret
        exact ⟨_, rfl, HF.out, hb2⟩
      | false =>
        have HT3 := Lib.hid (First.step HD.out (fun e => absurd (HR.out.2 e) (by simp)) HT.out)
        go_wp2
        go_roundw
        case rel => exact ⟨k + 1, by omega, by go_num, HT3, hb2⟩
        case measure => simp [intOf]; omega
    · have HF := Lib.hid (First.none (by have := HT.out; rwa [show k = (vs.map (·.name)).length by simp; omega, List.take_length] at this))
      go_wp2
      go_ret
      exact ⟨_, rfl, HF.out, hb⟩

set_option maxHeartbeats 1000000 in
/-- The place of a name. -/
theorem iAsker_calls (x : Shelf) (us : List Value) (s : ByteArray) (w : World) (B : Nat) (hB : B ≤ w.heap.size) (h : RDv w B (shelfDs x) us) :
    Calls Try.prog 42 #[.agg us.toArray, .string s] w (PFirst (x.askers.map (·.name)) s w) := by
  obtain ⟨A, c, rfl, hl⟩ := shelfDs_open h
  have H := Lib.hid hl
  clear h hl
  have hb := fun o1 o2 => below_box2 w o1 o2
  have hg : ∀ o1, Blk ((w.alloc o1).alloc (.cells #[.string s] 9)) (w.heap.size + 1) 9 [.string s] := fun o1 => by
    have := Blk.new (w.alloc o1) 9 [.string s]
    rwa [show (w.alloc o1).heap.size = w.heap.size + 1 by simp] at this
  go_enter Try.func42, Try.ntmps42
  go_wp2_with fail
  refine (indexA_calls x.askers s (w.heap.size + 1) A c _ B (Nat.le_trans hB (hb _ _).size) (H.out.below ((hb _ _).mono hB)) (hg _)).mono ?_
  rintro e w1 ⟨r, rfl, hr, hb1⟩
  have HR := Lib.hid hr
  have HB := Lib.hid ((hb _ _).trans (hb1.mono (hb _ _).size))
  clear hr hb1 hb hg
  go_wp2
  go_ret
  exact ⟨_, rfl, HR.out, HB.out⟩
end Go.Proofs.Ytppfgepoegicgaa
namespace Go.Proofs.Ytppfgepoegicgaa
open Go Go.RowKit

theorem kept_first {w : World} {B : Nat} {x : Kept} {us : List Value} (h : RDv w B (keptDs x) us) : us.head? = some (.string x.name) := by
  obtain ⟨_, us', rfl, h1, h2⟩ := h
  rw [show _ = _ from h1.1]; rfl

set_option maxHeartbeats 1000000 in
theorem closK_calls (x : Kept) (us : List Value) (s : ByteArray) (g : Nat) (w : World) (B : Nat) (h : RDv w B (keptDs x) us) (hg : Blk w g 9 [.string s]) :
    Calls Try.prog 83 #[.agg us.toArray, .pointer (some ⟨g, 0, none⟩)] w (PBool (x.name = s) w) := by
  have h1 := kept_first h
  obtain ⟨a0, a1, a2, a3, A4, n4, q4, A5, n5, q5, rfl⟩ := keptDs_shape h
  obtain rfl : a0 = x.name := by simpa using h1
  have q0 := fun o => (hg.alloc o).cell 0
  have hb := fun o => below_box w o
  clear h h1 hg
  by_cases t : x.name = s
  · rw [t]
    go_enter Try.func83, Try.ntmps83
    go_wp2
    go_ret
    exact PBool.yes trivial (hb _)
  · have d := str_ne t
    go_enter Try.func83, Try.ntmps83
    go_wp2
    go_ret
    exact PBool.no t (hb _)

set_option maxRecDepth 100000 in
set_option maxHeartbeats 2000000 in
theorem indexK_calls (vs : List Kept) (s : ByteArray) (g : Nat) (A : Option Addr) (c : Nat) (w : World) (B : Nat) (hB : B ≤ w.heap.size) (h : RD w B (.row 6 vs.length (keptsDs vs)) (.slice A vs.length c)) (hg : Blk w g 9 [.string s]) :
    Calls Try.prog 82 #[.slice A vs.length c, .func (.func 83) #[] #[.pointer (some ⟨g, 0, none⟩)]] w (PFirst (vs.map (·.name)) s w) := by
  have hn1 := h.len
  have HL := Lib.hid h
  have HG := Lib.hid hg
  clear h hg
  go_enter Try.func82, Try.ntmps82
  go_wp2
  go_loopw [8] (fun i w' => ∃ (k : Nat), k ≤ vs.length ∧ i = .int .i64 k ∧ Hid (s ∉ (vs.map (·.name)).take k) ∧ Below w.heap.size w w') (fun i _ => vs.length - (intOf i).toNat)
  case atStart => exact ⟨0, by omega, rfl, (by simp : s ∉ (vs.map (·.name)).take 0), Below.refl _ _⟩
  case round =>
    obtain ⟨k, hk, rfl, HT, hb⟩ := hrel
    have hz := hb.size
    by_cases hlt : k < vs.length
    · obtain ⟨ad, v, c0, c1, c2, c3, c4, c5, rfl, hbl, hv, hm, hd, y0, y1, y2, y3, y4, y5⟩ := row6_at (HL.out.upto (hb.mono hB) (Nat.le_refl _)) rfl hlt
      have HD := Lib.hid (names_at (f := fun x : Kept => x.name) hd.out)
      have HV := Lib.hid hv
      have HGr := Lib.hid (HG.out.below hb)
      have j0 : (0 : Int) ≤ (k : Int) := by omega
      have j1 : (k : Int) < (vs.length : Int) := by omega
      obtain ⟨a0, a1, a2, a3, A4, n4, q4, A5, n5, q5, es⟩ := keptDs_shape hv
      simp only [List.cons.injEq, and_true] at es
      obtain ⟨rfl, rfl, rfl, rfl, rfl, rfl⟩ := es
      clear hv
      go_wp2_with fail
      refine (closK_calls v [_, _, _, _, _, _] s g _ _ HV.out HGr.out).mono ?_
      rintro e w1 ⟨r, rfl, hr, hb1⟩
      have HR := Lib.hid hr
      have hb2 := hb.trans (hb1.mono hz)
      clear hr hb1
      cases r with
      | true =>
        have HF := Lib.hid (First.hit HD.out (HR.out.1 rfl) HT.out)
        go_wp2
        go_ret
        exact ⟨_, rfl, HF.out, hb2⟩
      | false =>
        have HT3 := Lib.hid (First.step HD.out (fun e => absurd (HR.out.2 e) (by simp)) HT.out)
        go_wp2
        go_roundw
        case rel => exact ⟨k + 1, by omega, by go_num, HT3, hb2⟩
        case measure => simp [intOf]; omega
    · have HF := Lib.hid (First.none (by have := HT.out; rwa [show k = (vs.map (·.name)).length by simp; omega, List.take_length] at this))
      go_wp2
      go_ret
      exact ⟨_, rfl, HF.out, hb⟩

set_option maxHeartbeats 1000000 in
/-- The place of a name. -/
theorem iTree_calls (x : Asker) (us : List Value) (s : ByteArray) (w : World) (B : Nat) (hB : B ≤ w.heap.size) (h : RDv w B (askerDs x) us) :
    Calls Try.prog 44 #[.agg us.toArray, .string s] w (PFirst (x.trees.map (·.name)) s w) := by
  obtain ⟨A, c, rfl, hs, hl⟩ := askerDs_open h
  have H := Lib.hid hl
  clear h hl
  have hb := fun o1 o2 => below_box2 w o1 o2
  have hg : ∀ o1, Blk ((w.alloc o1).alloc (.cells #[.string s] 9)) (w.heap.size + 1) 9 [.string s] := fun o1 => by
    have := Blk.new (w.alloc o1) 9 [.string s]
    rwa [show (w.alloc o1).heap.size = w.heap.size + 1 by simp] at this
  go_enter Try.func44, Try.ntmps44
  go_wp2_with fail
  refine (indexK_calls x.trees s (w.heap.size + 1) A c _ B (Nat.le_trans hB (hb _ _).size) (H.out.below ((hb _ _).mono hB)) (hg _)).mono ?_
  rintro e w1 ⟨r, rfl, hr, hb1⟩
  have HR := Lib.hid hr
  have HB := Lib.hid ((hb _ _).trans (hb1.mono (hb _ _).size))
  clear hr hb1 hb hg
  go_wp2
  go_ret
  exact ⟨_, rfl, HR.out, HB.out⟩
end Go.Proofs.Ytppfgepoegicgaa
namespace Go.Proofs.Ytppfgepoegicgaa
open Go Go.RowKit

set_option maxRecDepth 100000 in
set_option maxHeartbeats 8000000 in
theorem iShelfOk_calls (x : Shelf) (us : List Value) (w : World) (B : Nat) (hB : B ≤ w.heap.size) (h : RDv w B (shelfDs x) us) :
    Calls Try.prog 16 #[.agg us.toArray] w (PBool (SOk x) w) := by
  obtain ⟨A, c, rfl, hl⟩ := shelfDs_open h
  have HX := Lib.hid h
  have HL := Lib.hid hl
  have hn2 := hl.len
  clear h hl
  go_enter Try.func16, Try.ntmps16
  go_wp2
  go_loopw [10] (fun i w' => ∃ (k : Nat), k ≤ x.askers.length ∧ i = .int .i64 k ∧ Hid (∀ y ∈ x.askers.take k, AskerOk y) ∧ Hid (((x.askers.map (·.name)).take k).Nodup) ∧ Below (w.heap.size + 1) (w.alloc (.cells #[.slice A x.askers.length c] 29)) w') (fun i _ => x.askers.length - (intOf i).toNat)
  case atStart => exact ⟨0, by omega, rfl, (by simp : ∀ y ∈ x.askers.take 0, AskerOk y), (by simp : ((x.askers.map (·.name)).take 0).Nodup), Below.refl _ _⟩
  case round =>
    obtain ⟨V, eV⟩ : ∃ V, V = wr := ⟨_, rfl⟩
    subst eV
    obtain ⟨k, hk, rfl, HK, HD, hb0⟩ := hrel
    obtain ⟨hb, hz, bP⟩ := boxes1 (P := [_]) hb0
    obtain ⟨cP, fP⟩ := blk_rules bP
    have BP := Lib.hid bP
    clear bP
    by_cases hlt : k < x.askers.length
    · obtain ⟨ad, v, x0, x1, x2, x3, rfl, hbl, hv, hm, hd1, y0, y1, y2, y3⟩ := row4_at (HL.out.upto (hb.mono hB) (Nat.le_refl _)) rfl hlt
      have HM := Lib.hid (names_at (f := fun x : Asker => x.name) hd1.out)
      obtain ⟨A4, c4, es, hvs, hrow⟩ := askerDs_open hv
      simp only [List.cons.injEq, and_true] at es
      obtain ⟨rfl, rfl, rfl, rfl⟩ := es
      have HV := Lib.hid hv
      have HRW := Lib.hid hrow
      have hn4 := hrow.len
      have hBr : B ≤ V.heap.size := by omega
      have j0 : (0 : Int) ≤ (k : Int) := by omega
      have j1 : (k : Int) < (x.askers.length : Int) := by omega
      have hW := fun o => below_box V o
      clear hv hrow
      by_cases tn : NameOk v.name
      case neg =>
        have HN := Lib.hid (show ¬ SOk x from fun h => tn (h.1 v hm).1)
        go_wp2_with fail
        refine ((iNameOk_calls _ _ hvs).mono fun e w' h => h.false_ tn).mono ?_
        rintro e w1 ⟨rfl, rfl⟩
        go_wp2
        go_ret
        exact PBool.no HN.out (hb.trans ((hW _).mono (by omega)))
      have hbw : ∀ o, Blk (V.alloc o) w.heap.size 29 [.slice (some ad) x.askers.length c] := fun o => BP.out.alloc o
      have HPx := fun o => (blk_rules (hbw o)).1 0
      clear hbw
      go_wp2_with fail
      refine ((iNameOk_calls _ _ hvs).mono fun e w' h => h.true_ tn).mono ?_
      rintro e w1 ⟨rfl, rfl⟩
      go_wp2_with fail
      refine (iAsker_calls x [_] v.name _ B (Nat.le_trans hBr (hW _).size) (HX.out.below ((hb.trans ((hW _).mono (by omega))).mono hB))).mono ?_
      rintro e w2 ⟨r, rfl, hr, hb1⟩
      have HF := Lib.hid hr
      obtain ⟨hb3, hz3, bA⟩ := boxes1 (P := [_, _, _, _]) (boxes1_of hb1)
      have hb4 := hb0.trans (hb3.mono hz)
      have BP2 := Lib.hid (BP.out.below hb3)
      have BA2 := Lib.hid bA
      obtain ⟨cA, fA⟩ := blk_rules bA
      obtain ⟨cB, fB⟩ := blk_rules BP2.out
      have hb5 := hb.trans (hb3.mono (by omega))
      clear hr hb1 bA HPx y0 y1 y2 y3 cP fP hW
      by_cases ta : v.name ∈ (x.askers.map (·.name)).take k
      case pos =>
        have HN := Lib.hid (show ¬ SOk x from fun h => nodup_at h.2.1 HM.out ta)
        have d7 : (r != (k : Int)) = true := by
          have := (not_congr (HF.out.at HM.out)).2 (fun h => h ta)
          simpa using this
        go_wp2
        go_ret
        exact PBool.no HN.out hb5
      have d7 : (r != (k : Int)) = false := by
        have := (HF.out.at HM.out).2 ta
        simpa using this
      have HD3 := Lib.hid ((nodup_take_succ HM.out).2 ⟨HD.out, ta⟩)
      clear HF ta
      by_cases tb : (0 ≤ v.most ∧ v.most ≤ 150) ∧ (0 ≤ v.fuel ∧ v.fuel ≤ 5000)
      case neg =>
        have HN := Lib.hid (show ¬ SOk x from fun h => tb ⟨(h.1 v hm).2.1, (h.1 v hm).2.2.1⟩)
        go_wp2_with fail
        refine ((iBounds_calls _ _ _).mono fun e w' h => h.false_ tb).mono ?_
        rintro e w1 ⟨rfl, rfl⟩
        go_wp2
        go_ret
        exact PBool.no HN.out hb5
      by_cases tl : 4 < v.trees.length
      case pos =>
        have HN := Lib.hid (show ¬ SOk x from fun h => absurd (h.1 v hm).2.2.2.1 (by omega))
        go_wp2_with fail
        refine ((iBounds_calls _ _ _).mono fun e w' h => h.true_ tb).mono ?_
        rintro e w1 ⟨rfl, rfl⟩
        go_wp2
        go_ret
        exact PBool.no HN.out hb5
      have HA := Lib.hid (show (∀ y ∈ v.trees, KOk y) → (v.trees.map (·.name)).Nodup → (AskerOk v ↔ (keptsCnt v.trees : Int) ≤ v.most) from fun h1 h2 =>
        ⟨fun h => h.2.2.2.2.2.2, fun h => ⟨tn, tb.1, tb.2, by omega, h1, h2, h⟩⟩)
      go_wp2_with fail
      refine ((iBounds_calls _ _ _).mono fun e w' h => h.true_ tb).mono ?_
      rintro e w2 ⟨rfl, rfl⟩
      go_wp2
      have TL := Lib.hid tl
      clear tb tn tl d7 cA fA cB fB hb0
      go_loopw [44] (fun i w' => ∃ (j : Nat), j ≤ v.trees.length ∧ i = .int .i64 j ∧ Hid (∀ y ∈ v.trees.take j, KOk y) ∧ Hid (((v.trees.map (·.name)).take j).Nodup) ∧ Below w2.heap.size w2 w') (fun i _ => v.trees.length - (intOf i).toNat)
      case atStart => exact ⟨0, by omega, rfl, (by simp : ∀ y ∈ v.trees.take 0, KOk y), (by simp : ((v.trees.map (·.name)).take 0).Nodup), Below.refl _ _⟩
      case round =>
        obtain ⟨j, hj, rfl, HK2, HD2, hc0⟩ := hrel
        have hcz := hc0.size
        have hbW := hb5.trans (hc0.mono (by omega))
        have BAw := Lib.hid (BA2.out.below hc0)
        have hcc := hb3.trans (hc0.mono (Nat.le_trans (Nat.le_succ _) hz3))
        by_cases hlt2 : j < v.trees.length
        · obtain ⟨ad2, t, p0, p1, p2, p3, p4, p5, rfl, hbl2, ht, htm, hd2, z0, z1, z2, z3, z4, z5⟩ := row6_at (HRW.out.upto (hcc.mono hBr) (Nat.le_refl _)) rfl hlt2
          have HM2 := Lib.hid (names_at (f := fun x : Kept => x.name) hd2.out)
          obtain ⟨a0, b0, b1, b2, A5, n5, q5, A6, n6, q6, es⟩ := keptDs_shape ht
          simp only [List.cons.injEq, and_true] at es
          obtain ⟨rfl, rfl, rfl, rfl, rfl, rfl⟩ := es
          have HT := Lib.hid (keptDs_tail ht)
          obtain ⟨rfl, hts⟩ := kept_name ht
          have hBw : B ≤ wr.heap.size := by omega
          have i0 : (0 : Int) ≤ (j : Int) := by omega
          have i1 : (j : Int) < (v.trees.length : Int) := by omega
          have hW := fun o => below_box wr o
          clear ht
          by_cases tn : NameOk t.name
          case neg =>
            have HN := Lib.hid (show ¬ SOk x from fun h => tn ((h.1 v hm).2.2.2.2.1 t htm).1)
            go_wp2_with fail
            refine ((iNameOk_calls _ _ hts).mono fun e w' h => h.false_ tn).mono ?_
            rintro e w1 ⟨rfl, rfl⟩
            go_wp2
            go_ret
            exact PBool.no HN.out (hbW.trans ((hW _).mono (by omega)))
          have QA := fun o i => (BAw.out.alloc o).cell i
          go_wp2_with fail
          refine ((iNameOk_calls _ _ hts).mono fun e w' h => h.true_ tn).mono ?_
          rintro e w1 ⟨rfl, rfl⟩
          go_wp2_with fail
          refine (iTree_calls v [_, _, _, _] t.name _ B (Nat.le_trans hBw (hW _).size) (HV.out.below ((hcc.trans ((hW _).mono (by omega))).mono hBr))).mono ?_
          rintro e w3 ⟨r2, rfl, hr2, hb6⟩
          have HF2 := Lib.hid hr2
          obtain ⟨hb7, hz7, bT⟩ := boxes1 (P := [_, _, _, _, _, _]) (boxes1_of hb6)
          have hc1 := hc0.trans (hb7.mono hcz)
          have hb9 := hb5.trans (hc1.mono (by omega))
          obtain ⟨cT, fT⟩ := blk_rules bT
          have TN := Lib.hid tn
          clear hr2 hb6 bT QA tn z0 z1 z2 z3 z4 z5 hW
          by_cases ta : t.name ∈ (v.trees.map (·.name)).take j
          case pos =>
            have HN := Lib.hid (show ¬ SOk x from fun h => nodup_at (h.1 v hm).2.2.2.2.2.1 HM2.out ta)
            have d8 : (r2 != (j : Int)) = true := by
              have := (not_congr (HF2.out.at HM2.out)).2 (fun h => h ta)
              simpa using this
            go_wp2
            go_ret
            exact PBool.no HN.out hb9
          have d8 : (r2 != (j : Int)) = false := by
            have := (HF2.out.at HM2.out).2 ta
            simpa using this
          have HD4 := Lib.hid ((nodup_take_succ HM2.out).2 ⟨HD2.out, ta⟩)
          clear HF2 ta HD2
          go_wp2_with fail
          refine (iValOk_calls t.v [_, _, _, _, _] _ B (by omega) (HT.out.below (hb7.mono hBw))).mono ?_
          rintro e w4 ⟨r3, rfl, hr3, hb8⟩
          have HR3 := Lib.hid hr3
          have hc2 := hc1.trans (hb8.mono (by omega))
          have hb10 := hb5.trans (hc2.mono (by omega))
          clear hr3 hb8 cT fT d8 hb9
          cases r3 with
          | false =>
            have HN := Lib.hid (show ¬ SOk x from fun h => absurd (HR3.out.2 ((h.1 v hm).2.2.2.2.1 t htm).2) (by simp))
            go_wp2
            go_ret
            exact PBool.no HN.out hb10
          | true =>
            have HK4 := Lib.hid ((take_all_succ hd2.out).2 ⟨HK2.out, ⟨TN.out, HR3.out.1 rfl⟩⟩)
            go_wp2
            go_roundw
            case rel => exact ⟨j + 1, by omega, by go_num, HK4, HD4, hc2⟩
            case measure => simp [intOf]; omega
        · have HK3 := Lib.hid (show ∀ y ∈ v.trees, KOk y by have := HK2.out; rwa [show j = v.trees.length by omega, List.take_length] at this)
          have HD4 := Lib.hid (show (v.trees.map (·.name)).Nodup by have := HD2.out; rwa [show j = (v.trees.map (·.name)).length by simp; omega, List.take_length] at this)
          have HA2 := Lib.hid (HA.out HK3.out HD4.out)
          have hsum : keptsCnt v.trees ≤ 1099511627776 := by
            have := keptsCnt_le v.trees fun y hy => (HK3.out y hy).2
            have := TL.out
            omega
          clear HK2 HD2 HA
          obtain ⟨m, em⟩ : ∃ m, m = keptsCnt v.trees := ⟨_, rfl⟩
          have EM := Lib.hid em
          rw [← em] at HA2
          clear em
          have cA := BAw.out.cell
          have gz := BAw.out.lt
          have K2 := Lib.hid (show Has [(V.heap.size, [.string v.name, .int .i64 v.most, .int .i64 v.fuel, .slice A4 v.trees.length c4])] wr.drew from
            Has.cons gz (fun i u hu => (cA i).trans hu) (Has.nil _))
          have D2 := Lib.hid (show Below wr.heap.size wr wr.drew from (Below.refl _ _).drew)
          have HX2 := Lib.hid (HV.out.below ((hcc.trans (D2.out.mono (by omega))).mono hBr))
          have hBw : B ≤ wr.drew.heap.size := show B ≤ wr.heap.size by omega
          by_cases tm : v.most < (m : Int)
          all_goals
            go_wp2_with fail
            have k0 := K2.out.head 0 rfl
            have k1 := K2.out.head 1 rfl
            have k2 := K2.out.head 2 rfl
            have k3 := K2.out.head 3 rfl
            clear cA
            go_region_held3 (fun w' => w'.cell? ⟨V.heap.size, 0, none⟩ = some (.string v.name) ∧ w'.cell? ⟨V.heap.size, 1, none⟩ = some (.int .i64 v.most) ∧ w'.cell? ⟨V.heap.size, 2, none⟩ = some (.int .i64 v.fuel) ∧ w'.cell? ⟨V.heap.size, 3, none⟩ = some (.slice A4 v.trees.length c4))
              (first | go_keep | exact ⟨K3.out.head 0 rfl, K3.out.head 1 rfl, K3.out.head 2 rfl, K3.out.head 3 rfl⟩)
              (first
                | (go_at_call 46; ((with_reducible refine (iUsed_calls v [.string v.name, .int .i64 v.most, .int .i64 v.fuel, .slice A4 v.trees.length c4] wr.drew B hBw HX2.out hsum).mono ?_); rintro e w3 ⟨rfl, hb8⟩; rw [← EM.out]; have K3 := Lib.hid (K2.out.below hb8))))
            have hb9 := hc0.trans ((D2.out.trans (hb8.mono D2.out.size)).mono hcz)
            have hb10 := hb5.trans (hb9.mono (by omega))
          · have HN := Lib.hid (show ¬ SOk x from fun h => absurd (HA2.out.1 (h.1 v hm)) (by omega))
            go_wp2
            go_ret
            exact PBool.no HN.out hb10
          · have HK5 := Lib.hid ((take_all_succ hd1.out).2 ⟨HK.out, HA2.out.2 (by omega)⟩)
            have hb11 := hb4.trans (hb9.mono (by omega))
            clear k0 k1 k2 k3
            go_wp2
            go_roundw
            case rel => exact ⟨k + 1, by omega, by go_num, HK5, HD3, hb11⟩
            case measure => simp [intOf]; omega
    · have HK3 := Lib.hid (show ∀ y ∈ x.askers, AskerOk y by have := HK.out; rwa [show k = x.askers.length by omega, List.take_length] at this)
      have HD3 := Lib.hid (show (x.askers.map (·.name)).Nodup by have := HD.out; rwa [show k = (x.askers.map (·.name)).length by simp; omega, List.take_length] at this)
      have HA2 := Lib.hid (show SOk x ↔ x.askers.length ≤ 4 from ⟨fun h => h.2.2, fun h => ⟨HK3.out, HD3.out, h⟩⟩)
      clear HK HD HK3 HD3
      by_cases tm : (x.askers.length : Int) ≤ 4
      · have HT := Lib.hid (HA2.out.2 (by omega))
        go_wp2
        go_ret
        exact PBool.yes HT.out hb
      · have HN := Lib.hid (show ¬ SOk x from fun h => tm (by have := HA2.out.1 h; omega))
        go_wp2
        go_ret
        exact PBool.no HN.out hb
end Go.Proofs.Ytppfgepoegicgaa
namespace Go.Proofs.Ytppfgepoegicgaa
open Go Go.RowKit

set_option maxRecDepth 100000 in
set_option maxHeartbeats 4000000 in
theorem sWho_calls (x : Shelf) (us : List Value) (s : ByteArray) (w : World) (B : Nat) (hB : B ≤ w.heap.size) (h : RDv w B (shelfDs x) us) :
    Calls Try.prog 47 #[.agg us.toArray, .string s] w (PFirst (x.askers.map (·.name)) s w) := by
  obtain ⟨A, c, rfl, hl⟩ := shelfDs_open h
  have HL := Lib.hid hl
  have hn2 := hl.len
  clear h hl
  go_enter Try.func47, Try.ntmps47
  go_wp2
  go_loopw [5] (fun i w' => ∃ (k : Nat), k ≤ x.askers.length ∧ i = .int .i64 k ∧ Hid (s ∉ (x.askers.map (·.name)).take k) ∧ Below (w.heap.size + 1) (w.alloc (.cells #[.slice A x.askers.length c] 29)) w') (fun i _ => x.askers.length - (intOf i).toNat)
  case atStart => exact ⟨0, by omega, rfl, (by simp : s ∉ (x.askers.map (·.name)).take 0), Below.refl _ _⟩
  case round =>
    obtain ⟨k, hk, rfl, HT, hb0⟩ := hrel
    obtain ⟨hb, hz, bP⟩ := boxes1 (P := [_]) hb0
    obtain ⟨cP, fP⟩ := blk_rules bP
    clear bP
    by_cases hlt : k < x.askers.length
    · obtain ⟨ad, v, x0, x1, x2, x3, rfl, hbl, hv, hm, hd1, y0, y1, y2, y3⟩ := row4_at (HL.out.upto (hb.mono hB) (Nat.le_refl _)) rfl hlt
      have HM := Lib.hid (names_at (f := fun x : Asker => x.name) hd1.out)
      obtain ⟨a0, b0, b1, A4, n4, q4, es⟩ := askerDs_shape hv
      simp only [List.cons.injEq, and_true] at es
      obtain ⟨rfl, rfl, rfl, rfl⟩ := es
      obtain ⟨rfl, hvs⟩ := asker_name hv
      have j0 : (0 : Int) ≤ (k : Int) := by omega
      have j1 : (k : Int) < (x.askers.length : Int) := by omega
      clear hv y1 y2 y3
      by_cases t : v.name = s
      · have HF := Lib.hid (First.hit HM.out t HT.out)
        rw [t] at y0
        go_wp2
        go_ret
        exact ⟨_, rfl, HF.out, hb⟩
      · have d6 := str_ne t
        have HT3 := Lib.hid (First.step HM.out t HT.out)
        go_wp2
        go_roundw
        case rel => exact ⟨k + 1, by omega, by go_num, HT3, hb0⟩
        case measure => simp [intOf]; omega
    · have HF := Lib.hid (First.none (by have := HT.out; rwa [show k = (x.askers.map (·.name)).length by simp; omega, List.take_length] at this))
      go_wp2
      go_ret
      exact ⟨_, rfl, HF.out, hb⟩

/-- What ShelfUsed tells. -/
def UsedIs (x : Shelf) (s : ByteArray) (n : Int) : Prop :=
  (¬ (SOk x ∧ s ∈ x.askers.map (·.name)) ∧ n = -1) ∨ (SOk x ∧ ∃ (i : Nat) (a : Asker), x.askers.drop i = a :: x.askers.drop (i + 1) ∧ First (x.askers.map (·.name)) s i ∧ n = keptsCnt a.trees)
theorem UsedIs.det {x : Shelf} {s : ByteArray} {n n' : Int} (h : UsedIs x s n) (h' : UsedIs x s n') : n = n' := by
  have no : ∀ {i : Nat}, ¬ (SOk x ∧ s ∈ x.askers.map (·.name)) → SOk x → First (x.askers.map (·.name)) s i → False := fun {i} h1 h2 h3 => by
    have h4 := h3.nonneg
    exact h1 ⟨h2, Classical.byContradiction fun h5 => by have := h4.2 h5; omega⟩
  rcases h with ⟨h1, rfl⟩ | ⟨h1, i, a, h2, h3, rfl⟩
  · rcases h' with ⟨_, rfl⟩ | ⟨g1, i, a, g2, g3, rfl⟩
    · rfl
    · exact absurd g3 (fun g => no h1 g1 g)
  · rcases h' with ⟨g1, rfl⟩ | ⟨g1, i', a', g2, g3, rfl⟩
    · exact absurd h3 (fun g => no g1 h1 g)
    · have e := h3.det g3
      obtain rfl : i = i' := by omega
      rw [h2] at g2
      injection g2 with g2
      rw [g2]
def PUsed (x : Shelf) (s : ByteArray) (w : World) (e : Ending) (w' : World) : Prop := ∃ n : Int, e = .returned (.int .i64 n) ∧ UsedIs x s n ∧ Below w.heap.size w w'

set_option maxRecDepth 100000 in
set_option maxHeartbeats 4000000 in
theorem iUsedOf_calls (x : Shelf) (us : List Value) (s : ByteArray) (w : World) (B : Nat) (hB : B ≤ w.heap.size) (h : RDv w B (shelfDs x) us) :
    Calls Try.prog 18 #[.agg us.toArray, .string s] w (PUsed x s w) := by
  obtain ⟨A, c, rfl, hl⟩ := shelfDs_open h
  have HX := Lib.hid h
  have HL := Lib.hid hl
  have hn2 := hl.len
  clear h hl
  have hbx := fun o1 => below_box w o1
  go_enter Try.func18, Try.ntmps18
  go_wp2_with fail
  refine (iAsker_calls x [_] s _ B (Nat.le_trans hB (hbx _).size) (HX.out.below ((hbx _).mono hB))).mono ?_
  rintro e w1 ⟨r, rfl, hr, hb1⟩
  have HF := Lib.hid hr
  have hb0 := boxes1_of hb1
  obtain ⟨hb, hz, bP⟩ := boxes1 (P := [_]) hb0
  obtain ⟨cP, fP⟩ := blk_rules bP
  clear hr hb1 bP hbx
  go_wp2_with fail
  refine (iShelfOk_calls x [_] _ B (by omega) (HX.out.below (hb.mono hB))).mono ?_
  rintro e w2 ⟨r1, rfl, hr1, hb2⟩
  have HR := Lib.hid hr1
  have hb3 := hb0.trans (hb2.mono hz)
  clear hr1 hb2 hb0 hb hz cP fP
  obtain ⟨hb, hz, bP⟩ := boxes1 (P := [_]) hb3
  obtain ⟨cP, fP⟩ := blk_rules bP
  clear bP
  cases r1 with
  | false =>
    have HN := Lib.hid (show UsedIs x s (-1) from .inl ⟨fun h => absurd (HR.out.2 h.1) (by simp), rfl⟩)
    go_wp2
    go_ret
    exact ⟨_, rfl, HN.out, hb⟩
  | true =>
    by_cases t : r < 0
    · have HN := Lib.hid (show UsedIs x s (-1) from .inl ⟨fun h => (HF.out.nonneg.1 t) h.2, rfl⟩)
      go_wp2
      go_ret
      exact ⟨_, rfl, HN.out, hb⟩
    · obtain ⟨i, rfl⟩ : ∃ i : Nat, r = i := ⟨r.toNat, by omega⟩
      have hlt : i < x.askers.length := by
        rcases HF.out with ⟨h1, _⟩ | ⟨k, h1, h2, _⟩
        · omega
        · obtain rfl : i = k := by omega
          have := (List.getElem?_eq_some_iff.1 h2).1
          simpa using this
      obtain ⟨ad, v, x0, x1, x2, x3, rfl, hbl, hv, hm, hd1, y0, y1, y2, y3⟩ := row4_at (HL.out.upto (hb.mono hB) (Nat.le_refl _)) rfl hlt
      obtain ⟨a0, b0, b1, A4, n4, q4, es⟩ := askerDs_shape hv
      simp only [List.cons.injEq, and_true] at es
      obtain ⟨rfl, rfl, rfl, rfl⟩ := es
      have HV := Lib.hid hv
      have j0 : (0 : Int) ≤ (i : Int) := by omega
      have j1 : (i : Int) < (x.askers.length : Int) := by omega
      have hOK := (HR.out.1 rfl).1 v hm
      have hsum : keptsCnt v.trees ≤ 1099511627776 := by
        have := keptsCnt_le v.trees fun y hy => (hOK.2.2.2.2.1 y hy).2
        have := hOK.2.2.2.1
        omega
      have HU := Lib.hid (show UsedIs x s (keptsCnt v.trees) from .inr ⟨HR.out.1 rfl, i, v, hd1.out, HF.out, rfl⟩)
      clear hv hOK HF HR
      go_wp2_with fail
      refine (iUsed_calls v [_, _, _, _] _ B (by omega) HV.out hsum).mono ?_
      rintro e w3 ⟨rfl, hb4⟩
      go_wp2
      go_ret
      exact ⟨_, rfl, HU.out, hb.trans (hb4.mono (by omega))⟩

theorem row4_again {w : World} {B : Nat} {vs : List Asker} {ad : Addr} {c k : Nat} {v : Asker} (h : RD w B (.row 4 vs.length (askersDs vs)) (.slice (some ad) vs.length c)) (hd : vs.drop k = v :: vs.drop (k + 1)) (hk : k < vs.length) :
    ∃ (s : ByteArray) (a b : Int) (A4 : Option Addr) (n4 q4 : Nat), RDv w B (askerDs v) [.string s, .int .i64 a, .int .i64 b, .slice A4 n4 q4] ∧ w.cell? (ad.add (k * 4)) = some (.string s) ∧ w.cell? ⟨(ad.add (k * 4)).block, (ad.add (k * 4)).off + 1, none⟩ = some (.int .i64 a) ∧
      w.cell? ⟨(ad.add (k * 4)).block, (ad.add (k * 4)).off + 2, none⟩ = some (.int .i64 b) ∧ w.cell? ⟨(ad.add (k * 4)).block, (ad.add (k * 4)).off + 3, none⟩ = some (.slice A4 n4 q4) := by
  obtain ⟨ad', v', x0, x1, x2, x3, ea, hbl, hv, hm, hd1, y0, y1, y2, y3⟩ := row4_at h rfl hk
  injection ea with ea
  subst ea
  obtain rfl : v = v' := by
    have h1 := hd1.out
    rw [hd] at h1
    injection h1
  obtain ⟨a0, b0, b1, A4, n4, q4, es⟩ := askerDs_shape hv
  simp only [List.cons.injEq, and_true] at es
  obtain ⟨rfl, rfl, rfl, rfl⟩ := es
  exact ⟨a0, b0, b1, A4, n4, q4, hv, y0, y1, y2, y3⟩

set_option maxRecDepth 100000 in
set_option maxHeartbeats 4000000 in
theorem sUsedOf_calls (x : Shelf) (us : List Value) (s : ByteArray) (w : World) (B : Nat) (hB : B ≤ w.heap.size) (h : RDv w B (shelfDs x) us) (hC : ∀ a ∈ x.askers, ∀ y ∈ a.trees, valCnt y.v ≤ 1099511627776) :
    Calls Try.prog 17 #[.agg us.toArray, .string s] w (PUsed x s w) := by
  obtain ⟨A, c, rfl, hl⟩ := shelfDs_open h
  have HX := Lib.hid h
  have HL := Lib.hid hl
  have hn2 := hl.len
  clear h hl
  have hbx := fun o1 => below_box w o1
  go_enter Try.func17, Try.ntmps17
  go_wp2_with fail
  refine (sShelfOk_calls x [_] _ B (Nat.le_trans hB (hbx _).size) (HX.out.below ((hbx _).mono hB)) hC).mono ?_
  rintro e w1 ⟨r1, rfl, hr1, hb1⟩
  have HR := Lib.hid hr1
  have hb0 := boxes1_of hb1
  obtain ⟨hb, hz, bP⟩ := boxes1 (P := [_]) hb0
  obtain ⟨cP, fP⟩ := blk_rules bP
  clear hr1 hb1 bP hbx hC
  cases r1 with
  | false =>
    have HN := Lib.hid (show UsedIs x s (-1) from .inl ⟨fun h => absurd (HR.out.2 h.1) (by simp), rfl⟩)
    go_wp2
    go_ret
    exact ⟨_, rfl, HN.out, hb⟩
  | true =>
    have OKS := Lib.hid (HR.out.1 rfl)
    go_wp2_with fail
    refine (sWho_calls x [_] s _ B (by omega) (HX.out.below (hb.mono hB))).mono ?_
    rintro e w2 ⟨r, rfl, hr, hb2⟩
    have HF := Lib.hid hr
    have hb3 := hb0.trans (hb2.mono hz)
    clear hr hb2 hb0 hb hz cP fP
    obtain ⟨hb, hz, bP⟩ := boxes1 (P := [_]) hb3
    have BP := Lib.hid bP
    have HB := Lib.hid hb
    by_cases t : r < 0
    · have HN := Lib.hid (show UsedIs x s (-1) from .inl ⟨fun h => (HF.out.nonneg.1 t) h.2, rfl⟩)
      go_wp2
      go_ret
      exact ⟨_, rfl, HN.out, hb⟩
    · have K2 := Lib.hid (show Has [(w.heap.size, [.slice A x.askers.length c])] w2.drew from
        Has.cons (Nat.lt_of_lt_of_le (by omega) (Nat.le_refl w2.heap.size)) (fun i u hu => (bP.cell i).trans hu) (Has.nil _))
      obtain ⟨i, rfl⟩ : ∃ i : Nat, r = i := ⟨r.toNat, by omega⟩
      have hlt : i < x.askers.length := by
        rcases HF.out with ⟨h1, _⟩ | ⟨k, h1, h2, _⟩
        · omega
        · obtain rfl : i = k := by omega
          have := (List.getElem?_eq_some_iff.1 h2).1
          simpa using this
      have D2 := Lib.hid (show Below w2.heap.size w2 w2.drew from (Below.refl _ _).drew)
      have HX2 := Lib.hid (HX.out.below ((hb.trans (D2.out.mono (by omega))).mono hB))
      have hBw : B ≤ w2.drew.heap.size := show B ≤ w2.heap.size by omega
      have j0 : (0 : Int) ≤ (i : Int) := by omega
      have j1 : (i : Int) < (x.askers.length : Int) := by omega
      have hbd := hb.trans (D2.out.mono (by omega))
      clear hb3 bP HR
      have hz' : w.heap.size ≤ w2.drew.heap.size := show w.heap.size ≤ w2.heap.size by omega
      obtain ⟨ad, v, _, _, _, _, rfl, _, _, hm, hd1, _⟩ := row4_at (HL.out.upto (hbd.mono hB) (Nat.le_refl _)) rfl hlt
      obtain ⟨a0, a1, a2, A4, n4, q4, hv3, y0, y1, y2, y3⟩ := row4_again (HL.out.upto (hbd.mono hB) (Nat.le_refl _)) hd1.out hlt
      have hadB : ad.block < B := by
        obtain ⟨_, _, _, _, _, _, ea, hbl, _⟩ := row4_at HL.out rfl hlt
        cases ea
        exact hbl
      have hblk : (ad.add (i * 4)).block < w2.drew.heap.size := by rw [block_of_add]; omega
      have HY := Lib.hid (fun w3 (hb4 : Below w2.drew.heap.size w2.drew w3) => (show w3.cell? (ad.add (i * 4)) = some (.string a0) ∧ w3.cell? ⟨(ad.add (i * 4)).block, (ad.add (i * 4)).off + 1, none⟩ = some (.int .i64 a1) ∧ w3.cell? ⟨(ad.add (i * 4)).block, (ad.add (i * 4)).off + 2, none⟩ = some (.int .i64 a2) ∧ w3.cell? ⟨(ad.add (i * 4)).block, (ad.add (i * 4)).off + 3, none⟩ = some (.slice A4 n4 q4) from
        ⟨(hb4.cell (p := ad.add (i * 4)) hblk).trans y0, (hb4.cell (p := ⟨(ad.add (i * 4)).block, (ad.add (i * 4)).off + 1, none⟩) hblk).trans y1, (hb4.cell (p := ⟨(ad.add (i * 4)).block, (ad.add (i * 4)).off + 2, none⟩) hblk).trans y2, (hb4.cell (p := ⟨(ad.add (i * 4)).block, (ad.add (i * 4)).off + 3, none⟩) hblk).trans y3⟩))
      have HV3 := Lib.hid hv3
      have HU := Lib.hid (show UsedIs x s (keptsCnt v.trees) from .inr ⟨OKS.out, i, v, hd1.out, HF.out, rfl⟩)
      have hokv : ∀ y ∈ v.trees, ValOk y.v := fun y hy => ((OKS.out.1 v hm).2.2.2.2.1 y hy).2
      have hsum : keptsCnt v.trees ≤ 1099511627776 := by
        have h1 := keptsCnt_le v.trees hokv
        have h2 := (OKS.out.1 v hm).2.2.2.1
        omega
      have HOV := Lib.hid hokv
      have HDT := Lib.hid (fun r2 (h : First (x.askers.map (·.name)) s r2) => First.det h HF.out)
      clear hokv hd1 hm OKS hv3
      go_wp2_with fail
      have k0 := K2.out.head 0 rfl
      obtain ⟨hy0, hy1, hy2, hy3⟩ := HY.out w2.drew (Below.refl _ _)
      go_region_held3 (fun w' => w'.cell? ⟨w.heap.size, 0, none⟩ = some (.slice (some ad) x.askers.length c) ∧ w'.cell? (ad.add (i * 4)) = some (.string a0) ∧ w'.cell? ⟨(ad.add (i * 4)).block, (ad.add (i * 4)).off + 1, none⟩ = some (.int .i64 a1) ∧ w'.cell? ⟨(ad.add (i * 4)).block, (ad.add (i * 4)).off + 2, none⟩ = some (.int .i64 a2) ∧ w'.cell? ⟨(ad.add (i * 4)).block, (ad.add (i * 4)).off + 3, none⟩ = some (.slice A4 n4 q4))
        (first | exact ⟨k0, hy0, hy1, hy2, hy3⟩ | exact ⟨K3.out.head 0 rfl, HY.out _ hb4⟩ | exact ⟨K4.out.head 0 rfl, HY.out _ (hb4.trans (hb5.mono hb4.size))⟩ | go_keep)
        (first
          | (go_at_call 47; ((with_reducible refine (sWho_calls x [.slice (some ad) x.askers.length c] s w2.drew B hBw HX2.out).mono ?_); rintro e w3 ⟨r2, rfl, hr2, hb4⟩; obtain rfl := HDT.out r2 hr2; have K3 := Lib.hid (K2.out.below hb4)))
          | (go_at_call 48; ((with_reducible refine (sSum_calls v [.string a0, .int .i64 a1, .int .i64 a2, .slice A4 n4 q4] w3 B (Nat.le_trans hBw hb4.size) (HV3.out.below (hb4.mono hBw)) HOV.out hsum).mono ?_); rintro e w4 ⟨rfl, hb5⟩; have K4 := Lib.hid (K3.out.below hb5))))
      have hbe := hbd.trans ((hb4.trans (hb5.mono hb4.size)).mono hz')
      go_wp2
      go_ret
      exact ⟨_, rfl, HU.out, hbe⟩
end Go.Proofs.Ytppfgepoegicgaa
namespace Go.Proofs.Ytppfgepoegicgaa
open Go Go.RowKit

def vZero : Val := .mk 0 0 ⟨#[]⟩ [] []
theorem first_at {α : Type} {f : α → ByteArray} {l : List α} {s : ByteArray} {r : Int} (h : First (l.map f) s r) (hr : ¬ r < 0) : ∃ (k : Nat) (a : α), r = k ∧ k < l.length ∧ l.drop k = a :: l.drop (k + 1) ∧ First (l.map f) s k := by
  obtain ⟨k, rfl⟩ : ∃ k : Nat, r = k := ⟨r.toNat, by omega⟩
  have hlt : k < l.length := by
    rcases h with ⟨h1, _⟩ | ⟨i, h1, h2, _⟩
    · omega
    · obtain rfl : k = i := by omega
      have := (List.getElem?_eq_some_iff.1 h2).1
      simpa using this
  exact ⟨k, l[k], rfl, hlt, List.drop_eq_getElem_cons hlt, h⟩

set_option maxRecDepth 100000 in
set_option maxHeartbeats 4000000 in
theorem sTree_calls (x : Asker) (us : List Value) (s : ByteArray) (w : World) (B : Nat) (hB : B ≤ w.heap.size) (h : RDv w B (askerDs x) us) :
    Calls Try.prog 49 #[.agg us.toArray, .string s] w (PFirst (x.trees.map (·.name)) s w) := by
  obtain ⟨A, c, rfl, _, hl⟩ := askerDs_open h
  have HL := Lib.hid hl
  have hn2 := hl.len
  clear h hl
  go_enter Try.func49, Try.ntmps49
  go_wp2
  go_loopw [5] (fun i w' => ∃ (k : Nat), k ≤ x.trees.length ∧ i = .int .i64 k ∧ Hid (s ∉ (x.trees.map (·.name)).take k) ∧ Below (w.heap.size + 1) (w.alloc (.cells #[.string x.name, .int .i64 x.most, .int .i64 x.fuel, .slice A x.trees.length c] 61)) w') (fun i _ => x.trees.length - (intOf i).toNat)
  case atStart => exact ⟨0, by omega, rfl, (by simp : s ∉ (x.trees.map (·.name)).take 0), Below.refl _ _⟩
  case round =>
    obtain ⟨k, hk, rfl, HT, hb0⟩ := hrel
    obtain ⟨hb, hz, bP⟩ := boxes1 (P := [_, _, _, _]) hb0
    obtain ⟨cP, fP⟩ := blk_rules bP
    clear bP
    by_cases hlt : k < x.trees.length
    · obtain ⟨ad, v, x0, x1, x2, x3, x4, x5, rfl, hbl, hv, hm, hd1, y0, y1, y2, y3, y4, y5⟩ := row6_at (HL.out.upto (hb.mono hB) (Nat.le_refl _)) rfl hlt
      have HM := Lib.hid (names_at (f := fun x : Kept => x.name) hd1.out)
      obtain ⟨a0, b0, b1, b2, A4, n4, q4, A5, n5, q5, es⟩ := keptDs_shape hv
      simp only [List.cons.injEq, and_true] at es
      obtain ⟨rfl, rfl, rfl, rfl, rfl, rfl⟩ := es
      obtain ⟨rfl, hvs⟩ := kept_name hv
      have j0 : (0 : Int) ≤ (k : Int) := by omega
      have j1 : (k : Int) < (x.trees.length : Int) := by omega
      clear hv y1 y2 y3 y4 y5
      by_cases t : v.name = s
      · have HF := Lib.hid (First.hit HM.out t HT.out)
        rw [t] at y0
        go_wp2
        go_ret
        exact ⟨_, rfl, HF.out, hb⟩
      · have d6 := str_ne t
        have HT3 := Lib.hid (First.step HM.out t HT.out)
        go_wp2
        go_roundw
        case rel => exact ⟨k + 1, by omega, by go_num, HT3, hb0⟩
        case measure => simp [intOf]; omega
    · have HF := Lib.hid (First.none (by have := HT.out; rwa [show k = (x.trees.map (·.name)).length by simp; omega, List.take_length] at this))
      go_wp2
      go_ret
      exact ⟨_, rfl, HF.out, hb⟩

/-- What the program's find tells: the places of an asker and of its tree. -/
def FindIs (x : Shelf) (who nm : ByteArray) (i j : Int) (b : Bool) : Prop :=
  (b = false ∧ who ∉ x.askers.map (·.name)) ∨ ∃ (k : Nat) (a : Asker), x.askers.drop k = a :: x.askers.drop (k + 1) ∧ k < x.askers.length ∧ First (x.askers.map (·.name)) who k ∧ i = k ∧
    ((b = false ∧ nm ∉ a.trees.map (·.name)) ∨ ∃ (m : Nat) (t : Kept), a.trees.drop m = t :: a.trees.drop (m + 1) ∧ m < a.trees.length ∧ First (a.trees.map (·.name)) nm m ∧ j = m ∧ b = true)
def PFind (x : Shelf) (who nm : ByteArray) (w : World) (e : Ending) (w' : World) : Prop := ∃ (i j : Int) (b : Bool), e = .returned (.tuple #[.int .i64 i, .int .i64 j, .bool b]) ∧ FindIs x who nm i j b ∧ Below w.heap.size w w'

set_option maxRecDepth 100000 in
set_option maxHeartbeats 4000000 in
theorem iFind_calls (x : Shelf) (us : List Value) (who nm : ByteArray) (w : World) (B : Nat) (hB : B ≤ w.heap.size) (h : RDv w B (shelfDs x) us) :
    Calls Try.prog 51 #[.agg us.toArray, .string who, .string nm] w (PFind x who nm w) := by
  obtain ⟨A, c, rfl, hl⟩ := shelfDs_open h
  have HX := Lib.hid h
  have HL := Lib.hid hl
  have hn2 := hl.len
  clear h hl
  have hbx := fun o1 => below_box w o1
  go_enter Try.func51, Try.ntmps51
  go_wp2_with fail
  refine (iAsker_calls x [_] who _ B (Nat.le_trans hB (hbx _).size) (HX.out.below ((hbx _).mono hB))).mono ?_
  rintro e w1 ⟨r, rfl, hr, hb1⟩
  have HF := Lib.hid hr
  obtain ⟨hb, hz, bP⟩ := boxes1 (P := [_]) (boxes1_of hb1)
  obtain ⟨cP, fP⟩ := blk_rules bP
  clear hr hb1 bP hbx
  by_cases t : r < 0
  · have HN := Lib.hid (show FindIs x who nm 0 0 false from .inl ⟨rfl, HF.out.nonneg.1 t⟩)
    go_wp2
    go_ret3
    exact ⟨_, _, _, rfl, HN.out, hb⟩
  · obtain ⟨k, a, rfl, hlt, hdr, hf⟩ := first_at (f := fun x : Asker => x.name) HF.out t
    have HD := Lib.hid hdr
    have HF2 := Lib.hid hf
    obtain ⟨ad, v, x0, x1, x2, x3, rfl, hbl, hv, hm, hd1, y0, y1, y2, y3⟩ := row4_at (HL.out.upto (hb.mono hB) (Nat.le_refl _)) rfl hlt
    obtain rfl : v = a := by
      have h1 := hd1.out
      rw [HD.out] at h1
      injection h1 with h1
      exact h1.symm
    obtain ⟨a0, b0, b1, A4, n4, q4, es⟩ := askerDs_shape hv
    simp only [List.cons.injEq, and_true] at es
    obtain ⟨rfl, rfl, rfl, rfl⟩ := es
    have HV := Lib.hid hv
    have j0 : (0 : Int) ≤ (k : Int) := by omega
    have j1 : (k : Int) < (x.askers.length : Int) := by omega
    clear hv hf hdr HF
    go_wp2_with fail
    refine (iTree_calls v [_, _, _, _] nm _ B (by omega) HV.out).mono ?_
    rintro e w2 ⟨r2, rfl, hr2, hb2⟩
    have HF3 := Lib.hid hr2
    have hb3 := hb.trans (hb2.mono (by omega))
    clear hr2 hb2 cP fP y0 y1 y2 y3
    by_cases t2 : r2 < 0
    · have t3 : decide (0 ≤ r2) = false := by simpa using t2
      have HN := Lib.hid (show FindIs x who nm k r2 false from .inr ⟨k, v, HD.out, hlt, HF2.out, rfl, .inl ⟨rfl, HF3.out.nonneg.1 t2⟩⟩)
      go_wp2
      go_ret3
      exact ⟨_, _, _, rfl, HN.out, hb3⟩
    · obtain ⟨m, t, rfl, hlt2, hdr2, hf2⟩ := first_at (f := fun x : Kept => x.name) HF3.out t2
      have t3 : (0 : Int) ≤ (m : Int) := by omega
      have HN := Lib.hid (show FindIs x who nm k m true from .inr ⟨k, v, HD.out, hlt, HF2.out, rfl, .inr ⟨m, t, hdr2, hlt2, hf2, rfl, rfl⟩⟩)
      clear hdr2 hf2 HF3
      go_wp2
      go_ret3
      exact ⟨_, _, _, rfl, HN.out, hb3⟩
end Go.Proofs.Ytppfgepoegicgaa
namespace Go.Proofs.Ytppfgepoegicgaa
open Go Go.RowKit

theorem sz_cons {d : Dat} {ds : List Dat} {l : Int} (hl : 0 ≤ l) (h : 0 ≤ szDs (d :: ds) l) : 0 ≤ szD d l ∧ szD d l ≤ l ∧ 0 ≤ szDs ds (szD d l) := by
  have h1 := szD_range d l hl
  simp only [szDs] at h
  split at h
  · omega
  · exact ⟨by omega, by omega, h⟩
theorem sz_part {a b : List Dat} {l : Int} (hl : 0 ≤ l) (h : 0 ≤ szDs (a ++ b) l) : 0 ≤ szDs a l ∧ szDs a l ≤ l ∧ 0 ≤ szDs b (szDs a l) ∧ szDs (a ++ b) l = szDs b (szDs a l) := by
  have h1 := szDs_range a l hl
  have e := szDs_append a b l hl
  rw [e] at h ⊢
  split at h
  · omega
  · next h2 => exact ⟨by omega, by omega, h, by rw [if_neg h2]⟩
theorem sz_row {z n : Nat} {cells : List Dat} {l : Int} (h : 0 ≤ szD (.row z n cells) l) : 0 ≤ l - n ∧ 0 ≤ szDs cells (l - n) ∧ szD (.row z n cells) l = szDs cells (l - n) := by
  simp only [szD] at h ⊢
  split at h
  · omega
  · next h2 => exact ⟨by omega, h, by rw [if_neg h2]⟩
def CntSz (v : Val) : Prop := ∀ l : Int, 0 ≤ l → 0 ≤ szDs (valDs v) l → szDs (valDs v) l + valCnt v ≤ l + 1
theorem cnts_of_sz : ∀ (vs : List Val), (∀ v ∈ vs, CntSz v) → ∀ l : Int, 0 ≤ l → 0 ≤ szDs (valsDs vs) l → szDs (valsDs vs) l + valsCnt vs ≤ l + vs.length
  | [], _, l, hl, h => by simp [valsDs, szDs, valsCnt]
  | v :: r, ih, l, hl, h => by
    simp only [valsDs] at h ⊢
    obtain ⟨h1, h2, h3, h4⟩ := sz_part hl h
    have e1 := ih v (List.mem_cons_self) l hl h1
    have e2 := cnts_of_sz r (fun x hx => ih x (List.mem_cons_of_mem _ hx)) _ h1 h3
    rw [h4]
    simp only [valsCnt, List.length_cons]
    omega
theorem cnt_of_sz : ∀ v, CntSz v := Val.ind fun kind n s keys list ih l hl h => by
  rw [szDs_val kind n s keys list l hl] at h ⊢
  split at h
  · omega
  · next h1 =>
    rw [if_neg h1]
    split at h
    · omega
    · next h2 =>
      rw [if_neg h2]
      have r1 := szD_range (.row 1 keys.length (strDs keys)) (l - s.size) (by omega)
      obtain ⟨h3, h4, h5⟩ := sz_row h
      have := cnts_of_sz list ih _ h3 h4
      rw [h5]
      simp only [valCnt]
      omega
theorem kepts_of_sz : ∀ (ts : List Kept) (l : Int), 0 ≤ l → l ≤ 1048576 → 0 ≤ szDs (keptsDs ts) l → ∀ y ∈ ts, valCnt y.v ≤ 1099511627776
  | [], _, _, _, _, y, hy => by cases hy
  | t :: r, l, hl, hl1, h, y, hy => by
    simp only [keptsDs] at h
    obtain ⟨h1, h2, h3, h4⟩ := sz_part hl h
    rcases List.mem_cons.1 hy with rfl | hy
    · simp only [keptDs] at h1
      obtain ⟨h5, h6, h7⟩ := sz_cons hl h1
      have := cnt_of_sz y.v _ h5 h7
      omega
    · exact kepts_of_sz r _ h1 (by omega) h3 y hy
theorem askers_of_sz : ∀ (xs : List Asker) (l : Int), 0 ≤ l → l ≤ 1048576 → 0 ≤ szDs (askersDs xs) l → ∀ a ∈ xs, ∀ y ∈ a.trees, valCnt y.v ≤ 1099511627776
  | [], _, _, _, _, a, ha, _, _ => by cases ha
  | t :: r, l, hl, hl1, h, a, ha, y, hy => by
    simp only [askersDs] at h
    obtain ⟨h1, h2, h3, h4⟩ := sz_part hl h
    rcases List.mem_cons.1 ha with rfl | ha
    · simp only [askerDs] at h1
      obtain ⟨g1, g2, g3⟩ := sz_cons hl h1
      obtain ⟨g4, g5, g6⟩ := sz_cons g1 g3
      obtain ⟨g7, g8, g9⟩ := sz_cons g4 g6
      obtain ⟨g10, g11, g12⟩ := sz_cons g7 g9
      obtain ⟨g13, g14, g15⟩ := sz_row g10
      exact kepts_of_sz a.trees _ g13 (by omega) g14 y hy
    · exact askers_of_sz r _ h1 (by omega) h3 a ha y hy
theorem shelf_of_sz (x : Shelf) (l : Int) (hl : 0 ≤ l) (hl1 : l ≤ 1048576) (h : 0 ≤ szDs (shelfDs x) l) : ∀ a ∈ x.askers, ∀ y ∈ a.trees, valCnt y.v ≤ 1099511627776 := by
  simp only [shelfDs] at h
  obtain ⟨h1, _, _⟩ := sz_cons hl h
  obtain ⟨h3, h4, _⟩ := sz_row h1
  exact askers_of_sz x.askers _ h3 (by omega) h4
end Go.Proofs.Ytppfgepoegicgaa
