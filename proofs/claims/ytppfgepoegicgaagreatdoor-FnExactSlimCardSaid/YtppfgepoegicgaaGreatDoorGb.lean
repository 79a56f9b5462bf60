/- What comes in from outside reads as a tree of the program's kind. -/
import Derived.Test.YtppfgepoegicgaaGreatDoorProg
import Derived.Test.YtppfgepoegicgaaGreatDoorGa
import Derived.KernelRfl
import Derived.Deep.Slices
namespace Go.Proofs.YtppfgepoegicgaaGreatDoor
open Go Go.RowKit Go.ChangeShapes Go.WideShapes Go.Deep

section
variable {H : Type} {enc : TypeId × Value → H} {w : World} {spare : Nat → Bool} {held : Bool}

/-- Elements one by one, put together as a row. -/
theorem rows_open {α : Type} {f : α → List Dat} {fs : List α → List Dat} {sz B : Nat} {a : Addr} (h0 : fs [] = []) (h1 : ∀ xs x, fs (xs ++ [x]) = fs xs ++ f x) :
    ∀ len : Nat, (∀ i, i < len → ∃ x cs', cs'.length = sz ∧ RDv w B (f x) cs' ∧ ∀ j u, cs'[j]? = some u → w.cell? (a.add (i * sz + j)) = some u) →
    ∃ xs us, xs.length = len ∧ us.length = len * sz ∧ RDv w B (fs xs) us ∧ ∀ j u, us[j]? = some u → w.cell? (a.add j) = some u
  | 0, _ => ⟨[], [], rfl, by simp, by rw [h0]; rfl, fun j u hu => by simp at hu⟩
  | len + 1, h => by
    obtain ⟨xs, us, e1, e2, e3, e4⟩ := rows_open h0 h1 len (fun i hi => h i (by omega))
    obtain ⟨x, cs', g1, g2, g3⟩ := h len (by omega)
    refine ⟨xs ++ [x], us ++ cs', by simp [e1], by rw [List.length_append, e2, g1, Nat.succ_mul], by rw [h1]; exact RDv.append_iff.2 ⟨us, cs', rfl, e3, g2⟩, fun j u hu => ?_⟩
    by_cases hj : j < us.length
    · rw [List.getElem?_append_left hj] at hu
      exact e4 j u hu
    · rw [List.getElem?_append_right (by omega)] at hu
      have := g3 _ u hu
      rw [show len * sz + (j - us.length) = j by omega] at this
      exact this

/-- A slice that comes in, its elements being readable. -/
theorem slice_open {P : Program} {t e : TypeId} {α : Type} {f : α → List Dat} {fs : List α → List Dat} {sz : Nat} (ht : P.underlying t = some (.slice e)) (hc : P.cellsOf e = sz) (hsz : 0 < sz) (h0 : fs [] = []) (h1 : ∀ xs x, fs (xs ++ [x]) = fs xs ++ f x)
    {fuel : Nat} (he : ∀ (n : Nat), n < fuel → ∀ (cs : List Value) (y : DataW H × List MemPlace), DataW.trod enc P w 0 spare held n e cs = some y → ∃ x, RDv w w.heap.size (f x) cs)
    {cs : List Value} {y : DataW H × List MemPlace} (h : DataW.trod enc P w 0 spare held fuel t cs = some y) : ∃ A n c xs, cs = [.slice A n c] ∧ xs.length = n ∧ RD w w.heap.size (.row sz n (fs xs)) (.slice A n c) := by
  have hpos : ∃ m, fuel = m + 1 := by
    cases fuel with
    | zero => simp [DataW.trod] at h
    | succ m => exact ⟨m, rfl⟩
  rcases DataW.trod_slice ht h with ⟨rfl, _⟩ | ⟨a, len, cap, elems, rest, n, hn, rfl, _, _, hl, hm, hlen, hel, _⟩
  · exact ⟨none, 0, 0, [], rfl, rfl, none, 0, [], rfl, Nat.le_refl _, by omega, Reads.none_ _, by rw [h0]; rfl⟩
  · obtain ⟨xs, us, e1, e2, e3, e4⟩ := rows_open (w := w) (B := w.heap.size) (a := a) (sz := sz) h0 h1 len (fun i hi => by
      have h2 := hel i hi
      rw [List.getElem?_eq_getElem (by omega), Option.bind_eq_some_iff] at h2
      obtain ⟨cs', h3, h4⟩ := h2
      rw [hc] at h3
      obtain ⟨_, h5, h6⟩ := World.cells?_some h3
      obtain ⟨x, hx⟩ := he n (by omega) cs' _ h4
      refine ⟨x, cs', h5, hx, fun j u hu => ?_⟩
      have hj : j < sz := by
        have := (List.getElem?_eq_some_iff.1 hu).1
        omega
      rw [← add_of_add, h6 j hj]
      exact hu)
    refine ⟨some a, len, cap, xs, rfl, e1, some a, cap, us, rfl, hl, ?_, ⟨e2, fun hp => ⟨a, rfl, ?_, e4⟩⟩, e3⟩
    · simp only [maxLen] at hm
      omega
    · have h2 := hel 0 hp
      rw [List.getElem?_eq_getElem (by omega), Option.bind_eq_some_iff] at h2
      obtain ⟨cs', h3, h4⟩ := h2
      rw [hc] at h3
      obtain ⟨_, h5, h6⟩ := World.cells?_some h3
      have h7 := h6 0 hsz
      rw [List.getElem?_eq_getElem (by omega)] at h7
      have h8 := World.block_lt_of_cell? w _ h7
      rw [block_of_add, block_of_add] at h8
      exact h8

theorem Tryz.cells_string : Tryz.prog.cellsOf 9 = 1 := by kernel_rfl
theorem Tryz.cells_strings : Tryz.prog.cellsOf 22 = 1 := by kernel_rfl
theorem Tryz.cells_int : Tryz.prog.cellsOf 3 = 1 := by kernel_rfl
theorem Tryz.cells_lVal : Tryz.prog.cellsOf 25 = 5 := by kernel_rfl
theorem Tryz.cells_lVals : Tryz.prog.cellsOf 23 = 1 := by kernel_rfl

theorem strDs_append_ : ∀ a b : List ByteArray, strDs (a ++ b) = strDs a ++ strDs b
  | [], _ => rfl
  | s :: a, b => by simp [strDs, strDs_append_ a b]
theorem valsDs_append_ : ∀ a b : List Val, valsDs (a ++ b) = valsDs a ++ valsDs b
  | [], _ => rfl
  | s :: a, b => by simp [valsDs, valsDs_append_ a b]

theorem string_open {fuel : Nat} {cs : List Value} {y : DataW H × List MemPlace} (h : DataW.trod enc Tryz.prog w 0 spare held fuel 9 cs = some y) : ∃ s : ByteArray, cs = [.string s] ∧ s.size ≤ 9223372036854775807 := by
  obtain ⟨s, rfl, _, hs⟩ := DataW.trod_string Tryz.underlying9 h
  simp only [maxLen] at hs
  exact ⟨s, rfl, by omega⟩
theorem strings_open {fuel : Nat} {cs : List Value} {y : DataW H × List MemPlace} (h : DataW.trod enc Tryz.prog w 0 spare held fuel 22 cs = some y) : ∃ A n c ks, cs = [.slice A n c] ∧ ks.length = n ∧ RD w w.heap.size (.row 1 n (strDs ks)) (.slice A n c) :=
  slice_open (f := fun s => [.str s]) (fs := strDs) (sz := 1) Tryz.underlying22 Tryz.cells_string (by omega) rfl (fun xs x => by rw [strDs_append_]; rfl) (fun n _ cs y h => by
    obtain ⟨s, rfl, hs⟩ := string_open h
    exact ⟨s, _, _, rfl, ⟨rfl, hs⟩, rfl⟩) h
theorem int_open {fuel : Nat} {cs : List Value} {y : DataW H × List MemPlace} (h : DataW.trod enc Tryz.prog w 0 spare held fuel 3 cs = some y) : ∃ n : Int, cs = [.int .i64 n] := by
  obtain ⟨n, rfl, _⟩ := DataW.trod_int Tryz.underlying3 h
  exact ⟨n, rfl⟩

theorem drop_take_one {l : List Value} {n : Nat} {v : Value} (h : (l.drop n).take 1 = [v]) : l[n]? = some v := by
  have := congrArg (fun l => l[0]?) h
  simpa using this

set_option maxRecDepth 100000 in
theorem val_open : ∀ (fuel : Nat) (cs : List Value) (y : DataW H × List MemPlace), DataW.trod enc Tryz.prog w 0 spare held fuel 25 cs = some y → ∃ v : Val, RDv w w.heap.size (valDs v) cs := by
  intro fuel
  induction fuel using Nat.strongRecOn with
  | _ fuel ih =>
    intro cs y h
    obtain ⟨xs, n, rfl, hy, hlen, hxl, hf⟩ := DataW.trod_struct Tryz.underlying25 h
    rw [Tryz.cells_lVal] at hlen
    have hx : ∀ i (hi : i < 5), ∃ y, xs[i]? = some y := fun i hi => ⟨xs[i]'(by rw [hxl]; exact hi), List.getElem?_eq_getElem _⟩
    match cs, hlen with
    | [c0, c1, c2, c3, c4], _ =>
      obtain ⟨y0, e0⟩ := hx 0 (by omega)
      obtain ⟨y1, e1⟩ := hx 1 (by omega)
      obtain ⟨y2, e2⟩ := hx 2 (by omega)
      obtain ⟨y3, e3⟩ := hx 3 (by omega)
      obtain ⟨y4, e4⟩ := hx 4 (by omega)
      have f0 := (show DataW.trod enc Tryz.prog w 0 spare held n 3 (([c0, c1, c2, c3, c4].drop 0).take (Tryz.prog.cellsOf 3)) = xs[0]? from hf 0 _ rfl).trans e0
      have f1 := (show DataW.trod enc Tryz.prog w 0 spare held n 3 (([c0, c1, c2, c3, c4].drop 1).take (Tryz.prog.cellsOf 3)) = xs[1]? from hf 1 _ rfl).trans e1
      have f2 := (show DataW.trod enc Tryz.prog w 0 spare held n 9 (([c0, c1, c2, c3, c4].drop 2).take (Tryz.prog.cellsOf 9)) = xs[2]? from hf 2 _ rfl).trans e2
      have f3 := (show DataW.trod enc Tryz.prog w 0 spare held n 22 (([c0, c1, c2, c3, c4].drop 3).take (Tryz.prog.cellsOf 22)) = xs[3]? from hf 3 _ rfl).trans e3
      have f4 := (show DataW.trod enc Tryz.prog w 0 spare held n 23 (([c0, c1, c2, c3, c4].drop 4).take (Tryz.prog.cellsOf 23)) = xs[4]? from hf 4 _ rfl).trans e4
      rw [Tryz.cells_int] at f0 f1
      rw [Tryz.cells_string] at f2
      rw [Tryz.cells_strings] at f3
      rw [Tryz.cells_lVals] at f4
      obtain ⟨k, k0⟩ := int_open f0
      obtain ⟨m, k1⟩ := int_open f1
      obtain ⟨s, k2, hs⟩ := string_open f2
      obtain ⟨A1, n1, q1, keys, k3, l3, r3⟩ := strings_open f3
      obtain ⟨A2, n2, q2, list, k4, l4, r4⟩ := slice_open (f := valDs) (fs := valsDs) (sz := 5) Tryz.underlying23 Tryz.cells_lVal (by omega) rfl (fun xs x => by rw [valsDs_append_]; simp [valsDs]) (fun n' hn' => ih n' (by omega)) f4
      simp at k0 k1 k2 k3 k4
      subst k0 k1 k2 k3 k4 l3 l4
      exact ⟨.mk k m s keys list, _, _, rfl, rfl, _, _, rfl, rfl, _, _, rfl, ⟨rfl, hs⟩, _, _, rfl, r3, _, _, rfl, r4, rfl⟩

set_option maxRecDepth 100000 in
/-- An argument that is a tree. -/
theorem arg_val {r : Reach} {b0 : Nat} {v : Value} {d : DataW H} {p : List MemPlace} (hv : Value.okWide Tryz.prog w r b0 25 v) (h : DataW.Trod enc Tryz.prog w 0 spare held 25 v d p) :
    ∃ (us : List Value) (x : Val), v = .agg us.toArray ∧ RDv w w.heap.size (valDs x) us := by
  obtain ⟨cs, rfl, hsz⟩ := okWide_struct Tryz.underlying25 hv
  obtain ⟨fuel, hf⟩ := h
  obtain ⟨x, hx⟩ := val_open fuel _ _ hf
  exact ⟨cs.toList, x, by simp, hx⟩
end
end Go.Proofs.YtppfgepoegicgaaGreatDoor
namespace Go.Proofs.YtppfgepoegicgaaGreatDoor
open Go Go.RowKit

inductive Filt where
  | mk (kind n : Int) (s : ByteArray) (v : Val) (kids : List Filt)
mutual
def filtDs : Filt → List Dat
  | .mk kind n s v kids => .int kind :: .int n :: .str s :: (valDs v ++ [.row 9 kids.length (filtsDs kids)])
def filtsDs : List Filt → List Dat
  | [] => []
  | v :: r => filtDs v ++ filtsDs r
end
theorem Filt.ind {P : Filt → Prop} (h : ∀ kind n s v kids, (∀ x ∈ kids, P x) → P (.mk kind n s v kids)) : ∀ x, P x := by
  intro v
  have := @Filt.rec (fun v => P v) (fun l => ∀ v ∈ l, P v) (fun kind n s v kids ih => h kind n s v kids ih) (fun _ hx => by cases hx) (fun v l h1 h2 x hx => by
    rcases List.mem_cons.1 hx with rfl | hx
    · exact h1
    · exact h2 x hx) v
  exact this
theorem filtDs_length (x : Filt) : (filtDs x).length = 9 := by
  obtain ⟨_, _, _, v, _⟩ := x
  simp [filtDs, valDs_length]
theorem filtDs_open {w : World} {B : Nat} {x : Filt} {us : List Value} (h : RDv w B (filtDs x) us) : ∃ kind n s v kids uv A c, x = .mk kind n s v kids ∧ us = .int .i64 kind :: .int .i64 n :: .string s :: (uv ++ [.slice A kids.length c]) ∧
    s.size ≤ 9223372036854775807 ∧ RDv w B (valDs v) uv ∧ RD w B (.row 9 kids.length (filtsDs kids)) (.slice A kids.length c) := by
  obtain ⟨kind, n, s, v, kids⟩ := x
  simp only [filtDs] at h
  obtain ⟨_, _, rfl, h0, _, _, rfl, h1, _, _, rfl, h2, h3⟩ := h
  obtain ⟨uv, u4, rfl, h4, h5⟩ := RDv.append_iff.1 h3
  obtain ⟨u5, _, rfl, h6, rfl⟩ := h5
  obtain ⟨A, c, us1, e1, r1⟩ := h6
  subst e1
  exact ⟨kind, n, s, v, kids, uv, A, c, rfl, by rw [show _ = _ from h0, show _ = _ from h1, show _ = _ from h2.1], h2.2, h4, A, c, us1, rfl, r1⟩
theorem filtDs_shape {w : World} {B : Nat} {x : Filt} {us : List Value} (h : RDv w B (filtDs x) us) : ∃ (a0 a1 : Int) (a2 : ByteArray) (a3 a4 : Int) (a5 : ByteArray) (A6 : Option Addr) (n6 q6 : Nat) (A7 : Option Addr) (n7 q7 : Nat) (A8 : Option Addr) (n8 q8 : Nat), us = [.int .i64 a0, .int .i64 a1, .string a2, .int .i64 a3, .int .i64 a4, .string a5, .slice A6 n6 q6, .slice A7 n7 q7, .slice A8 n8 q8] := by
  obtain ⟨kind, n, s, v, kids, uv, A, c, rfl, rfl, _, hv, _⟩ := filtDs_open h
  obtain ⟨a, b, s', A1, n1, c1, A2, n2, c2, rfl⟩ := valDs_shape hv
  exact ⟨_, _, _, _, _, _, _, _, _, _, _, _, _, _, _, rfl⟩
/-- All that a filter's cells are. -/
theorem filtDs_all {w : World} {B : Nat} {x : Filt} {us : List Value} (h : RDv w B (filtDs x) us) : ∃ (kind n : Int) (s : ByteArray) (v : Val) (kids : List Filt) (a3 a4 : Int) (a5 : ByteArray) (A6 : Option Addr) (n6 q6 : Nat) (A7 : Option Addr) (n7 q7 : Nat) (A8 : Option Addr) (q8 : Nat), x = .mk kind n s v kids ∧
    us = [.int .i64 kind, .int .i64 n, .string s, .int .i64 a3, .int .i64 a4, .string a5, .slice A6 n6 q6, .slice A7 n7 q7, .slice A8 kids.length q8] ∧ s.size ≤ 9223372036854775807 ∧
    RDv w B (valDs v) [.int .i64 a3, .int .i64 a4, .string a5, .slice A6 n6 q6, .slice A7 n7 q7] ∧ RD w B (.row 9 kids.length (filtsDs kids)) (.slice A8 kids.length q8) := by
  obtain ⟨kind, n, s, v, kids, uv, A, c, rfl, rfl, hs, hv, hk⟩ := filtDs_open h
  obtain ⟨a, b, s', A1, n1, c1, A2, n2, c2, rfl⟩ := valDs_shape hv
  exact ⟨_, _, _, _, _, _, _, _, _, _, _, _, _, _, _, _, rfl, rfl, hs, hv, hk⟩

section
variable {w w' : World} {B : Nat}
theorem filtsDs_append : ∀ a b : List Filt, filtsDs (a ++ b) = filtsDs a ++ filtsDs b
  | [], _ => rfl
  | s :: a, b => by simp [filtsDs, filtsDs_append a b]
theorem filtsDs_split : ∀ {vs : List Filt} {us : List Value} (k : Nat), k < vs.length → RDv w B (filtsDs vs) us → ∃ v us0 us1 us2, us = us0 ++ (us1 ++ us2) ∧ us0.length = k * 9 ∧ vs.drop k = v :: vs.drop (k + 1) ∧ v ∈ vs ∧ RDv w B (filtDs v) us1
  | [], _, _, h, _ => by simp at h
  | v :: vs, us, 0, _, h => by
    obtain ⟨u1, u2, rfl, h1, h2⟩ := RDv.append_iff.1 h
    exact ⟨v, [], u1, u2, rfl, rfl, rfl, List.mem_cons_self, h1⟩
  | v :: vs, us, k + 1, hk, h => by
    obtain ⟨u1, u2, rfl, h1, h2⟩ := RDv.append_iff.1 h
    obtain ⟨x, a0, a1, a2, rfl, hl, hd, hm, hx⟩ := filtsDs_split k (by simpa using hk) h2
    refine ⟨x, u1 ++ a0, a1, a2, by simp, ?_, by simpa using hd, List.mem_cons_of_mem _ hm, hx⟩
    have := RDv.length_eq h1
    rw [filtDs_length] at this
    simp [this, hl]
    omega
/-- Round k of a walk over a row of 9-cell elements. -/
theorem row9_at {vs : List Filt} {A : Option Addr} {n c : Nat} (h : RD w B (.row 9 n (filtsDs vs)) (.slice A n c)) (hn : n = vs.length) {k : Nat} (hk : k < n) :
    ∃ ad v c0 c1 c2 c3 c4 c5 c6 c7 c8, A = some ad ∧ ad.block < B ∧ RDv w B (filtDs v) [c0, c1, c2, c3, c4, c5, c6, c7, c8] ∧ v ∈ vs ∧ Hid (vs.drop k = v :: vs.drop (k + 1)) ∧
    w.cell? (ad.add (k * 9)) = some c0 ∧ w.cell? ⟨(ad.add (k * 9)).block, (ad.add (k * 9)).off + 1, none⟩ = some c1 ∧ w.cell? ⟨(ad.add (k * 9)).block, (ad.add (k * 9)).off + 2, none⟩ = some c2 ∧ w.cell? ⟨(ad.add (k * 9)).block, (ad.add (k * 9)).off + 3, none⟩ = some c3 ∧ w.cell? ⟨(ad.add (k * 9)).block, (ad.add (k * 9)).off + 4, none⟩ = some c4 ∧ w.cell? ⟨(ad.add (k * 9)).block, (ad.add (k * 9)).off + 5, none⟩ = some c5 ∧ w.cell? ⟨(ad.add (k * 9)).block, (ad.add (k * 9)).off + 6, none⟩ = some c6 ∧ w.cell? ⟨(ad.add (k * 9)).block, (ad.add (k * 9)).off + 7, none⟩ = some c7 ∧ w.cell? ⟨(ad.add (k * 9)).block, (ad.add (k * 9)).off + 8, none⟩ = some c8 := by
  obtain ⟨A', cap, us, e, _, _, ⟨hl, hr⟩, hv⟩ := h
  injection e with e1 e2 e3
  subst e1
  obtain ⟨ad, rfl, hb, hc⟩ := hr (by omega)
  obtain ⟨v, us0, us1, us2, rfl, hl0, hd, hm, hx⟩ := filtsDs_split k (by omega) hv
  have h5 := RDv.length_eq hx
  rw [filtDs_length] at h5
  match us1, h5 with
  | [c0, c1, c2, c3, c4, c5, c6, c7, c8], _ =>
    have g : ∀ j u, [c0, c1, c2, c3, c4, c5, c6, c7, c8][j]? = some u → w.cell? (ad.add (k * 9 + j)) = some u := fun j u hj => hc _ u (by
      rw [List.getElem?_append_right (by omega), hl0, Nat.add_sub_cancel_left, List.getElem?_append_left (List.getElem?_eq_some_iff.1 hj).1]
      exact hj)
    refine ⟨ad, v, c0, c1, c2, c3, c4, c5, c6, c7, c8, rfl, hb, hx, hm, hd, g 0 _ rfl, ?_, ?_, ?_, ?_, ?_, ?_, ?_, ?_⟩
    · rw [add_pos _ _ _ (by omega)]; exact g 1 _ rfl
    · rw [add_pos _ _ _ (by omega)]; exact g 2 _ rfl
    · rw [add_pos _ _ _ (by omega)]; exact g 3 _ rfl
    · rw [add_pos _ _ _ (by omega)]; exact g 4 _ rfl
    · rw [add_pos _ _ _ (by omega)]; exact g 5 _ rfl
    · rw [add_pos _ _ _ (by omega)]; exact g 6 _ rfl
    · rw [add_pos _ _ _ (by omega)]; exact g 7 _ rfl
    · rw [add_pos _ _ _ (by omega)]; exact g 8 _ rfl
theorem smallDs_mem_filt : ∀ {vs : List Filt} {v : Filt}, SmallDs (filtsDs vs) → v ∈ vs → SmallDs (filtDs v)
  | [], _, _, h => by cases h
  | x :: vs, v, h, hm => by
    have h2 := smallDs_append.1 h
    rcases List.mem_cons.1 hm with rfl | hm
    · exact h2.1
    · exact smallDs_mem_filt h2.2 hm
end
end Go.Proofs.YtppfgepoegicgaaGreatDoor
namespace Go.Proofs.YtppfgepoegicgaaGreatDoor
open Go Go.RowKit Go.ChangeShapes Go.WideShapes Go.Deep

section
variable {H : Type} {enc : TypeId × Value → H} {w : World} {spare : Nat → Bool} {held : Bool}
theorem Tryz.cells_lFilt : Tryz.prog.cellsOf 28 = 9 := by kernel_rfl
theorem Tryz.cells_lFilts : Tryz.prog.cellsOf 26 = 1 := by kernel_rfl
theorem filtsDs_append_ : ∀ a b : List Filt, filtsDs (a ++ b) = filtsDs a ++ filtsDs b
  | [], _ => rfl
  | s :: a, b => by simp [filtsDs, filtsDs_append_ a b]

set_option maxRecDepth 100000 in
theorem filt_open : ∀ (fuel : Nat) (cs : List Value) (y : DataW H × List MemPlace), DataW.trod enc Tryz.prog w 0 spare held fuel 28 cs = some y → ∃ v : Filt, RDv w w.heap.size (filtDs v) cs := by
  intro fuel
  induction fuel using Nat.strongRecOn with
  | _ fuel ih =>
    intro cs y h
    obtain ⟨xs, n, rfl, hy, hlen, hxl, hf⟩ := DataW.trod_struct Tryz.underlying28 h
    rw [Tryz.cells_lFilt] at hlen
    have hx : ∀ i (hi : i < 5), ∃ y, xs[i]? = some y := fun i hi => ⟨xs[i]'(by rw [hxl]; exact hi), List.getElem?_eq_getElem _⟩
    match cs, hlen with
    | [c0, c1, c2, c3, c4, c5, c6, c7, c8], _ =>
      obtain ⟨y0, e0⟩ := hx 0 (by omega)
      obtain ⟨y1, e1⟩ := hx 1 (by omega)
      obtain ⟨y2, e2⟩ := hx 2 (by omega)
      obtain ⟨y3, e3⟩ := hx 3 (by omega)
      obtain ⟨y4, e4⟩ := hx 4 (by omega)
      have f0 := (show DataW.trod enc Tryz.prog w 0 spare held n 3 (([c0, c1, c2, c3, c4, c5, c6, c7, c8].drop 0).take (Tryz.prog.cellsOf 3)) = xs[0]? from hf 0 _ rfl).trans e0
      have f1 := (show DataW.trod enc Tryz.prog w 0 spare held n 3 (([c0, c1, c2, c3, c4, c5, c6, c7, c8].drop 1).take (Tryz.prog.cellsOf 3)) = xs[1]? from hf 1 _ rfl).trans e1
      have f2 := (show DataW.trod enc Tryz.prog w 0 spare held n 9 (([c0, c1, c2, c3, c4, c5, c6, c7, c8].drop 2).take (Tryz.prog.cellsOf 9)) = xs[2]? from hf 2 _ rfl).trans e2
      have f3 := (show DataW.trod enc Tryz.prog w 0 spare held n 25 (([c0, c1, c2, c3, c4, c5, c6, c7, c8].drop 3).take (Tryz.prog.cellsOf 25)) = xs[3]? from hf 3 _ rfl).trans e3
      have f4 := (show DataW.trod enc Tryz.prog w 0 spare held n 26 (([c0, c1, c2, c3, c4, c5, c6, c7, c8].drop 8).take (Tryz.prog.cellsOf 26)) = xs[4]? from hf 4 _ rfl).trans e4
      rw [Tryz.cells_int] at f0 f1
      rw [Tryz.cells_string] at f2
      rw [Tryz.cells_lVal] at f3
      rw [Tryz.cells_lFilts] at f4
      obtain ⟨k, k0⟩ := int_open f0
      obtain ⟨m, k1⟩ := int_open f1
      obtain ⟨s, k2, hs⟩ := string_open f2
      obtain ⟨v, hv⟩ := val_open _ _ _ f3
      obtain ⟨A2, n2, q2, list, k4, l4, r4⟩ := slice_open (f := filtDs) (fs := filtsDs) (sz := 9) Tryz.underlying26 Tryz.cells_lFilt (by omega) rfl (fun xs x => by rw [filtsDs_append_]; simp [filtsDs]) (fun n' hn' => ih n' (by omega)) f4
      simp at k0 k1 k2 k4 hv
      subst k0 k1 k2 k4 l4
      have hr : RDv w w.heap.size [.row 9 list.length (filtsDs list)] [.slice A2 list.length q2] := ⟨_, _, rfl, r4, rfl⟩
      exact ⟨.mk k m s v list, _, _, rfl, rfl, _, _, rfl, rfl, _, _, rfl, ⟨rfl, hs⟩, RDv.append_iff.2 ⟨_, _, rfl, hv, hr⟩⟩

set_option maxRecDepth 100000 in
/-- An argument that is a filter. -/
theorem arg_filt {r : Reach} {b0 : Nat} {v : Value} {d : DataW H} {p : List MemPlace} (hv : Value.okWide Tryz.prog w r b0 28 v) (h : DataW.Trod enc Tryz.prog w 0 spare held 28 v d p) :
    ∃ (us : List Value) (x : Filt), v = .agg us.toArray ∧ RDv w w.heap.size (filtDs x) us := by
  obtain ⟨cs, rfl, hsz⟩ := okWide_struct Tryz.underlying28 hv
  obtain ⟨fuel, hf⟩ := h
  obtain ⟨x, hx⟩ := filt_open fuel _ _ hf
  exact ⟨cs.toList, x, by simp, hx⟩
end
end Go.Proofs.YtppfgepoegicgaaGreatDoor
namespace Go.Proofs.YtppfgepoegicgaaGreatDoor
open Go Go.RowKit

theorem Tryz.info_Filt : (Tryz.prog.info? 35).map (fun i => (i.zero, i.size, i.bytes)) = some (some (.agg #[.int .i64 0, .int .i64 0, .string ⟨#[]⟩, .int .i64 0, .int .i64 0, .string ⟨#[]⟩, .slice none 0 0, .slice none 0 0, .slice none 0 0]), 9, 136) := by kernel_rfl

def ToFilt (v : Filt) : Prop := ∀ (us : List Value) (w : World) (B : Nat), B ≤ w.heap.size → RDv w B (filtDs v) us → SmallDs (filtDs v) →
  Calls Tryz.prog 6 #[.agg us.toArray] w fun e w' => ∃ vs fp, e = .returned (.agg vs.toArray) ∧ ODv w' (filtDs v) vs fp ∧ Fresh w w' fp ∧ Below w.heap.size w w'
def ToFilts (vs : List Filt) : Prop := ∀ (A : Option Addr) (c : Nat) (w : World) (B : Nat), B ≤ w.heap.size → RD w B (.row 9 vs.length (filtsDs vs)) (.slice A vs.length c) → SmallD (.row 9 vs.length (filtsDs vs)) →
  Calls Tryz.prog 17 #[.slice A vs.length c] w fun e w' => ∃ v fp, e = .returned v ∧ OD w' (.row 9 vs.length (filtsDs vs)) v fp ∧ Fresh w w' fp ∧ Below w.heap.size w w'

set_option maxHeartbeats 1000000 in
theorem toFilts_of (vs : List Filt) (ih : ∀ v ∈ vs, ToFilt v) : ToFilts vs := by
  intro A c w B hB h hs
  have hn : vs.length ≤ 1048576 := hs.1
  have hsm := Lib.hid hs.2
  have H := Lib.hid h
  have IH := Lib.hid ih
  clear h hs ih
  have hmk := make_row (P := Tryz.prog) [.int .i64 0, .int .i64 0, .string ⟨#[]⟩, .int .i64 0, .int .i64 0, .string ⟨#[]⟩, .slice none 0 0, .slice none 0 0, .slice none 0 0] Tryz.underlying33 Tryz.info_Filt rfl rfl vs.length (by omega) (by omega)
  go_enter Tryz.func17, Tryz.ntmps17
  go_wp2
  go_loopw [4] (fun i w' => ∃ (k : Nat) (ks : List Filt), k ≤ vs.length ∧ i = .int .i64 k ∧ vs = ks ++ vs.drop k ∧ ToInv w' w.heap.size 35 9 [.int .i64 0, .int .i64 0, .string ⟨#[]⟩, .int .i64 0, .int .i64 0, .string ⟨#[]⟩, .slice none 0 0, .slice none 0 0, .slice none 0 0] vs.length k (filtsDs ks) ∧ Below w.heap.size w w') (fun i _ => vs.length - (intOf i).toNat)
  case atStart => exact ⟨0, [], by omega, rfl, rfl, ToInv.start _ _ _ _ _, below_box _ _⟩
  case round =>
    obtain ⟨k, ks, hk, rfl, hks, hT, hb⟩ := hrel
    by_cases hlt : k < vs.length
    · obtain ⟨ad, v, c0, c1, c2, c3, c4, c5, c6, c7, c8, rfl, hbl, hv, hm, hd, x0, x1, x2, x3, x4, x5, x6, x7, x8⟩ := row9_at (H.out.upto (hb.mono hB) (Nat.le_refl _)) rfl hlt
      have HK := Lib.hid hks
      have HT := Lib.hid hT
      clear hks hT
      have hz := hb.size
      go_wp2_with fail
      refine (IH.out v hm _ wr B (by omega) hv (smallDs_mem_filt hsm.out hm)).mono ?_
      rintro e w1 ⟨us1, f1, rfl, hO, hF, hb1⟩
      obtain ⟨a0, a1, a2, a3, a4, a5, A6, n6, q6, A7, n7, q7, A8, n8, q8, rfl⟩ := filtDs_shape hO.rd'
      have hT1 := HT.out.below hb1
      have hz1 := hb1.size
      have t0 := hT1.there hlt rfl
      obtain ⟨⟨y0, q0_⟩, z0⟩ := t0 0 (by omega)
      obtain ⟨⟨y1, q1_⟩, z1⟩ := t0 1 (by omega)
      obtain ⟨⟨y2, q2_⟩, z2⟩ := t0 2 (by omega)
      obtain ⟨⟨y3, q3_⟩, z3⟩ := t0 3 (by omega)
      obtain ⟨⟨y4, q4_⟩, z4⟩ := t0 4 (by omega)
      obtain ⟨⟨y5, q5_⟩, z5⟩ := t0 5 (by omega)
      obtain ⟨⟨y6, q6_⟩, z6⟩ := t0 6 (by omega)
      obtain ⟨⟨y7, q7_⟩, z7⟩ := t0 7 (by omega)
      obtain ⟨⟨y8, q8_⟩, z8⟩ := t0 8 (by omega)
      rw [Nat.add_zero] at q0_ z0
      have HS := Lib.hid (HT.out.step hlt rfl hb1 hO rfl hF)
      have HO := Lib.hid hO
      clear hO hT1 t0
      go_wp2
      go_roundw
      case rel => exact ⟨k + 1, ks ++ [v], by omega, by go_num, by rw [List.append_assoc, List.singleton_append, ← hd.out]; exact HK.out, by rw [filtsDs_append, show filtsDs [v] = filtDs v by simp [filtsDs]]; exact HS.out, setAll_below (o := k * 9) [_, _, _, _, _, _, _, _, _] (Nat.le_refl _) (hb.trans (hb1.mono hz))⟩
      case measure => simp [intOf]; omega
    · have e : k = vs.length := by omega
      subst e
      rw [List.drop_length, List.append_nil] at hks
      rw [← hks] at hT
      have HT := Lib.hid hT
      clear hks hT
      go_wp2
      go_ret
      obtain ⟨fp, h1, h2⟩ := HT.out.done (Nat.le_refl _) (by omega)
      exact ⟨_, fp, rfl, h1, h2, hb⟩
end Go.Proofs.YtppfgepoegicgaaGreatDoor
namespace Go.Proofs.YtppfgepoegicgaaGreatDoor
open Go Go.RowKit

def SzFilt (v : Filt) : Prop := ∀ (us : List Value) (left : Int) (w : World) (B : Nat), B ≤ w.heap.size → RDv w B (filtDs v) us → 0 ≤ left → left ≤ 1048576 →
  Calls Tryz.prog 4 #[.agg us.toArray, .int .i64 left] w fun e w' => e = .returned (.int .i64 (szDs (filtDs v) left)) ∧ Below w.heap.size w w'
def SzFilts (vs : List Filt) : Prop := ∀ (A : Option Addr) (c : Nat) (left : Int) (w : World) (B : Nat), B ≤ w.heap.size → RD w B (.row 9 vs.length (filtsDs vs)) (.slice A vs.length c) → 0 ≤ left → left ≤ 1048576 →
  Calls Tryz.prog 12 #[.slice A vs.length c, .int .i64 left] w fun e w' => e = .returned (.int .i64 (szD (.row 9 vs.length (filtsDs vs)) left)) ∧ Below w.heap.size w w'

set_option maxHeartbeats 1000000 in
theorem szFilts_of (vs : List Filt) (ih : ∀ v ∈ vs, SzFilt v) : SzFilts vs := by
  intro A c left w B hB h h0 h1
  have hn := h.len
  have H := Lib.hid h
  have IH := Lib.hid ih
  clear h ih
  go_enter Tryz.func12, Tryz.ntmps12
  by_cases hs : left - (vs.length : Int) < 0
  · have HR := Lib.hid (show szD (.row 9 vs.length (filtsDs vs)) left = -1 by simp [szD, hs])
    go_wp2
    go_ret
    exact ⟨by rw [HR.out]; rfl, Below.refl _ _⟩
  · have HR := Lib.hid (show szD (.row 9 vs.length (filtsDs vs)) left = szDs (filtsDs vs) (left - vs.length) by simp [szD, hs])
    go_wp2
    go_loopw [1, 5] (fun v i w' => ∃ (k : Nat) (l : Int), k ≤ vs.length ∧ v = .int .i64 l ∧ i = .int .i64 k ∧ 0 ≤ l ∧ l ≤ 1048576 ∧ Hid (szDs (filtsDs (vs.drop k)) l = szDs (filtsDs vs) (left - vs.length)) ∧ Below w.heap.size w w') (fun _ i _ => vs.length - (intOf i).toNat)
    case atStart => exact ⟨0, _, by omega, rfl, rfl, by omega, by omega, rfl, Below.refl _ _⟩
    case round =>
      obtain ⟨k, l, hk, rfl, rfl, hl0, hl1, HI, hb⟩ := hrel
      have hz := hb.size
      by_cases hlt : k < vs.length
      · obtain ⟨ad, v, c0, c1, c2, c3, c4, c5, c6, c7, c8, rfl, hbl, hv, hm, hd, x0, x1, x2, x3, x4, x5, x6, x7, x8⟩ := row9_at (H.out.upto (hb.mono hB) (Nat.le_refl _)) rfl hlt
        have h2 := HI.out
        clear HI
        rw [hd.out] at h2
        simp only [filtsDs] at h2
        rw [szDs_append _ _ _ hl0] at h2
        obtain ⟨m, em⟩ : ∃ m, m = szDs (filtDs v) l := ⟨_, rfl⟩
        have hr := szDs_range (filtDs v) l hl0
        rw [← em] at h2 hr
        have EM := Lib.hid em
        clear em
        by_cases hs2 : m < 0
        · rw [if_pos hs2] at h2
          have HI := Lib.hid h2
          clear h2
          go_wp2_with fail
          refine (IH.out v hm _ l wr B (by omega) hv hl0 hl1).mono ?_
          rintro e w1 ⟨rfl, hb1⟩
          rw [← EM.out]
          go_wp2
          go_ret
          exact ⟨by rw [HR.out, ← HI.out]; rfl, hb.trans (hb1.mono hz)⟩
        · rw [if_neg hs2] at h2
          have HI := Lib.hid h2
          clear h2
          go_wp2_with fail
          refine (IH.out v hm _ l wr B (by omega) hv hl0 hl1).mono ?_
          rintro e w1 ⟨rfl, hb1⟩
          rw [← EM.out]
          go_wp2
          go_roundw
          case rel => exact ⟨k + 1, _, by omega, rfl, by go_num, by omega, by omega, HI, hb.trans (hb1.mono hz)⟩
          case measure => simp [intOf]; omega
      · have e : k = vs.length := by omega
        have h2 := HI.out
        clear HI
        rw [e, List.drop_length] at h2
        have HI := Lib.hid h2
        clear h2 e
        go_wp2
        go_ret
        exact ⟨by rw [HR.out, ← HI.out]; rfl, hb⟩
end Go.Proofs.YtppfgepoegicgaaGreatDoor
namespace Go.Proofs.YtppfgepoegicgaaGreatDoor
open Go Go.RowKit

def EqFilt (v : Filt) : Prop := ∀ (us us' : List Value) (w : World) (B : Nat), B ≤ w.heap.size → RDv w B (filtDs v) us → RDv w B (filtDs v) us' →
  Calls Tryz.prog 8 #[.agg us.toArray, .agg us'.toArray] w fun e w' => e = .returned (.bool true) ∧ Below w.heap.size w w'
def EqFilts (vs : List Filt) : Prop := ∀ (A A' : Option Addr) (c c' : Nat) (w : World) (B : Nat), B ≤ w.heap.size → RD w B (.row 9 vs.length (filtsDs vs)) (.slice A vs.length c) → RD w B (.row 9 vs.length (filtsDs vs)) (.slice A' vs.length c') →
  Calls Tryz.prog 22 #[.slice A vs.length c, .slice A' vs.length c'] w fun e w' => e = .returned (.bool true) ∧ Below w.heap.size w w'

set_option maxRecDepth 100000 in
set_option maxHeartbeats 1000000 in
theorem eqFilts_of (vs : List Filt) (ih : ∀ v ∈ vs, EqFilt v) : EqFilts vs := by
  intro A A' c c' w B hB h h'
  have hn := h.len
  have H := Lib.hid h
  have H' := Lib.hid h'
  have IH := Lib.hid ih
  clear h h' ih
  go_enter Tryz.func22, Tryz.ntmps22
  go_wp2
  go_loopw [5] (fun i w' => ∃ (k : Nat), k ≤ vs.length ∧ i = .int .i64 k ∧ Below w.heap.size w w') (fun i _ => vs.length - (intOf i).toNat)
  case atStart => exact ⟨0, by omega, rfl, Below.refl _ _⟩
  case round =>
    obtain ⟨k, hk, rfl, hb⟩ := hrel
    have hz := hb.size
    by_cases hlt : k < vs.length
    · obtain ⟨ad, v, c0, c1, c2, c3, c4, c5, c6, c7, c8, rfl, hbl, hv, hm, hd, x0, x1, x2, x3, x4, x5, x6, x7, x8⟩ := row9_at (H.out.upto (hb.mono hB) (Nat.le_refl _)) rfl hlt
      obtain ⟨ad', v', c0', c1', c2', c3', c4', c5', c6', c7', c8', rfl, hbl', hv', hm', hd', x0', x1', x2', x3', x4', x5', x6', x7', x8'⟩ := row9_at (H'.out.upto (hb.mono hB) (Nat.le_refl _)) rfl hlt
      obtain rfl : v = v' := by
        have := hd.out.symm.trans hd'.out
        injection this
      have hb0 : (0 : Int) ≤ (k : Int) := by omega
      have hb1 : (k : Int) < (vs.length : Int) := by omega
      go_wp2_with fail
      go_still_tail 8, (by kernel_rfl)
      change wpList _ _ _ _ _ wr.drew
      have hD : Below wr.heap.size wr wr.drew := (Below.refl _ _).drew
      have hBr : B ≤ wr.heap.size := by omega
      go_wp2_with fail
      refine (IH.out v hm _ _ wr.drew B hBr (hv.below (hD.mono hBr)) (hv'.below (hD.mono hBr))).mono ?_
      rintro e w1 ⟨rfl, hb1⟩
      go_wp2
      go_roundw
      case rel => exact ⟨k + 1, by omega, by go_num, hb.trans ((hD.trans hb1).mono hz)⟩
      case measure => simp [intOf]; omega
    · go_wp2
      go_ret
      exact ⟨rfl, hb⟩
end Go.Proofs.YtppfgepoegicgaaGreatDoor
