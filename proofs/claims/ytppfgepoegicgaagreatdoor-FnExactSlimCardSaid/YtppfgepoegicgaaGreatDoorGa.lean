/- Plain words for data in memory: how cells read as data, whatever the program. -/
import Derived.WalkKit
import Derived.Deep.AppendLies
import Derived.Deep.Draws
import Derived.Maps.AppendAt
import Derived.Deep.OwnRows
import Derived.Test.YtppfgepoegicgaaGreatDoorProg
import Derived.KernelRfl
import Derived.Outline
import Derived.Lib.Hide
import Derived.Deep.QuietTactic
import Derived.BigQuiet
import Derived.StillTailTactics
import Derived.Deep.RegionHeld3
import Derived.Deep.DrawnRows
namespace Go.Proofs.YtppfgepoegicgaaGreatDoor
open Go Go.RowKit

/-! ### addresses -/
theorem block_of_add (a : Addr) (n : Nat) : (a.add n).block = a.block := by unfold Addr.add; split <;> rfl
theorem add_of_add (a : Addr) (i j : Nat) : (a.add i).add j = a.add (i + j) := by
  unfold Addr.add
  by_cases hi : i = 0 <;> by_cases hj : j = 0 <;> simp [hi, hj, Nat.add_assoc]
theorem add_pos (a : Addr) (i j : Nat) (hj : j ≠ 0) : (⟨(a.add i).block, (a.add i).off + j, none⟩ : Addr) = a.add (i + j) := by
  unfold Addr.add
  by_cases hi : i = 0
  · simp [hi, hj]
  · simp [hi, Nat.add_assoc]

theorem below_box_ (w : World) (o : Obj) : Below w.heap.size w (w.alloc o) := (Below.refl _ _).alloc (Nat.le_refl _) o

/-! ### texts -/
theorem str_inj {s t : ByteArray} (h : s.toList = t.toList) : s = t := by
  rw [ByteArray.toList_eq, ByteArray.toList_eq] at h
  obtain ⟨⟨a⟩⟩ := s
  obtain ⟨⟨b⟩⟩ := t
  simp at h
  rw [h]
theorem str_ne {s t : ByteArray} (h : s ≠ t) : (s.toList == t.toList) = false := beq_eq_false_iff_ne.2 fun e => h (str_inj e)
theorem str_ne' {s t : ByteArray} (h : s ≠ t) : ¬ s.toList = t.toList := fun e => h (str_inj e)

/-! ### a row of cells that is read -/
def Reads (w : World) (B size : Nat) (A : Option Addr) (n : Nat) (xs : List Value) : Prop :=
  xs.length = n * size ∧ (0 < n → ∃ ad, A = some ad ∧ ad.block < B ∧ ∀ j u, xs[j]? = some u → w.cell? (ad.add j) = some u)

section
variable {w w' : World} {B B' size n : Nat} {A : Option Addr} {xs : List Value}
theorem Reads.none_ (A : Option Addr) : Reads w B size A 0 [] := ⟨by simp, fun h => absurd h (by omega)⟩
theorem Reads.keep (h : Reads w B size A n xs) (hk : ∀ p : Addr, p.block < B → w'.cell? p = w.cell? p) : Reads w' B size A n xs :=
  ⟨h.1, fun hn => by
    obtain ⟨ad, e, hb, hc⟩ := h.2 hn
    exact ⟨ad, e, hb, fun j u hu => (hk _ (by rw [block_of_add]; exact hb)).trans (hc j u hu)⟩⟩
theorem Reads.more (h : Reads w B size A n xs) (hB : B ≤ B') : Reads w B' size A n xs :=
  ⟨h.1, fun hn => by
    obtain ⟨ad, e, hb, hc⟩ := h.2 hn
    exact ⟨ad, e, by omega, hc⟩⟩
end

/-! ### data -/
inductive Dat where
  | int (n : Int)
  | str (s : ByteArray)
  | row (sz n : Nat) (cells : List Dat)

mutual
/-- In world w the cell c reads as d; all that it leads to lies below block B. -/
def RD (w : World) (B : Nat) : Dat → Value → Prop
  | .int n, c => c = .int .i64 n
  | .str s, c => c = .string s ∧ s.size ≤ 9223372036854775807
  | .row sz n cells, c => ∃ A cap us, c = .slice A n cap ∧ n ≤ cap ∧ n ≤ 9223372036854775807 ∧ Reads w B sz A n us ∧ RDv w B cells us
def RDv (w : World) (B : Nat) : List Dat → List Value → Prop
  | [], us => us = []
  | d :: ds, us => ∃ u us', us = u :: us' ∧ RD w B d u ∧ RDv w B ds us'
end

mutual
theorem RD.keep {w w' : World} {B B' : Nat} (hB : B ≤ B') (hk : ∀ p : Addr, p.block < B → w'.cell? p = w.cell? p) : ∀ (d : Dat) (c : Value), RD w B d c → RD w' B' d c
  | .int _, _, h => h
  | .str _, _, h => h
  | .row _ _ cells, _, h => by
    obtain ⟨A, cap, us, h1, h2, h0, h3, h4⟩ := h
    exact ⟨A, cap, us, h1, h2, h0, (h3.keep hk).more hB, RDv.keep hB hk cells us h4⟩
theorem RDv.keep {w w' : World} {B B' : Nat} (hB : B ≤ B') (hk : ∀ p : Addr, p.block < B → w'.cell? p = w.cell? p) : ∀ (ds : List Dat) (us : List Value), RDv w B ds us → RDv w' B' ds us
  | [], _, h => h
  | d :: ds, _, h => by
    obtain ⟨u, us', h1, h2, h3⟩ := h
    exact ⟨u, us', h1, RD.keep hB hk d u h2, RDv.keep hB hk ds us' h3⟩
end

section
variable {w w' : World} {B : Nat} {d : Dat} {c : Value} {ds es : List Dat} {us : List Value}
theorem RD.below (h : RD w B d c) (hb : Below B w w') : RD w' B d c := RD.keep (Nat.le_refl _) (fun _ hp => hb.cell hp) _ _ h
theorem RDv.below (h : RDv w B ds us) (hb : Below B w w') : RDv w' B ds us := RDv.keep (Nat.le_refl _) (fun _ hp => hb.cell hp) _ _ h
theorem RD.upto {B' : Nat} (h : RD w B d c) (hb : Below B w w') (hB : B ≤ B') : RD w' B' d c := RD.keep hB (fun _ hp => hb.cell hp) _ _ h
theorem RDv.upto {B' : Nat} (h : RDv w B ds us) (hb : Below B w w') (hB : B ≤ B') : RDv w' B' ds us := RDv.keep hB (fun _ hp => hb.cell hp) _ _ h
theorem RDv.append_iff : ∀ {ds : List Dat} {us : List Value}, RDv w B (ds ++ es) us ↔ ∃ u1 u2, us = u1 ++ u2 ∧ RDv w B ds u1 ∧ RDv w B es u2
  | [], us => by
    constructor
    · intro h
      exact ⟨[], us, rfl, rfl, h⟩
    · rintro ⟨u1, u2, rfl, rfl, h⟩
      exact h
  | d :: ds, us => by
    constructor
    · rintro ⟨u, us', rfl, h1, h2⟩
      obtain ⟨u1, u2, rfl, h3, h4⟩ := RDv.append_iff.1 h2
      exact ⟨u :: u1, u2, rfl, ⟨u, u1, rfl, h1, h3⟩, h4⟩
    · rintro ⟨u1, u2, rfl, ⟨u, us', rfl, h1, h2⟩, h4⟩
      exact ⟨u, us' ++ u2, rfl, h1, RDv.append_iff.2 ⟨us', u2, rfl, h2, h4⟩⟩
theorem RDv.length_eq : ∀ {ds : List Dat} {us : List Value}, RDv w B ds us → us.length = ds.length
  | [], _, h => by rw [show _ = _ from h]; rfl
  | _ :: ds, _, ⟨_, _, e, _, h⟩ => by rw [e]; simp [RDv.length_eq h]
end

/-! ### the world behind a call -/
/-- All old cells, and all old marks, read as before: rules for the walk. -/
theorem bcell {W w1 : World} (hb : Below W.heap.size W w1) : (∀ b o, b < W.heap.size → w1.cell? ⟨b, o, none⟩ = W.cell? ⟨b, o, none⟩) ∧ (∀ b o, b < W.heap.size → w1.frozen? ⟨b, o, none⟩ = W.frozen? ⟨b, o, none⟩) :=
  ⟨fun b o h => hb.cell (p := ⟨b, o, none⟩) h, fun b o h => hb.frozen (p := ⟨b, o, none⟩) h⟩
theorem below_drewN {B : Nat} {w W : World} (h : Below B w W) (n : Nat) : Below B w (W.drewN n) := ⟨h.os, h.tape, h.output, h.size, h.block⟩

/-- Behind a call in a function that has boxed one struct. -/
theorem bbox {w w1 : World} {o : Obj} (hb : Below (w.alloc o).heap.size (w.alloc o) w1) : Below w.heap.size w w1 ∧ w.heap.size + 1 ≤ w1.heap.size ∧
    (∀ b i, b < w.heap.size + 1 → w1.cell? ⟨b, i, none⟩ = (w.alloc o).cell? ⟨b, i, none⟩) ∧ (∀ b i, b < w.heap.size + 1 → w1.frozen? ⟨b, i, none⟩ = (w.alloc o).frozen? ⟨b, i, none⟩) := by
  have hs : (w.alloc o).heap.size = w.heap.size + 1 := by simp
  have hz := hb.size
  obtain ⟨h1, h2⟩ := bcell hb
  rw [hs] at hz h1 h2
  exact ⟨((Below.refl _ _).alloc (Nat.le_refl _) o).trans (hb.mono (by omega)), hz, h1, h2⟩
theorem below_box (w : World) (o : Obj) : Below w.heap.size w (w.alloc o) := (Below.refl _ _).alloc (Nat.le_refl _) o

/-- Behind a call that follows a store. -/
theorem bset {w1 w2 : World} {p : Addr} {u : Value} (hb : Below (w1.setCell p u).heap.size (w1.setCell p u) w2) : w1.heap.size ≤ w2.heap.size ∧
    (∀ b i, b < w1.heap.size → w2.cell? ⟨b, i, none⟩ = (w1.setCell p u).cell? ⟨b, i, none⟩) ∧ (∀ b i, b < w1.heap.size → w2.frozen? ⟨b, i, none⟩ = (w1.setCell p u).frozen? ⟨b, i, none⟩) ∧
    (∀ B, B ≤ p.block → B ≤ w1.heap.size → Below B w1 w2) ∧ (∀ b, b < w1.heap.size → b ≠ p.block → w2.heap[b]? = w1.heap[b]?) := by
  have hs : (w1.setCell p u).heap.size = w1.heap.size := by simp [World.setCell]
  have hz := hb.size
  have hk := hb.block
  obtain ⟨h1, h2⟩ := bcell hb
  have hb' := hb
  rw [hs] at hz h1 h2 hk hb'
  exact ⟨hz, h1, h2, fun B h3 h4 => ((Below.refl B w1).setCell h3 u).trans (hb'.mono h4), fun b h3 h4 => (hk b h3).trans (Below.heap_setCell w1 p u b h4)⟩
theorem below_box2 (w : World) (o1 o2 : Obj) : Below w.heap.size w ((w.alloc o1).alloc o2) :=
  ((Below.refl _ _).alloc (Nat.le_refl _) o1).alloc (by simp) o2
/-- Behind a call in a function that has made two blocks. -/
theorem bbox2 {w w1 : World} {o1 o2 : Obj} (hb : Below ((w.alloc o1).alloc o2).heap.size ((w.alloc o1).alloc o2) w1) : Below w.heap.size w w1 ∧ w.heap.size + 1 + 1 ≤ w1.heap.size ∧
    (∀ b i, b < w.heap.size + 1 + 1 → w1.cell? ⟨b, i, none⟩ = ((w.alloc o1).alloc o2).cell? ⟨b, i, none⟩) ∧ (∀ b i, b < w.heap.size + 1 + 1 → w1.frozen? ⟨b, i, none⟩ = ((w.alloc o1).alloc o2).frozen? ⟨b, i, none⟩) := by
  have hs : ((w.alloc o1).alloc o2).heap.size = w.heap.size + 1 + 1 := by simp
  have hz := hb.size
  obtain ⟨h1, h2⟩ := bcell hb
  rw [hs] at hz h1 h2
  exact ⟨(below_box2 w o1 o2).trans (hb.mono (by omega)), hz, h1, h2⟩
theorem below_box3 (w : World) (o1 o2 o3 : Obj) : Below w.heap.size w (((w.alloc o1).alloc o2).alloc o3) :=
  (((Below.refl _ _).alloc (Nat.le_refl _) o1).alloc (by simp) o2).alloc (by simp; omega) o3
/-- Behind a call in a function that has made three blocks. -/
theorem bbox3 {w w1 : World} {o1 o2 o3 : Obj} (hb : Below (((w.alloc o1).alloc o2).alloc o3).heap.size (((w.alloc o1).alloc o2).alloc o3) w1) : Below w.heap.size w w1 ∧ w.heap.size + 1 + 1 + 1 ≤ w1.heap.size ∧
    (∀ b i, b < w.heap.size + 1 + 1 + 1 → w1.cell? ⟨b, i, none⟩ = (((w.alloc o1).alloc o2).alloc o3).cell? ⟨b, i, none⟩) ∧ (∀ b i, b < w.heap.size + 1 + 1 + 1 → w1.frozen? ⟨b, i, none⟩ = (((w.alloc o1).alloc o2).alloc o3).frozen? ⟨b, i, none⟩) := by
  have hs : (((w.alloc o1).alloc o2).alloc o3).heap.size = w.heap.size + 1 + 1 + 1 := by simp
  have hz := hb.size
  obtain ⟨h1, h2⟩ := bcell hb
  rw [hs] at hz h1 h2
  exact ⟨(below_box3 w o1 o2 o3).trans (hb.mono (by omega)), hz, h1, h2⟩

/-- Variables in memory: the cells of each listed block begin as listed. -/
def Has (l : List (Nat × List Value)) (w : World) : Prop := ∀ p ∈ l, p.1 < w.heap.size ∧ ∀ i u, p.2[i]? = some u → w.cell? ⟨p.1, i, none⟩ = some u
theorem Has.below {l : List (Nat × List Value)} {w w' : World} (h : Has l w) (hb : Below w.heap.size w w') : Has l w' := fun p hp =>
  ⟨Nat.lt_of_lt_of_le (h p hp).1 hb.size, fun i u hu => (hb.cell (p := ⟨p.1, i, none⟩) (h p hp).1).trans ((h p hp).2 i u hu)⟩
theorem Has.nil (w : World) : Has [] w := fun _ h => by cases h
theorem Has.cons {l : List (Nat × List Value)} {w : World} {g : Nat} {cs : List Value} (h1 : g < w.heap.size) (h2 : ∀ i u, cs[i]? = some u → w.cell? ⟨g, i, none⟩ = some u) (h : Has l w) : Has ((g, cs) :: l) w := fun p hp => by
  rcases List.mem_cons.1 hp with rfl | hp
  · exact ⟨h1, h2⟩
  · exact h p hp
theorem Has.alloc {l : List (Nat × List Value)} {w : World} (h : Has l w) (cs : List Value) (t : TypeId) : Has ((w.heap.size, cs) :: l) (w.alloc (.cells cs.toArray t)) :=
  Has.cons (by simp) (fun i u hu => by
    have := cell_of_row (w.alloc (.cells cs.toArray t)) w.heap.size i cs.toArray t (0, 0) (heap_alloc_new w _)
    rw [this]
    simpa using hu) (h.below (below_box_ w _))
theorem Has.head {l : List (Nat × List Value)} {w : World} {g : Nat} {cs : List Value} (h : Has ((g, cs) :: l) w) (i : Nat) {u : Value} (hu : cs[i]? = some u) : w.cell? ⟨g, i, none⟩ = some u := (h _ List.mem_cons_self).2 i u hu
theorem Has.lt {l : List (Nat × List Value)} {w : World} {g : Nat} {cs : List Value} (h : Has ((g, cs) :: l) w) : g < w.heap.size := (h _ List.mem_cons_self).1
theorem Has.tail {l : List (Nat × List Value)} {w : World} {p : Nat × List Value} (h : Has (p :: l) w) : Has l w := fun q hq => h q (List.mem_cons_of_mem _ hq)

/-- The call returns a bool that says whether p; it has only made new blocks. -/
def PBool (p : Prop) (w : World) (e : Ending) (w' : World) : Prop := ∃ r, e = .returned (.bool r) ∧ (r = true ↔ p) ∧ Below w.heap.size w w'
theorem PBool.yes {p : Prop} {w w' : World} (h : p) (hb : Below w.heap.size w w') : PBool p w (.returned (.bool true)) w' := ⟨true, rfl, ⟨fun _ => h, fun _ => rfl⟩, hb⟩
theorem PBool.no {p : Prop} {w w' : World} (h : ¬ p) (hb : Below w.heap.size w w') : PBool p w (.returned (.bool false)) w' := ⟨false, rfl, ⟨(fun e => by cases e), fun e => absurd e h⟩, hb⟩

/-- The same, the world being as it was. -/
def PSame (p : Prop) (w : World) (e : Ending) (w' : World) : Prop := ∃ r, e = .returned (.bool r) ∧ (r = true ↔ p) ∧ w' = w
theorem PSame.yes {p : Prop} {w : World} (h : p) : PSame p w (.returned (.bool true)) w := ⟨true, rfl, ⟨fun _ => h, fun _ => rfl⟩, rfl⟩
theorem PSame.no {p : Prop} {w : World} (h : ¬ p) : PSame p w (.returned (.bool false)) w := ⟨false, rfl, ⟨(fun e => by cases e), fun e => absurd e h⟩, rfl⟩
theorem PSame.bool {p : Prop} {w w' : World} {e : Ending} (h : PSame p w e w') : PBool p w e w' := by
  obtain ⟨r, h1, h2, rfl⟩ := h
  exact ⟨r, h1, h2, Below.refl _ _⟩
theorem PSame.true_ {p : Prop} {w w' : World} {e : Ending} (hp : p) (h : PSame p w e w') : e = .returned (.bool true) ∧ w' = w := by
  obtain ⟨r, rfl, h2, rfl⟩ := h
  rw [h2.2 hp]
  exact ⟨rfl, rfl⟩
theorem PSame.false_ {p : Prop} {w w' : World} {e : Ending} (hp : ¬ p) (h : PSame p w e w') : e = .returned (.bool false) ∧ w' = w := by
  obtain ⟨r, rfl, h2, rfl⟩ := h
  cases r with
  | true => exact absurd (h2.1 rfl) hp
  | false => exact ⟨rfl, rfl⟩

/-! ### the trees that the program has -/
inductive Val where
  | mk (kind n : Int) (s : ByteArray) (keys : List ByteArray) (list : List Val)

def strDs : List ByteArray → List Dat
  | [] => []
  | s :: r => .str s :: strDs r
mutual
def valDs : Val → List Dat
  | .mk kind n s keys list => [.int kind, .int n, .str s, .row 1 keys.length (strDs keys), .row 5 list.length (valsDs list)]
def valsDs : List Val → List Dat
  | [] => []
  | v :: r => valDs v ++ valsDs r
end

section
variable {w w' : World} {B : Nat}
/-- The k-th text of a row of texts. -/
theorem strDs_at : ∀ {ks : List ByteArray} {us : List Value}, RDv w B (strDs ks) us → us = ks.map Value.string
  | [], _, h => h
  | s :: ks, _, ⟨u, us', e, h1, h2⟩ => by rw [e, strDs_at h2, show u = Value.string s from h1.1]; rfl
theorem strDs_length : ∀ ks : List ByteArray, (strDs ks).length = ks.length
  | [] => rfl
  | _ :: ks => by simp [strDs, strDs_length ks]
theorem strDs_size : ∀ {ks : List ByteArray} {us : List Value}, RDv w B (strDs ks) us → ∀ s ∈ ks, s.size ≤ 9223372036854775807
  | [], _, _, _, h => by cases h
  | _ :: _, _, ⟨_, _, _, h1, h2⟩, x, hx => by
    rcases List.mem_cons.1 hx with rfl | hx
    · exact h1.2
    · exact strDs_size h2 x hx
/-- Round k of a walk over a row of texts. -/
theorem row1_at {ss : List ByteArray} {A : Option Addr} {n c : Nat} (h : RD w B (.row 1 n (strDs ss)) (.slice A n c)) (hn : n = ss.length) {k : Nat} (hk : k < n) :
    ∃ ad s, A = some ad ∧ ad.block < B ∧ w.cell? (ad.add k) = some (.string s) ∧ s.size ≤ 9223372036854775807 ∧ Hid (ss.drop k = s :: ss.drop (k + 1)) := by
  obtain ⟨A', cap, us, e, _, _, ⟨hl, hr⟩, hv⟩ := h
  injection e with e1 e2 e3
  subst e1
  obtain ⟨ad, rfl, hb, hc⟩ := hr (by omega)
  have h2 := strDs_size hv
  have := strDs_at hv
  subst this
  have hk' : k < ss.length := by omega
  refine ⟨ad, ss[k], rfl, hb, hc k _ ?_, h2 _ (List.getElem_mem _), List.drop_eq_getElem_cons hk'⟩
  rw [List.getElem?_map, List.getElem?_eq_getElem hk']
  rfl
theorem RD.len {sz n : Nat} {cells : List Dat} {c : Value} (h : RD w B (.row sz n cells) c) : n ≤ 9223372036854775807 := by
  obtain ⟨_, _, _, _, _, h, _⟩ := h
  exact h
theorem row_shape {sz n : Nat} {cells : List Dat} {c : Value} (h : RD w B (.row sz n cells) c) : ∃ (A : Option Addr) (cap n' : Nat), c = .slice A n' cap := by
  obtain ⟨A, cap, _, e, _⟩ := h
  exact ⟨A, cap, n, e⟩
theorem valDs_open {v : Val} {us : List Value} (h : RDv w B (valDs v) us) : ∃ kind n s keys list A1 c1 A2 c2, v = .mk kind n s keys list ∧ us = [.int .i64 kind, .int .i64 n, .string s, .slice A1 keys.length c1, .slice A2 list.length c2] ∧
    s.size ≤ 9223372036854775807 ∧ RD w B (.row 1 keys.length (strDs keys)) (.slice A1 keys.length c1) ∧ RD w B (.row 5 list.length (valsDs list)) (.slice A2 list.length c2) := by
  obtain ⟨kind, n, s, keys, list⟩ := v
  simp only [valDs] at h
  obtain ⟨_, _, rfl, h0, _, _, rfl, h1, _, _, rfl, h2, u3, _, rfl, h3, u4, _, rfl, h4, rfl⟩ := h
  obtain ⟨A1, c1, us1, e1, r1⟩ := h3
  obtain ⟨A2, c2, us2, e2, r2⟩ := h4
  subst e1 e2
  exact ⟨kind, n, s, keys, list, A1, c1, A2, c2, rfl, by rw [show _ = _ from h0, show _ = _ from h1, show _ = _ from h2.1], h2.2, ⟨A1, c1, us1, rfl, r1⟩, ⟨A2, c2, us2, rfl, r2⟩⟩
theorem valDs_shape {v : Val} {us : List Value} (h : RDv w B (valDs v) us) : ∃ (a b : Int) (s : ByteArray) (A1 : Option Addr) (n1 c1 : Nat) (A2 : Option Addr) (n2 c2 : Nat), us = [.int .i64 a, .int .i64 b, .string s, .slice A1 n1 c1, .slice A2 n2 c2] := by
  obtain ⟨_, _, _, _, _, _, _, _, _, _, e, _⟩ := valDs_open h
  exact ⟨_, _, _, _, _, _, _, _, _, e⟩
theorem valDs_length (v : Val) : (valDs v).length = 5 := by
  obtain ⟨_, _, _, _, _⟩ := v
  rfl
/-- Cells of the k-th element of a row of five-cell elements. -/
theorem cells5 {us0 us2 : List Value} {ad : Addr} {k : Nat} {c0 c1 c2 c3 c4 : Value} (hl : us0.length = k * 5) (hc : ∀ j u, (us0 ++ ([c0, c1, c2, c3, c4] ++ us2))[j]? = some u → w.cell? (ad.add j) = some u) :
    w.cell? (ad.add (k * 5)) = some c0 ∧ w.cell? ⟨(ad.add (k * 5)).block, (ad.add (k * 5)).off + 1, none⟩ = some c1 ∧ w.cell? ⟨(ad.add (k * 5)).block, (ad.add (k * 5)).off + 2, none⟩ = some c2 ∧
    w.cell? ⟨(ad.add (k * 5)).block, (ad.add (k * 5)).off + 3, none⟩ = some c3 ∧ w.cell? ⟨(ad.add (k * 5)).block, (ad.add (k * 5)).off + 4, none⟩ = some c4 := by
  have g : ∀ j u, [c0, c1, c2, c3, c4][j]? = some u → w.cell? (ad.add (k * 5 + j)) = some u := fun j u hj => hc _ u (by
    rw [List.getElem?_append_right (by omega), hl, Nat.add_sub_cancel_left, List.getElem?_append_left (by
      have := (List.getElem?_eq_some_iff.1 hj).1
      exact this)]
    exact hj)
  refine ⟨g 0 _ rfl, ?_, ?_, ?_, ?_⟩
  · rw [add_pos _ _ _ (by omega)]; exact g 1 _ rfl
  · rw [add_pos _ _ _ (by omega)]; exact g 2 _ rfl
  · rw [add_pos _ _ _ (by omega)]; exact g 3 _ rfl
  · rw [add_pos _ _ _ (by omega)]; exact g 4 _ rfl
theorem valsDs_split : ∀ {vs : List Val} {us : List Value} (k : Nat), k < vs.length → RDv w B (valsDs vs) us → ∃ v us0 us1 us2, us = us0 ++ (us1 ++ us2) ∧ us0.length = k * 5 ∧ vs.drop k = v :: vs.drop (k + 1) ∧ v ∈ vs ∧ RDv w B (valDs v) us1
  | [], _, _, h, _ => by simp at h
  | v :: vs, us, 0, _, h => by
    obtain ⟨u1, u2, rfl, h1, h2⟩ := RDv.append_iff.1 h
    exact ⟨v, [], u1, u2, rfl, rfl, rfl, List.mem_cons_self, h1⟩
  | v :: vs, us, k + 1, hk, h => by
    obtain ⟨u1, u2, rfl, h1, h2⟩ := RDv.append_iff.1 h
    obtain ⟨x, a0, a1, a2, rfl, hl, hd, hm, hx⟩ := valsDs_split k (by simpa using hk) h2
    refine ⟨x, u1 ++ a0, a1, a2, by simp, ?_, by simpa using hd, List.mem_cons_of_mem _ hm, hx⟩
    have := RDv.length_eq h1
    rw [valDs_length] at this
    simp [this, hl]
    omega
/-- Round k of a walk over a row of trees. -/
theorem row5_at {vs : List Val} {A : Option Addr} {n c : Nat} (h : RD w B (.row 5 n (valsDs vs)) (.slice A n c)) (hn : n = vs.length) {k : Nat} (hk : k < n) :
    ∃ ad v c0 c1 c2 c3 c4, A = some ad ∧ ad.block < B ∧ RDv w B (valDs v) [c0, c1, c2, c3, c4] ∧ v ∈ vs ∧ Hid (vs.drop k = v :: vs.drop (k + 1)) ∧
    w.cell? (ad.add (k * 5)) = some c0 ∧ w.cell? ⟨(ad.add (k * 5)).block, (ad.add (k * 5)).off + 1, none⟩ = some c1 ∧ w.cell? ⟨(ad.add (k * 5)).block, (ad.add (k * 5)).off + 2, none⟩ = some c2 ∧
    w.cell? ⟨(ad.add (k * 5)).block, (ad.add (k * 5)).off + 3, none⟩ = some c3 ∧ w.cell? ⟨(ad.add (k * 5)).block, (ad.add (k * 5)).off + 4, none⟩ = some c4 := by
  obtain ⟨A', cap, us, e, _, _, ⟨hl, hr⟩, hv⟩ := h
  injection e with e1 e2 e3
  subst e1
  obtain ⟨ad, rfl, hb, hc⟩ := hr (by omega)
  obtain ⟨v, us0, us1, us2, rfl, hl0, hd, hm, hx⟩ := valsDs_split k (by omega) hv
  have h5 := RDv.length_eq hx
  rw [valDs_length] at h5
  match us1, h5 with
  | [c0, c1, c2, c3, c4], _ => exact ⟨ad, v, c0, c1, c2, c3, c4, rfl, hb, hx, hm, hd, cells5 hl0 hc⟩
end

theorem Val.ind {P : Val → Prop} (h : ∀ kind n s keys list, (∀ v ∈ list, P v) → P (.mk kind n s keys list)) : ∀ v, P v := by
  intro v
  have := @Val.rec (fun v => P v) (fun l => ∀ v ∈ l, P v) (fun kind n s keys list ih => h kind n s keys list ih) (fun _ hx => by cases hx) (fun v l h1 h2 x hx => by
    rcases List.mem_cons.1 hx with rfl | hx
    · exact h1
    · exact h2 x hx) v
  exact this
end Go.Proofs.YtppfgepoegicgaaGreatDoor
namespace Go.Proofs.YtppfgepoegicgaaGreatDoor
open Go Go.RowKit

def Blk (w : World) (g : Nat) (t : TypeId) (cs : List Value) : Prop := w.heap[g]? = some (.cells cs.toArray t (0, 0))

section
variable {w w' : World} {g : Nat} {t : TypeId} {cs : List Value}
theorem Blk.lt (h : Blk w g t cs) : g < w.heap.size := by
  rcases Nat.lt_or_ge g w.heap.size with hlt | hge
  · exact hlt
  · unfold Blk at h; rw [Array.getElem?_eq_none hge] at h; cases h
theorem Blk.cell (h : Blk w g t cs) (i : Nat) : w.cell? ⟨g, i, none⟩ = cs[i]? := by
  have := cell_of_row w g i cs.toArray t (0, 0) h
  simpa using this
theorem Blk.frozen (h : Blk w g t cs) (i : Nat) : w.frozen? ⟨g, i, none⟩ = false := by
  unfold Blk at h
  simp [World.frozen?, h]
theorem Blk.new (w : World) (t : TypeId) (cs : List Value) : Blk (w.alloc (.cells cs.toArray t)) w.heap.size t cs := heap_alloc_new w _
theorem Blk.drewN (h : Blk w g t cs) (n : Nat) : Blk (w.drewN n) g t cs := h
theorem Blk.drew (h : Blk w g t cs) : Blk w.drew g t cs := h
theorem Blk.same (h : Blk w g t cs) (hk : w'.heap[g]? = w.heap[g]?) : Blk w' g t cs := hk.trans h
theorem Blk.alloc (h : Blk w g t cs) (o : Obj) : Blk (w.alloc o) g t cs := h.same (Below.heap_alloc w o g h.lt)
theorem Blk.below (h : Blk w g t cs) (hb : Below w.heap.size w w') : Blk w' g t cs := h.same (hb.block g h.lt)
theorem Blk.set_ (h : Blk w g t cs) (i : Nat) (u : Value) : Blk (w.setCell ⟨g, i, none⟩ u) g t (cs.set i u) := by
  unfold Blk at h ⊢
  simp [World.setCell, Array.getElem?_modify, h]
theorem Blk.far (h : Blk w g t cs) {p : Addr} (hp : g ≠ p.block) (u : Value) : Blk (w.setCell p u) g t cs := h.same (Below.heap_setCell w p u g hp)
end

theorem blk_rules {w : World} {g : Nat} {t : TypeId} {cs : List Value} (h : Blk w g t cs) : (∀ i, w.cell? ⟨g, i, none⟩ = cs[i]?) ∧ (∀ i, w.frozen? ⟨g, i, none⟩ = false) := ⟨h.cell, h.frozen⟩
theorem Blk.set_then {w w2 : World} {g i : Nat} {t : TypeId} {cs : List Value} {u : Value} (h : Blk w g t cs) (hb : Below (w.setCell ⟨g, i, none⟩ u).heap.size (w.setCell ⟨g, i, none⟩ u) w2) : Blk w2 g t (cs.set i u) := (h.set_ i u).below hb
theorem Blk.far_then {w w2 : World} {g : Nat} {t : TypeId} {cs : List Value} {p : Addr} {u : Value} (h : Blk w g t cs) (hne : g ≠ p.block) (hb : Below (w.setCell p u).heap.size (w.setCell p u) w2) : Blk w2 g t cs := (h.far hne u).below hb
/-- Two blocks having been made. -/
theorem boxes2 {w w1 : World} {P R : List Value} {tp tr : TypeId} (hb : Below (w.heap.size + 1 + 1) ((w.alloc (.cells P.toArray tp)).alloc (.cells R.toArray tr)) w1) :
    Below w.heap.size w w1 ∧ w.heap.size + 1 + 1 ≤ w1.heap.size ∧ Blk w1 w.heap.size tp P ∧ Blk w1 (w.heap.size + 1) tr R := by
  have e1 : ∀ (w : World) (o : Obj), (w.alloc o).heap.size = w.heap.size + 1 := fun w o => by simp
  have hb' : Below ((w.alloc (.cells P.toArray tp)).alloc (.cells R.toArray tr)).heap.size ((w.alloc (.cells P.toArray tp)).alloc (.cells R.toArray tr)) w1 := by rw [e1, e1]; exact hb
  obtain ⟨h1, h2, _, _⟩ := bbox2 hb'
  refine ⟨h1, h2, ((Blk.new w tp P).alloc _).below hb', ?_⟩
  have := (Blk.new (w.alloc (.cells P.toArray tp)) tr R).below hb'
  rwa [e1] at this
theorem boxes2_of {w w1 : World} {o1 o2 : Obj} (hb : Below ((w.alloc o1).alloc o2).heap.size ((w.alloc o1).alloc o2) w1) : Below (w.heap.size + 1 + 1) ((w.alloc o1).alloc o2) w1 := by
  have e1 : ∀ (w : World) (o : Obj), (w.alloc o).heap.size = w.heap.size + 1 := fun w o => by simp
  rwa [e1, e1] at hb
/-- One block having been made. -/
theorem boxes1 {w w1 : World} {P : List Value} {tp : TypeId} (hb : Below (w.heap.size + 1) (w.alloc (.cells P.toArray tp)) w1) :
    Below w.heap.size w w1 ∧ w.heap.size + 1 ≤ w1.heap.size ∧ Blk w1 w.heap.size tp P := by
  have e1 : (w.alloc (.cells P.toArray tp)).heap.size = w.heap.size + 1 := by simp
  have hb' : Below (w.alloc (.cells P.toArray tp)).heap.size (w.alloc (.cells P.toArray tp)) w1 := by rw [e1]; exact hb
  obtain ⟨h1, h2, _, _⟩ := bbox hb'
  exact ⟨h1, h2, (Blk.new w tp P).below hb'⟩
theorem boxes1_of {w w1 : World} {o1 : Obj} (hb : Below (w.alloc o1).heap.size (w.alloc o1) w1) : Below (w.heap.size + 1) (w.alloc o1) w1 := by
  have e1 : (w.alloc o1).heap.size = w.heap.size + 1 := by simp
  rwa [e1] at hb
/-- Behind a call, three blocks having been made. -/
theorem boxes3 {w w1 : World} {P R O : List Value} {tp tr to : TypeId} (hb : Below (((w.alloc (.cells P.toArray tp)).alloc (.cells R.toArray tr)).alloc (.cells O.toArray to)).heap.size (((w.alloc (.cells P.toArray tp)).alloc (.cells R.toArray tr)).alloc (.cells O.toArray to)) w1) :
    Below w.heap.size w w1 ∧ w.heap.size + 1 + 1 + 1 ≤ w1.heap.size ∧ Blk w1 w.heap.size tp P ∧ Blk w1 (w.heap.size + 1) tr R ∧ Blk w1 (w.heap.size + 1 + 1) to O := by
  obtain ⟨h1, h2, _, _⟩ := bbox3 hb
  have e1 : ∀ (w : World) (o : Obj), (w.alloc o).heap.size = w.heap.size + 1 := fun w o => by simp
  refine ⟨h1, h2, (((Blk.new w tp P).alloc _).alloc _).below hb, ?_, ?_⟩
  · have := ((Blk.new (w.alloc (.cells P.toArray tp)) tr R).alloc (.cells O.toArray to)).below hb
    rwa [e1] at this
  · have := (Blk.new ((w.alloc (.cells P.toArray tp)).alloc (.cells R.toArray tr)) to O).below hb
    rwa [e1, e1] at this

/-- A slice of n elements of sz cells whose cells are us: its block is its own, and is all that fp0 lists. -/
def OSl (w : World) (sz : Nat) (c : Value) (n : Nat) (us : List Value) (fp0 : List Nat) : Prop :=
  (∃ A cap, c = .slice A n cap ∧ n = 0 ∧ us = [] ∧ fp0 = []) ∨
  (∃ g cap t cs, c = .slice (some ⟨g, 0, none⟩) n cap ∧ 0 < n ∧ n ≤ cap ∧ n ≤ 9223372036854775807 ∧ fp0 = [g] ∧ Blk w g t cs ∧ us.length = n * sz ∧ us <+: cs)

mutual
def OD (w : World) : Dat → Value → List Nat → Prop
  | .int n, c, fp => c = .int .i64 n ∧ fp = []
  | .str s, c, fp => c = .string s ∧ s.size ≤ 9223372036854775807 ∧ fp = []
  | .row sz n cells, c, fp => ∃ us f0 f1, fp = f0 ++ f1 ∧ OSl w sz c n us f0 ∧ ODv w cells us f1
def ODv (w : World) : List Dat → List Value → List Nat → Prop
  | [], us, fp => us = [] ∧ fp = []
  | d :: ds, us, fp => ∃ u us' f1 f2, us = u :: us' ∧ fp = f1 ++ f2 ∧ OD w d u f1 ∧ ODv w ds us' f2
end

theorem OSl.keep {w w' : World} {sz n : Nat} {c : Value} {us : List Value} {fp : List Nat} (hk : ∀ b ∈ fp, w'.heap[b]? = w.heap[b]?) (h : OSl w sz c n us fp) : OSl w' sz c n us fp := by
  rcases h with h | ⟨g, cap, t, cs, h1, h2, h3, h4, h5, h6, h7⟩
  · exact .inl h
  · exact .inr ⟨g, cap, t, cs, h1, h2, h3, h4, h5, h6.same (hk g (by rw [h5]; exact List.mem_singleton.2 rfl)), h7⟩
theorem OSl.lt {w : World} {sz n : Nat} {c : Value} {us : List Value} {fp : List Nat} (h : OSl w sz c n us fp) : ∀ b ∈ fp, b < w.heap.size := by
  rcases h with ⟨_, _, _, _, _, rfl⟩ | ⟨g, cap, t, cs, h1, h2, h3, h4, rfl, h6, h7⟩
  · intro b hb
    cases hb
  · intro b hb
    rw [List.mem_singleton.1 hb]
    exact h6.lt
theorem OSl.reads {w : World} {sz n B : Nat} {c : Value} {us : List Value} {fp : List Nat} (h : OSl w sz c n us fp) (hB : ∀ b ∈ fp, b < B) :
    ∃ A cap, c = .slice A n cap ∧ (n ≤ cap ∨ n = 0) ∧ n ≤ 9223372036854775807 ∧ Reads w B sz A n us := by
  rcases h with ⟨A, cap, rfl, rfl, rfl, rfl⟩ | ⟨g, cap, t, cs, rfl, h2, h3, h4, rfl, h6, h7, h8⟩
  · exact ⟨A, cap, rfl, .inr rfl, by omega, Reads.none_ A⟩
  · refine ⟨_, cap, rfl, .inl h3, h4, h7, fun _ => ⟨_, rfl, hB g (List.mem_singleton.2 rfl), fun j u hj => ?_⟩⟩
    have e : (⟨g, 0, none⟩ : Addr).add j = ⟨g, j, none⟩ := by unfold Addr.add; split <;> simp_all
    rw [e, h6.cell]
    obtain ⟨r, rfl⟩ := h8
    rw [List.getElem?_append_left (List.getElem?_eq_some_iff.1 hj).1]
    exact hj

mutual
theorem OD.keep {w w' : World} : ∀ (d : Dat) (c : Value) (fp : List Nat), (∀ b ∈ fp, w'.heap[b]? = w.heap[b]?) → OD w d c fp → OD w' d c fp
  | .int _, _, _, _, h => h
  | .str _, _, _, _, h => h
  | .row _ _ cells, _, _, hk, h => by
    obtain ⟨us, f0, f1, rfl, h1, h2⟩ := h
    exact ⟨us, f0, f1, rfl, h1.keep fun b hb => hk b (List.mem_append_left _ hb), ODv.keep cells us f1 (fun b hb => hk b (List.mem_append_right _ hb)) h2⟩
theorem ODv.keep {w w' : World} : ∀ (ds : List Dat) (us : List Value) (fp : List Nat), (∀ b ∈ fp, w'.heap[b]? = w.heap[b]?) → ODv w ds us fp → ODv w' ds us fp
  | [], _, _, _, h => h
  | d :: ds, _, _, hk, h => by
    obtain ⟨u, us', f1, f2, rfl, rfl, h1, h2⟩ := h
    exact ⟨u, us', f1, f2, rfl, rfl, OD.keep d u f1 (fun b hb => hk b (List.mem_append_left _ hb)) h1, ODv.keep ds us' f2 (fun b hb => hk b (List.mem_append_right _ hb)) h2⟩
end
mutual
theorem OD.lt {w : World} : ∀ (d : Dat) (c : Value) (fp : List Nat), OD w d c fp → ∀ b ∈ fp, b < w.heap.size
  | .int _, _, _, h, b, hb => by rw [h.2] at hb; cases hb
  | .str _, _, _, h, b, hb => by rw [h.2.2] at hb; cases hb
  | .row _ _ cells, _, _, h, b, hb => by
    obtain ⟨us, f0, f1, rfl, h1, h2⟩ := h
    rcases List.mem_append.1 hb with hb | hb
    · exact h1.lt b hb
    · exact ODv.lt cells us f1 h2 b hb
theorem ODv.lt {w : World} : ∀ (ds : List Dat) (us : List Value) (fp : List Nat), ODv w ds us fp → ∀ b ∈ fp, b < w.heap.size
  | [], _, _, h, b, hb => by rw [h.2] at hb; cases hb
  | d :: ds, _, _, h, b, hb => by
    obtain ⟨u, us', f1, f2, rfl, rfl, h1, h2⟩ := h
    rcases List.mem_append.1 hb with hb | hb
    · exact OD.lt d u f1 h1 b hb
    · exact ODv.lt ds us' f2 h2 b hb
end
mutual
/-- What is owned can be read. -/
theorem OD.rd {w : World} {B : Nat} : ∀ (d : Dat) (c : Value) (fp : List Nat), (∀ b ∈ fp, b < B) → OD w d c fp → RD w B d c
  | .int _, _, _, _, h => h.1
  | .str _, _, _, _, h => ⟨h.1, h.2.1⟩
  | .row _ _ cells, _, _, hk, h => by
    obtain ⟨us, f0, f1, rfl, h1, h2⟩ := h
    obtain ⟨A, cap, e, h3, h4, h5⟩ := h1.reads fun b hb => hk b (List.mem_append_left _ hb)
    exact ⟨A, cap, us, e, by omega, h4, h5, ODv.rd cells us f1 (fun b hb => hk b (List.mem_append_right _ hb)) h2⟩
theorem ODv.rd {w : World} {B : Nat} : ∀ (ds : List Dat) (us : List Value) (fp : List Nat), (∀ b ∈ fp, b < B) → ODv w ds us fp → RDv w B ds us
  | [], _, _, _, h => h.1
  | d :: ds, _, _, hk, h => by
    obtain ⟨u, us', f1, f2, rfl, rfl, h1, h2⟩ := h
    exact ⟨u, us', rfl, OD.rd d u f1 (fun b hb => hk b (List.mem_append_left _ hb)) h1, ODv.rd ds us' f2 (fun b hb => hk b (List.mem_append_right _ hb)) h2⟩
end
theorem ODv.length_eq {w : World} : ∀ {ds : List Dat} {us : List Value} {fp : List Nat}, ODv w ds us fp → us.length = ds.length
  | [], _, _, h => by rw [h.1]; rfl
  | _ :: _, _, _, ⟨_, _, _, _, e, _, _, h⟩ => by rw [e]; simp [ODv.length_eq h]
theorem ODv.append {w : World} {es : List Dat} {us2 : List Value} {f2 : List Nat} : ∀ {ds : List Dat} {us1 : List Value} {f1 : List Nat}, ODv w ds us1 f1 → ODv w es us2 f2 → ODv w (ds ++ es) (us1 ++ us2) (f1 ++ f2)
  | [], _, _, h, k => by rw [h.1, h.2]; exact k
  | _ :: _, _, _, ⟨u, us', g1, g2, e1, e2, h1, h2⟩, k => by
    rw [e1, e2]
    exact ⟨u, us' ++ us2, g1, g2 ++ f2, rfl, by rw [List.append_assoc], h1, ODv.append h2 k⟩

theorem ODv.rd' {w : World} {ds : List Dat} {us : List Value} {fp : List Nat} (h : ODv w ds us fp) : RDv w w.heap.size ds us := ODv.rd ds us fp (ODv.lt ds us fp h) h
theorem OD.rd' {w : World} {d : Dat} {c : Value} {fp : List Nat} (h : OD w d c fp) : RD w w.heap.size d c := OD.rd d c fp (OD.lt d c fp h) h
/-- Made behind world w: its blocks are new, each once. -/
def Fresh (w w' : World) (fp : List Nat) : Prop := fp.Nodup ∧ ∀ b ∈ fp, w.heap.size ≤ b ∧ b < w'.heap.size
theorem Fresh.nil (w w' : World) : Fresh w w' [] := ⟨List.nodup_nil, fun _ h => by cases h⟩
theorem Fresh.more {w w1 w2 : World} {fp : List Nat} (h : Fresh w w1 fp) (hz : w1.heap.size ≤ w2.heap.size) : Fresh w w2 fp := ⟨h.1, fun b hb => ⟨(h.2 b hb).1, Nat.lt_of_lt_of_le (h.2 b hb).2 hz⟩⟩
theorem Fresh.from_ {w0 w w1 : World} {fp : List Nat} (h : Fresh w w1 fp) (hz : w0.heap.size ≤ w.heap.size) : Fresh w0 w1 fp := ⟨h.1, fun b hb => ⟨Nat.le_trans hz (h.2 b hb).1, (h.2 b hb).2⟩⟩
theorem Fresh.append {w w1 w2 : World} {f1 f2 : List Nat} (h1 : Fresh w w1 f1) (h2 : Fresh w1 w2 f2) (hz : w.heap.size ≤ w1.heap.size) (hz2 : w1.heap.size ≤ w2.heap.size) : Fresh w w2 (f1 ++ f2) := by
  refine ⟨List.nodup_append.2 ⟨h1.1, h2.1, fun a ha b hb e => ?_⟩, fun b hb => ?_⟩
  · have := (h1.2 a ha).2
    have := (h2.2 b hb).1
    omega
  · rcases List.mem_append.1 hb with hb | hb
    · have := h1.2 b hb
      omega
    · have := h2.2 b hb
      omega

/-! ### make, and a loop that fills what was made -/
def zeros (n : Nat) (z : List Value) : List Value := (List.replicate n z).flatten
theorem zeros_succ (n : Nat) (z : List Value) : zeros (n + 1) z = z ++ zeros n z := by simp [zeros, List.replicate_succ]
theorem zeros_zero (z : List Value) : zeros 0 z = [] := rfl
theorem zeros_length (n : Nat) (z : List Value) : (zeros n z).length = n * z.length := by
  induction n with
  | zero => simp [zeros]
  | succ n ih => rw [zeros_succ, List.length_append, ih, Nat.succ_mul, Nat.add_comm]

theorem madeCells_zeros (z : Array Value) (n : Nat) : (madeCells z (n * z.size)).toList = zeros n z.toList := by
  apply List.ext_getElem?
  induction n with
  | zero => intro i; simp [madeCells, zeros]
  | succ n ih =>
    intro i
    rw [zeros_succ]
    by_cases hi : i < z.size
    · have h1 : i < (n + 1) * z.size := by rw [Nat.succ_mul]; omega
      rw [List.getElem?_append_left (by simpa using hi)]
      simp [madeCells, h1, hi, Nat.mod_eq_of_lt hi]
    · rw [List.getElem?_append_right (by simpa using hi)]
      have e := ih (i - z.toList.length)
      rw [← e]
      simp only [madeCells, Array.getElem?_toList, Array.getElem?_map, Array.length_toList]
      by_cases h2 : i < (n + 1) * z.size
      · have h3 : i - z.size < n * z.size := by rw [Nat.succ_mul] at h2; omega
        have h4 : (i - z.size) % z.size = i % z.size := (Nat.mod_eq_sub_mod (by omega)).symm
        simp [h2, h3, h4]
      · have h3 : ¬ i - z.size < n * z.size := by rw [Nat.succ_mul] at h2; omega
        simp [h2, h3]

theorem info_parts' {P : Program} {e : TypeId} {z : Value} {size bytes : Nat} (h : (P.info? e).map (fun i => (i.zero, i.size, i.bytes)) = some (some z, size, bytes)) :
    ∃ i, P.info? e = some i ∧ i.zero = some z ∧ i.size = size ∧ i.bytes = bytes := by
  obtain ⟨i, hi, hzz⟩ := Option.map_eq_some_iff.1 h
  simp only [Prod.mk.injEq] at hzz
  exact ⟨i, hi, hzz.1, hzz.2.1, hzz.2.2⟩
/-- make([]T, n): the new block is n times the zero value's cells. -/
theorem make_row {P : Program} {t e : TypeId} {z : Value} {size bytes : Nat} (zs : List Value) (ht : P.underlying t = some (.slice e)) (hinfo : (P.info? e).map (fun i => (i.zero, i.size, i.bytes)) = some (some z, size, bytes)) (hzs : z.cells = zs.toArray) (hsz : zs.length = size)
    (n : Nat) (hbytes : bytes * n ≤ 281474976710656) (h63 : n ≤ 9223372036854775807) :
    ∀ w : World, (Instr.makeSlice t (.int .i64 (n : Int)) (.int .i64 (n : Int))).run P w = .ok (.slice (some ⟨w.heap.size, 0, none⟩) n n) (w.alloc (.cells (zeros n zs).toArray e)) := by
  intro w
  obtain ⟨i, hi, hz, hs, hb⟩ := info_parts' hinfo
  have hb' : (i.bytes : Int) * (n : Int) ≤ 281474976710656 := by
    rw [hb]
    have h : ((bytes * n : Nat) : Int) ≤ 281474976710656 := by omega
    rwa [Int.natCast_mul] at h
  have hr := run_make (P := P) w t e i z ht hi hz .i64 .i64 n n (by omega) (by omega) hb' (by omega)
  simp only [Int.toNat_natCast] at hr
  have e1 := madeCells_zeros z.cells n
  rw [hzs] at e1
  have e2 : (zs.toArray).size = size := by simpa using hsz
  rw [e2] at e1
  rw [hr, hs, hzs]
  congr 3
  rw [← e1]

def setAll (w : World) (g : Nat) : Nat → List Value → World
  | _, [] => w
  | o, u :: us => setAll (w.setCell ⟨g, o, none⟩ u) g (o + 1) us
theorem Blk.setAll : ∀ {w : World} {g : Nat} {t : TypeId} (news : List Value) {pre old rest : List Value}, old.length = news.length → Blk w g t (pre ++ (old ++ rest)) → Blk (setAll w g pre.length news) g t (pre ++ (news ++ rest))
  | _, _, _, [], pre, old, rest, hl, h => by
    have : old = [] := List.eq_nil_of_length_eq_zero (by simpa using hl)
    subst this
    exact h
  | w, g, t, u :: news, pre, old, rest, hl, h => by
    match old, hl with
    | x :: old, hl =>
      have h1 := h.set_ pre.length u
      have e : (pre ++ ((x :: old) ++ rest)).set pre.length u = (pre ++ [u]) ++ (old ++ rest) := by
        rw [List.set_append_right _ _ (Nat.le_refl _)]
        simp
      rw [e] at h1
      have h2 := Blk.setAll news (by simpa using hl) h1
      simp only [List.length_append, List.length_cons, List.length_nil, Nat.zero_add, List.append_assoc, List.cons_append, List.nil_append] at h2
      exact h2
theorem setAll_other : ∀ (us : List Value) (w : World) (g o b : Nat), b ≠ g → (setAll w g o us).heap[b]? = w.heap[b]?
  | [], _, _, _, _, _ => rfl
  | u :: us, w, g, o, b, h => by
    rw [setAll, setAll_other us _ g (o + 1) b h]
    exact Below.heap_setCell w ⟨g, o, none⟩ u b h
theorem setAll_size : ∀ (us : List Value) (w : World) (g o : Nat), (setAll w g o us).heap.size = w.heap.size
  | [], _, _, _ => rfl
  | u :: us, w, g, o => by rw [setAll, setAll_size us]; simp [World.setCell]
theorem setAll_below : ∀ (us : List Value) {w0 w : World} {B g o : Nat}, B ≤ g → Below B w0 w → Below B w0 (setAll w g o us)
  | [], _, _, _, _, _, _, h => h
  | u :: us, _, _, _, g, o, hg, h => setAll_below us hg (h.setCell (p := ⟨g, o, none⟩) hg u)

/-- After k rounds of 'out[k] = ..' over a block made for n elements. -/
def ToInv (wr : World) (g t sz : Nat) (z : List Value) (n k : Nat) (ds : List Dat) : Prop :=
  ∃ us fp, Blk wr g t (us ++ zeros (n - k) z) ∧ us.length = k * sz ∧ ODv wr ds us fp ∧ fp.Nodup ∧ ∀ b ∈ fp, g < b ∧ b < wr.heap.size
theorem ToInv.start (w : World) (t sz : Nat) (z : List Value) (n : Nat) : ToInv (w.alloc (.cells (zeros n z).toArray t)) w.heap.size t sz z n 0 [] :=
  ⟨[], [], Blk.new w t _, by simp, ⟨rfl, rfl⟩, List.nodup_nil, fun _ h => by cases h⟩
theorem ToInv.step {wr w1 : World} {g t sz n k : Nat} {z : List Value} {ds ds1 : List Dat} {us1 : List Value} {f1 : List Nat} (h : ToInv wr g t sz z n k ds) (hk : k < n) (hz : z.length = sz)
    (hb : Below wr.heap.size wr w1) (h1 : ODv w1 ds1 us1 f1) (hl : us1.length = sz) (hf : Fresh wr w1 f1) :
    ToInv (setAll w1 g (k * sz) us1) g t sz z n (k + 1) (ds ++ ds1) := by
  obtain ⟨us, fp, hB, hu, hO, hN, hF⟩ := h
  have hg := hB.lt
  have hB1 := hB.below hb
  obtain ⟨m, hm⟩ : ∃ m, n - k = m + 1 := ⟨n - k - 1, by omega⟩
  rw [hm, zeros_succ] at hB1
  have hB2 := Blk.setAll us1 (by omega) hB1
  rw [hu] at hB2
  have hzb := hb.size
  refine ⟨us ++ us1, fp ++ f1, ?_, ?_, ?_, ?_, ?_⟩
  · rw [show n - (k + 1) = m by omega, List.append_assoc]
    exact hB2
  · rw [List.length_append, hu, hl, Nat.succ_mul]
  · refine ODv.append (ODv.keep ds us fp (fun b hb1 => ?_) hO) (ODv.keep ds1 us1 f1 (fun b hb1 => setAll_other _ _ _ _ _ ?_) h1)
    · have := hF b hb1
      rw [setAll_other _ _ _ _ _ (by omega)]
      exact hb.block b this.2
    · have := (hf.2 b hb1).1
      omega
  · refine List.nodup_append.2 ⟨hN, hf.1, fun a ha b hb e => ?_⟩
    have := (hF a ha).2
    have := (hf.2 b hb).1
    omega
  · intro b hb1
    rw [setAll_size]
    rcases List.mem_append.1 hb1 with hb1 | hb1
    · have := hF b hb1
      omega
    · have := hf.2 b hb1
      omega
/-- The cells that the next round writes are there. -/
theorem ToInv.there {wr : World} {g t sz n k : Nat} {z : List Value} {ds : List Dat} (h : ToInv wr g t sz z n k ds) (hk : k < n) (hz : z.length = sz) (j : Nat) (hj : j < sz) :
    (∃ x, wr.cell? ⟨g, k * sz + j, none⟩ = some x) ∧ wr.frozen? ⟨g, k * sz + j, none⟩ = false := by
  obtain ⟨us, fp, hB, hu, _⟩ := h
  obtain ⟨m, hm⟩ : ∃ m, n - k = m + 1 := ⟨n - k - 1, by omega⟩
  rw [hm, zeros_succ] at hB
  refine ⟨⟨z[j]'(by omega), ?_⟩, hB.frozen _⟩
  rw [hB.cell, List.getElem?_append_right (by omega), hu, Nat.add_sub_cancel_left, List.getElem?_append_left (by omega)]
  exact List.getElem?_eq_getElem (by omega)
theorem ToInv.lt {wr : World} {g t sz n k : Nat} {z : List Value} {ds : List Dat} (h : ToInv wr g t sz z n k ds) : g < wr.heap.size := by
  obtain ⟨us, fp, hB, _⟩ := h
  exact hB.lt
theorem ToInv.below {wr w1 : World} {g t sz n k : Nat} {z : List Value} {ds : List Dat} (h : ToInv wr g t sz z n k ds) (hb : Below wr.heap.size wr w1) : ToInv w1 g t sz z n k ds := by
  obtain ⟨us, fp, hB, hu, hO, hN, hF⟩ := h
  have := hb.size
  exact ⟨us, fp, hB.below hb, hu, ODv.keep ds us fp (fun b h => hb.block b (hF b h).2) hO, hN, fun b h => ⟨(hF b h).1, by have := (hF b h).2; omega⟩⟩
theorem ToInv.done {w wr : World} {g t sz n : Nat} {z : List Value} {ds : List Dat} (h : ToInv wr g t sz z n n ds) (hg : w.heap.size ≤ g) (hn : n ≤ 9223372036854775807) :
    ∃ fp, OD wr (.row sz n ds) (.slice (some ⟨g, 0, none⟩) n n) fp ∧ Fresh w wr fp := by
  obtain ⟨us, fp, hB, hu, hO, hN, hF⟩ := h
  have hlt := hB.lt
  rw [Nat.sub_self, zeros_zero, List.append_nil] at hB
  rcases Nat.eq_zero_or_pos n with h0 | h0
  · subst h0
    have : us = [] := List.eq_nil_of_length_eq_zero (by simpa using hu)
    subst this
    exact ⟨fp, ⟨[], [], fp, rfl, .inl ⟨_, _, rfl, rfl, rfl, rfl⟩, hO⟩, hN, fun b hb => by have := hF b hb; omega⟩
  · refine ⟨g :: fp, ⟨us, [g], fp, rfl, .inr ⟨g, n, t, us, rfl, h0, Nat.le_refl _, hn, rfl, hB, hu, ⟨[], by simp⟩⟩, hO⟩, List.nodup_cons.2 ⟨fun h => ?_, hN⟩, fun b hb => ?_⟩
    · have := hF g h
      omega
    · rcases List.mem_cons.1 hb with rfl | hb
      · omega
      · have := hF b hb
        omega
end Go.Proofs.YtppfgepoegicgaaGreatDoor
namespace Go.Proofs.YtppfgepoegicgaaGreatDoor
open Go Go.RowKit

mutual
def szD : Dat → Int → Int
  | .int _, l => l
  | .str s, l => if l - s.size < 0 then -1 else l - s.size
  | .row _ n cells, l => if l - n < 0 then -1 else szDs cells (l - n)
def szDs : List Dat → Int → Int
  | [], l => l
  | d :: ds, l => if szD d l < 0 then -1 else szDs ds (szD d l)
end

theorem szDs_str (s : ByteArray) (r : List ByteArray) (l : Int) : szDs (strDs (s :: r)) l = if l - s.size < 0 then -1 else szDs (strDs r) (l - s.size) := by
  simp only [strDs, szDs, szD]
  by_cases h : l - (s.size : Int) < 0
  · simp [h]
  · simp [h]

set_option maxHeartbeats 1000000 in
theorem szStringS_calls (ss : List ByteArray) (A : Option Addr) (c : Nat) (left : Int) (w : World) (B : Nat) (hB : B ≤ w.heap.size) (h : RD w B (.row 1 ss.length (strDs ss)) (.slice A ss.length c)) (h0 : 0 ≤ left) (h1 : left ≤ 1048576) :
    Calls Tryz.prog 27 #[.slice A ss.length c, .int .i64 left] w fun e w' => e = .returned (.int .i64 (szD (.row 1 ss.length (strDs ss)) left)) ∧ Below w.heap.size w w' := by
  have hn := h.len
  have H := Lib.hid h
  clear h
  go_enter Tryz.func27, Tryz.ntmps27
  by_cases hs : left - (ss.length : Int) < 0
  · have HR := Lib.hid (show szD (.row 1 ss.length (strDs ss)) left = -1 by simp [szD, hs])
    go_wp2
    go_ret
    exact ⟨by rw [HR.out]; rfl, Below.refl _ _⟩
  · have HR := Lib.hid (show szD (.row 1 ss.length (strDs ss)) left = szDs (strDs ss) (left - ss.length) by simp [szD, hs])
    go_wp2
    go_loopw [1, 5] (fun v i w' => ∃ (k : Nat) (l : Int), k ≤ ss.length ∧ v = .int .i64 l ∧ i = .int .i64 k ∧ 0 ≤ l ∧ l ≤ 1048576 ∧ Hid (szDs (strDs (ss.drop k)) l = szDs (strDs ss) (left - ss.length)) ∧ w' = w) (fun _ i _ => ss.length - (intOf i).toNat)
    case atStart => exact ⟨0, _, by omega, rfl, rfl, by omega, by omega, rfl, rfl⟩
    case round =>
      obtain ⟨k, l, hk, rfl, rfl, hl0, hl1, HI, rfl⟩ := hrel
      by_cases hlt : k < ss.length
      · obtain ⟨ad, s0, rfl, hb, hc, hs0, hd⟩ := row1_at H.out rfl hlt
        have h2 := HI.out
        clear HI
        rw [hd.out, szDs_str] at h2
        by_cases hs2 : l - (s0.size : Int) < 0
        · rw [if_pos hs2] at h2
          have HI := Lib.hid h2
          clear h2
          go_wp2
          go_ret
          exact ⟨by rw [HR.out, ← HI.out]; rfl, Below.refl _ _⟩
        · rw [if_neg hs2] at h2
          have HI := Lib.hid h2
          clear h2
          go_wp2
          go_roundw
          case rel => exact ⟨k + 1, _, by omega, rfl, by go_num, by omega, by omega, HI, trivial⟩
          case measure => simp [intOf]; omega
      · have e : k = ss.length := by omega
        have h2 := HI.out
        clear HI
        rw [e, List.drop_length] at h2
        have HI := Lib.hid h2
        clear h2 e
        go_wp2
        go_ret
        exact ⟨by rw [HR.out, ← HI.out]; rfl, Below.refl _ _⟩

def SzVal (v : Val) : Prop := ∀ (us : List Value) (left : Int) (w : World) (B : Nat), B ≤ w.heap.size → RDv w B (valDs v) us → 0 ≤ left → left ≤ 1048576 →
  Calls Tryz.prog 11 #[.agg us.toArray, .int .i64 left] w fun e w' => e = .returned (.int .i64 (szDs (valDs v) left)) ∧ Below w.heap.size w w'
def SzVals (vs : List Val) : Prop := ∀ (A : Option Addr) (c : Nat) (left : Int) (w : World) (B : Nat), B ≤ w.heap.size → RD w B (.row 5 vs.length (valsDs vs)) (.slice A vs.length c) → 0 ≤ left → left ≤ 1048576 →
  Calls Tryz.prog 28 #[.slice A vs.length c, .int .i64 left] w fun e w' => e = .returned (.int .i64 (szD (.row 5 vs.length (valsDs vs)) left)) ∧ Below w.heap.size w w'
mutual
theorem szD_range : ∀ (d : Dat) (l : Int), 0 ≤ l → -1 ≤ szD d l ∧ szD d l ≤ l
  | .int _, l, h => by simp only [szD]; omega
  | .str s, l, h => by simp only [szD]; split <;> omega
  | .row _ n cells, l, h => by
    simp only [szD]
    split
    · omega
    · have := szDs_range cells (l - n) (by omega)
      omega
theorem szDs_range : ∀ (ds : List Dat) (l : Int), 0 ≤ l → -1 ≤ szDs ds l ∧ szDs ds l ≤ l
  | [], l, h => by simp only [szDs]; omega
  | d :: ds, l, h => by
    have h1 := szD_range d l h
    simp only [szDs]
    split
    · omega
    · have := szDs_range ds (szD d l) (by omega)
      omega
end
theorem szDs_append : ∀ (a b : List Dat) (l : Int), 0 ≤ l → szDs (a ++ b) l = if szDs a l < 0 then -1 else szDs b (szDs a l)
  | [], b, l, h => by
    have e : szDs [] l = l := by simp only [szDs]
    rw [List.nil_append, e, if_neg (by omega)]
  | d :: a, b, l, hl => by
    simp only [List.cons_append, szDs]
    by_cases h : szD d l < 0
    · simp [h]
    · simp [h, szDs_append a b _ (show 0 ≤ szD d l by omega)]

set_option maxHeartbeats 1000000 in
theorem szVals_of (vs : List Val) (ih : ∀ v ∈ vs, SzVal v) : SzVals vs := by
  intro A c left w B hB h h0 h1
  have hn := h.len
  have H := Lib.hid h
  have IH := Lib.hid ih
  clear h ih
  go_enter Tryz.func28, Tryz.ntmps28
  by_cases hs : left - (vs.length : Int) < 0
  · have HR := Lib.hid (show szD (.row 5 vs.length (valsDs vs)) left = -1 by simp [szD, hs])
    go_wp2
    go_ret
    exact ⟨by rw [HR.out]; rfl, Below.refl _ _⟩
  · have HR := Lib.hid (show szD (.row 5 vs.length (valsDs vs)) left = szDs (valsDs vs) (left - vs.length) by simp [szD, hs])
    go_wp2
    go_loopw [1, 5] (fun v i w' => ∃ (k : Nat) (l : Int), k ≤ vs.length ∧ v = .int .i64 l ∧ i = .int .i64 k ∧ 0 ≤ l ∧ l ≤ 1048576 ∧ Hid (szDs (valsDs (vs.drop k)) l = szDs (valsDs vs) (left - vs.length)) ∧ Below w.heap.size w w') (fun _ i _ => vs.length - (intOf i).toNat)
    case atStart => exact ⟨0, _, by omega, rfl, rfl, by omega, by omega, rfl, Below.refl _ _⟩
    case round =>
      obtain ⟨k, l, hk, rfl, rfl, hl0, hl1, HI, hb⟩ := hrel
      have hz := hb.size
      by_cases hlt : k < vs.length
      · obtain ⟨ad, v, c0, c1, c2, c3, c4, rfl, hbl, hv, hm, hd, x0, x1, x2, x3, x4⟩ := row5_at (H.out.upto (hb.mono hB) (Nat.le_refl _)) rfl hlt
        have h2 := HI.out
        clear HI
        rw [hd.out] at h2
        simp only [valsDs] at h2
        rw [szDs_append _ _ _ hl0] at h2
        obtain ⟨m, em⟩ : ∃ m, m = szDs (valDs v) l := ⟨_, rfl⟩
        have hr := szDs_range (valDs v) l hl0
        rw [← em] at h2 hr
        have EM := Lib.hid em
        clear em
        by_cases hs2 : m < 0
        · rw [if_pos hs2] at h2
          have HI := Lib.hid h2
          clear h2
          go_wp2_with fail
          refine (IH.out v hm _ l wr B (by omega) hv hl0 hl1).mono ?_
          rintro e w1 ⟨rfl, hb1⟩
          rw [← EM.out]
          go_wp2
          go_ret
          exact ⟨by rw [HR.out, ← HI.out]; rfl, hb.trans (hb1.mono hz)⟩
        · rw [if_neg hs2] at h2
          have HI := Lib.hid h2
          clear h2
          go_wp2_with fail
          refine (IH.out v hm _ l wr B (by omega) hv hl0 hl1).mono ?_
          rintro e w1 ⟨rfl, hb1⟩
          rw [← EM.out]
          go_wp2
          go_roundw
          case rel => exact ⟨k + 1, _, by omega, rfl, by go_num, by omega, by omega, HI, hb.trans (hb1.mono hz)⟩
          case measure => simp [intOf]; omega
      · have e : k = vs.length := by omega
        have h2 := HI.out
        clear HI
        rw [e, List.drop_length] at h2
        have HI := Lib.hid h2
        clear h2 e
        go_wp2
        go_ret
        exact ⟨by rw [HR.out, ← HI.out]; rfl, hb⟩

theorem szDs_val (kind n : Int) (s : ByteArray) (keys : List ByteArray) (list : List Val) (l : Int) (hl : 0 ≤ l) :
    szDs (valDs (.mk kind n s keys list)) l = if l - s.size < 0 then -1 else if szD (.row 1 keys.length (strDs keys)) (l - s.size) < 0 then -1 else szD (.row 5 list.length (valsDs list)) (szD (.row 1 keys.length (strDs keys)) (l - s.size)) := by
  have e1 : ∀ m : Int, szD (.int kind) m = m := fun m => by simp only [szD]
  have e2 : ∀ m : Int, szD (.int n) m = m := fun m => by simp only [szD]
  have e3 : ∀ m : Int, szDs [] m = m := fun m => by simp only [szDs]
  have e4 : ∀ (d : Dat) (m : Int), 0 ≤ m → (if szD d m < 0 then -1 else szD d m) = szD d m := fun d m hm => by
    have := szD_range d m hm
    split <;> omega
  simp only [valDs, szDs, e1, e2]
  rw [if_neg (by omega), if_neg (by omega)]
  have e5 : szD (.str s) l = if l - s.size < 0 then -1 else l - s.size := by simp only [szD]
  rw [e5]
  by_cases h : l - (s.size : Int) < 0
  · simp [h]
  · rw [if_neg h, if_neg h, if_neg h]
    by_cases h1 : szD (.row 1 keys.length (strDs keys)) (l - s.size) < 0
    · rw [if_pos h1, if_pos h1]
    · rw [if_neg h1, if_neg h1, e4 _ _ (by omega)]

set_option maxHeartbeats 1000000 in
theorem szVal_of (v : Val) (ih : ∀ kind n s keys list, v = .mk kind n s keys list → SzVals list) : SzVal v := by
  intro us left w B hB h h0 h1
  obtain ⟨kind, n, s, keys, list, A1, c1, A2, c2, rfl, rfl, hs, hk, hl⟩ := valDs_open h
  have IH := Lib.hid (ih _ _ _ _ _ rfl)
  clear ih h
  have hR := szDs_val kind n s keys list left h0
  have hbx := fun o => below_box w o
  obtain ⟨m1, em1⟩ : ∃ m, m = szD (.row 1 keys.length (strDs keys)) (left - s.size) := ⟨_, rfl⟩
  obtain ⟨m2, em2⟩ : ∃ m, m = szD (.row 5 list.length (valsDs list)) m1 := ⟨_, rfl⟩
  rw [← em1, ← em2] at hR
  have r1 := szD_range (.row 1 keys.length (strDs keys)) (left - s.size)
  have r2 := szD_range (.row 5 list.length (valsDs list)) m1
  rw [← em1] at r1
  rw [← em2] at r2
  have E1 := Lib.hid em1
  have E2 := Lib.hid em2
  have R1 := Lib.hid r1
  have R2 := Lib.hid r2
  clear em1 em2 r1 r2
  by_cases t0 : left - (s.size : Int) < 0
  · rw [if_pos t0] at hR
    have HR := Lib.hid hR
    clear hR
    go_enter Tryz.func11, Tryz.ntmps11
    go_wp2
    go_ret
    exact ⟨by rw [HR.out]; rfl, hbx _⟩
  · rw [if_neg t0] at hR
    have b1 := R1.out (by omega)
    by_cases t1 : m1 < 0
    · rw [if_pos t1] at hR
      have HR := Lib.hid hR
      clear hR
      go_enter Tryz.func11, Tryz.ntmps11
      go_wp2_with fail
      refine (szStringS_calls keys A1 c1 _ _ B (by simp; omega) (hk.below ((hbx _).mono hB)) (by omega) (by omega)).mono ?_
      rintro e w1 ⟨rfl, hb1⟩
      rw [← E1.out]
      obtain ⟨hb, hz, hc, hf⟩ := bbox hb1
      go_wp2
      go_ret
      exact ⟨by rw [HR.out]; rfl, hb⟩
    · rw [if_neg t1] at hR
      have b2 := R2.out (by omega)
      by_cases t2 : m2 < 0
      all_goals
        have HR := Lib.hid hR
        clear hR
        go_enter Tryz.func11, Tryz.ntmps11
        go_wp2_with fail
        refine (szStringS_calls keys A1 c1 _ _ B (by simp; omega) (hk.below ((hbx _).mono hB)) (by omega) (by omega)).mono ?_
        rintro e w1 ⟨rfl, hb1⟩
        rw [← E1.out]
        obtain ⟨hb, hz, hc, hf⟩ := bbox hb1
        go_wp2_with fail
        refine (IH.out A2 c2 _ _ B (by omega) (hl.below (hb.mono hB)) (by omega) (by omega)).mono ?_
        rintro e w2 ⟨rfl, hb2⟩
        rw [← E2.out]
        go_wp2
        go_ret
      · exact ⟨by rw [HR.out, show m2 = -1 by omega]; rfl, hb.trans (hb2.mono (by omega))⟩
      · exact ⟨by rw [HR.out]; rfl, hb.trans (hb2.mono (by omega))⟩

theorem szVal_calls : ∀ v, SzVal v := Val.ind fun kind n s keys list ih => szVal_of _ fun _ _ _ _ _ e => by
  injection e with e1 e2 e3 e4 e5
  subst e5
  exact szVals_of _ ih
theorem szVals_calls (vs : List Val) : SzVals vs := szVals_of vs fun v _ => szVal_calls v
end Go.Proofs.YtppfgepoegicgaaGreatDoor
namespace Go.Proofs.YtppfgepoegicgaaGreatDoor
open Go Go.RowKit

mutual
/-- No row, and no text, of more than 2^20. -/
def SmallD : Dat → Prop
  | .int _ => True
  | .str s => s.size ≤ 1048576
  | .row _ n cells => n ≤ 1048576 ∧ SmallDs cells
def SmallDs : List Dat → Prop
  | [] => True
  | d :: ds => SmallD d ∧ SmallDs ds
end
mutual
theorem small_of_sz : ∀ (d : Dat) (l : Int), 0 ≤ l → l ≤ 1048576 → 0 ≤ szD d l → SmallD d
  | .int _, _, _, _, _ => trivial
  | .str s, l, h0, h1, h => by
    simp only [szD] at h
    simp only [SmallD]
    split at h <;> omega
  | .row _ n cells, l, h0, h1, h => by
    simp only [szD] at h
    split at h
    · omega
    · exact ⟨by omega, smalls_of_sz cells _ (by omega) (by omega) h⟩
theorem smalls_of_sz : ∀ (ds : List Dat) (l : Int), 0 ≤ l → l ≤ 1048576 → 0 ≤ szDs ds l → SmallDs ds
  | [], _, _, _, _ => trivial
  | d :: ds, l, h0, h1, h => by
    simp only [szDs] at h
    have := szD_range d l h0
    split at h
    · omega
    · exact ⟨small_of_sz d l h0 h1 (by omega), smalls_of_sz ds _ (by omega) (by omega) h⟩
end
theorem smallDs_append : ∀ {a b : List Dat}, SmallDs (a ++ b) ↔ SmallDs a ∧ SmallDs b
  | [], b => by simp [SmallDs]
  | d :: a, b => by simp [SmallDs, smallDs_append (a := a) (b := b), and_assoc]

theorem Tryz.info_string : (Tryz.prog.info? 9).map (fun i => (i.zero, i.size, i.bytes)) = some (some (.string ⟨#[]⟩), 1, 16) := by kernel_rfl

theorem strDs_append : ∀ a b : List ByteArray, strDs (a ++ b) = strDs a ++ strDs b
  | [], _ => rfl
  | s :: a, b => by simp [strDs, strDs_append a b]

set_option maxHeartbeats 1000000 in
theorem toStringS_calls (ss : List ByteArray) (A : Option Addr) (c : Nat) (w : World) (B : Nat) (hB : B ≤ w.heap.size) (h : RD w B (.row 1 ss.length (strDs ss)) (.slice A ss.length c)) (hs : SmallD (.row 1 ss.length (strDs ss))) :
    Calls Tryz.prog 38 #[.slice A ss.length c] w fun e w' => ∃ v fp, e = .returned v ∧ OD w' (.row 1 ss.length (strDs ss)) v fp ∧ Fresh w w' fp ∧ Below w.heap.size w w' := by
  have hn : ss.length ≤ 1048576 := hs.1
  have H := Lib.hid h
  clear h hs
  have hmk := make_row (P := Tryz.prog) [.string ⟨#[]⟩] Tryz.underlying22 Tryz.info_string rfl rfl ss.length (by omega) (by omega)
  go_enter Tryz.func38, Tryz.ntmps38
  go_wp2
  go_loopw [4] (fun i w' => ∃ (k : Nat) (ks : List ByteArray), k ≤ ss.length ∧ i = .int .i64 k ∧ ss = ks ++ ss.drop k ∧ ToInv w' w.heap.size 9 1 [.string ⟨#[]⟩] ss.length k (strDs ks) ∧ Below w.heap.size w w') (fun i _ => ss.length - (intOf i).toNat)
  case atStart => exact ⟨0, [], by omega, rfl, rfl, ToInv.start _ _ _ _ _, below_box _ _⟩
  case round =>
    obtain ⟨k, ks, hk, rfl, hks, hT, hb⟩ := hrel
    by_cases hlt : k < ss.length
    · obtain ⟨ad, s0, rfl, hbl, hc, hs0, hd⟩ := row1_at H.out rfl hlt
      have hc1 := (hb.cell (p := ad.add k) (by rw [block_of_add]; omega)).trans hc
      clear hc
      obtain ⟨⟨x, hx⟩, hfz⟩ := hT.there hlt rfl 0 (by omega)
      rw [Nat.mul_one, Nat.add_zero] at hx hfz
      have hS := hT.step (w1 := wr) (ds1 := [.str s0]) (us1 := [.string s0]) (f1 := []) hlt rfl (Below.refl _ _) ⟨_, _, _, _, rfl, rfl, ⟨rfl, hs0, rfl⟩, rfl, rfl⟩ rfl (Fresh.nil _ _)
      rw [Nat.mul_one] at hS
      have HS := Lib.hid hS
      have HK := Lib.hid hks
      clear hks hS hT
      go_wp2
      go_roundw
      case rel => exact ⟨k + 1, ks ++ [s0], by omega, by go_num, by rw [List.append_assoc, List.singleton_append, ← hd.out]; exact HK.out, by rw [strDs_append]; exact HS.out, hb.setCell (Nat.le_refl _) _⟩
      case measure => simp [intOf]; omega
    · have e : k = ss.length := by omega
      subst e
      rw [List.drop_length, List.append_nil] at hks
      rw [← hks] at hT
      have HT := Lib.hid hT
      clear hks hT
      go_wp2
      go_ret
      obtain ⟨fp, h1, h2⟩ := HT.out.done (Nat.le_refl _) (by omega)
      exact ⟨_, fp, rfl, h1, h2, hb⟩
end Go.Proofs.YtppfgepoegicgaaGreatDoor
namespace Go.Proofs.YtppfgepoegicgaaGreatDoor
open Go Go.RowKit

set_option maxHeartbeats 1000000 in
theorem eqStringS_calls (ss : List ByteArray) (A A' : Option Addr) (c c' : Nat) (w : World) (B : Nat) (hB : B ≤ w.heap.size) (h : RD w B (.row 1 ss.length (strDs ss)) (.slice A ss.length c)) (h' : RD w B (.row 1 ss.length (strDs ss)) (.slice A' ss.length c')) :
    Calls Tryz.prog 47 #[.slice A ss.length c, .slice A' ss.length c'] w fun e w' => e = .returned (.bool true) ∧ Below w.heap.size w w' := by
  have hn := h.len
  have H := Lib.hid h
  have H' := Lib.hid h'
  clear h h'
  go_enter Tryz.func47, Tryz.ntmps47
  go_wp2
  go_loopw [5] (fun i w' => ∃ (k : Nat), k ≤ ss.length ∧ i = .int .i64 k ∧ Below w.heap.size w w') (fun i _ => ss.length - (intOf i).toNat)
  case atStart => exact ⟨0, by omega, rfl, Below.refl _ _⟩
  case round =>
    obtain ⟨k, hk, rfl, hb⟩ := hrel
    by_cases hlt : k < ss.length
    · obtain ⟨ad, s0, rfl, hbl, hc, hs0, hd⟩ := row1_at (H.out.upto (hb.mono hB) (Nat.le_refl _)) rfl hlt
      obtain ⟨ad', s1, rfl, hbl', hc', hs1, hd'⟩ := row1_at (H'.out.upto (hb.mono hB) (Nat.le_refl _)) rfl hlt
      obtain rfl : s0 = s1 := by
        have := hd.out.symm.trans hd'.out
        injection this
      have hb0 : (0 : Int) ≤ (k : Int) := by omega
      have hb1 : (k : Int) < (ss.length : Int) := by omega
      go_wp2
      go_quiet (fail)
      go_wp2
      go_roundw
      case rel => exact ⟨k + 1, by omega, by go_num, below_drewN hb _⟩
      case measure => simp [intOf]; omega
    · go_wp2
      go_ret
      exact ⟨rfl, hb⟩

def EqVal (v : Val) : Prop := ∀ (us us' : List Value) (w : World) (B : Nat), B ≤ w.heap.size → RDv w B (valDs v) us → RDv w B (valDs v) us' →
  Calls Tryz.prog 21 #[.agg us.toArray, .agg us'.toArray] w fun e w' => e = .returned (.bool true) ∧ Below w.heap.size w w'
def EqVals (vs : List Val) : Prop := ∀ (A A' : Option Addr) (c c' : Nat) (w : World) (B : Nat), B ≤ w.heap.size → RD w B (.row 5 vs.length (valsDs vs)) (.slice A vs.length c) → RD w B (.row 5 vs.length (valsDs vs)) (.slice A' vs.length c') →
  Calls Tryz.prog 48 #[.slice A vs.length c, .slice A' vs.length c'] w fun e w' => e = .returned (.bool true) ∧ Below w.heap.size w w'

set_option maxRecDepth 100000 in
set_option maxHeartbeats 1000000 in
theorem eqVals_of (vs : List Val) (ih : ∀ v ∈ vs, EqVal v) : EqVals vs := by
  intro A A' c c' w B hB h h'
  have hn := h.len
  have H := Lib.hid h
  have H' := Lib.hid h'
  have IH := Lib.hid ih
  clear h h' ih
  go_enter Tryz.func48, Tryz.ntmps48
  go_wp2
  go_loopw [5] (fun i w' => ∃ (k : Nat), k ≤ vs.length ∧ i = .int .i64 k ∧ Below w.heap.size w w') (fun i _ => vs.length - (intOf i).toNat)
  case atStart => exact ⟨0, by omega, rfl, Below.refl _ _⟩
  case round =>
    obtain ⟨k, hk, rfl, hb⟩ := hrel
    have hz := hb.size
    by_cases hlt : k < vs.length
    · obtain ⟨ad, v, c0, c1, c2, c3, c4, rfl, hbl, hv, hm, hd, x0, x1, x2, x3, x4⟩ := row5_at (H.out.upto (hb.mono hB) (Nat.le_refl _)) rfl hlt
      obtain ⟨ad', v', c0', c1', c2', c3', c4', rfl, hbl', hv', hm', hd', x0', x1', x2', x3', x4'⟩ := row5_at (H'.out.upto (hb.mono hB) (Nat.le_refl _)) rfl hlt
      obtain rfl : v = v' := by
        have := hd.out.symm.trans hd'.out
        injection this
      have hb0 : (0 : Int) ≤ (k : Int) := by omega
      have hb1 : (k : Int) < (vs.length : Int) := by omega
      go_wp2_with fail
      go_still_tail 8, (by kernel_rfl)
      change wpList _ _ _ _ _ wr.drew
      have hD : Below wr.heap.size wr wr.drew := (Below.refl _ _).drew
      have hBr : B ≤ wr.heap.size := by omega
      go_wp2_with fail
      refine (IH.out v hm _ _ wr.drew B hBr (hv.below (hD.mono hBr)) (hv'.below (hD.mono hBr))).mono ?_
      rintro e w1 ⟨rfl, hb1⟩
      go_wp2
      go_roundw
      case rel => exact ⟨k + 1, by omega, by go_num, hb.trans ((hD.trans hb1).mono hz)⟩
      case measure => simp [intOf]; omega
    · go_wp2
      go_ret
      exact ⟨rfl, hb⟩

set_option maxHeartbeats 1000000 in
theorem eqVal_of (v : Val) (ih : ∀ kind n s keys list, v = .mk kind n s keys list → EqVals list) : EqVal v := by
  intro us us' w B hB h h'
  obtain ⟨kind, n, s, keys, list, A1, c1, A2, c2, rfl, rfl, hs, hk, hl⟩ := valDs_open h
  obtain ⟨_, _, _, _, _, A1', c1', A2', c2', e, rfl, _, hk', hl'⟩ := valDs_open h'
  injection e with e1 e2 e3 e4 e5
  subst e1 e2 e3 e4 e5
  have IH := Lib.hid (ih _ _ _ _ _ rfl)
  clear ih h h'
  have hn1 := hk.len
  have hn2 := hl.len
  go_enter Tryz.func21, Tryz.ntmps21
  go_wp2_with fail
  refine (eqStringS_calls keys A1 A1' c1 c1' _ B (by simp; omega) (hk.below ((below_box2 _ _ _).mono hB)) (hk'.below ((below_box2 _ _ _).mono hB))).mono ?_
  rintro e w1 ⟨rfl, hb1⟩
  obtain ⟨hb, hz, hc, hf⟩ := bbox2 hb1
  clear hb1
  go_wp2_with fail
  refine (IH.out A2 A2' c2 c2' _ B (by omega) (hl.below (hb.mono hB)) (hl'.below (hb.mono hB))).mono ?_
  rintro e w2 ⟨rfl, hb2⟩
  go_wp2
  go_ret
  exact ⟨rfl, hb.trans (hb2.mono (by omega))⟩

theorem eqVal_calls : ∀ v, EqVal v := Val.ind fun kind n s keys list ih => eqVal_of _ fun _ _ _ _ _ e => by
  injection e with e1 e2 e3 e4 e5
  subst e5
  exact eqVals_of _ ih
theorem eqVals_calls (vs : List Val) : EqVals vs := eqVals_of vs fun v _ => eqVal_calls v
end Go.Proofs.YtppfgepoegicgaaGreatDoor
namespace Go.Proofs.YtppfgepoegicgaaGreatDoor
open Go Go.RowKit

theorem Tryz.info_Val : (Tryz.prog.info? 32).map (fun i => (i.zero, i.size, i.bytes)) = some (some (.agg #[.int .i64 0, .int .i64 0, .string ⟨#[]⟩, .slice none 0 0, .slice none 0 0]), 5, 80) := by kernel_rfl

def ToVal (v : Val) : Prop := ∀ (us : List Value) (w : World) (B : Nat), B ≤ w.heap.size → RDv w B (valDs v) us → SmallDs (valDs v) →
  Calls Tryz.prog 16 #[.agg us.toArray] w fun e w' => ∃ vs fp, e = .returned (.agg vs.toArray) ∧ ODv w' (valDs v) vs fp ∧ Fresh w w' fp ∧ Below w.heap.size w w'
def ToVals (vs : List Val) : Prop := ∀ (A : Option Addr) (c : Nat) (w : World) (B : Nat), B ≤ w.heap.size → RD w B (.row 5 vs.length (valsDs vs)) (.slice A vs.length c) → SmallD (.row 5 vs.length (valsDs vs)) →
  Calls Tryz.prog 39 #[.slice A vs.length c] w fun e w' => ∃ v fp, e = .returned v ∧ OD w' (.row 5 vs.length (valsDs vs)) v fp ∧ Fresh w w' fp ∧ Below w.heap.size w w'

theorem valsDs_append : ∀ a b : List Val, valsDs (a ++ b) = valsDs a ++ valsDs b
  | [], _ => rfl
  | s :: a, b => by simp [valsDs, valsDs_append a b]
theorem smallDs_mem : ∀ {vs : List Val} {v : Val}, SmallDs (valsDs vs) → v ∈ vs → SmallDs (valDs v)
  | [], _, _, h => by cases h
  | x :: vs, v, h, hm => by
    have h2 := smallDs_append.1 h
    rcases List.mem_cons.1 hm with rfl | hm
    · exact h2.1
    · exact smallDs_mem h2.2 hm

attribute [local go_sem ↓] Go.wp_at_zero Go.wp_at_succ
set_option maxHeartbeats 1000000 in
theorem toVals_of (vs : List Val) (ih : ∀ v ∈ vs, ToVal v) : ToVals vs := by
  intro A c w B hB h hs
  have hn : vs.length ≤ 1048576 := hs.1
  have hsm := Lib.hid hs.2
  have H := Lib.hid h
  have IH := Lib.hid ih
  clear h hs ih
  have hmk := make_row (P := Tryz.prog) [.int .i64 0, .int .i64 0, .string ⟨#[]⟩, .slice none 0 0, .slice none 0 0] Tryz.underlying30 Tryz.info_Val rfl rfl vs.length (by omega) (by omega)
  go_enter Tryz.func39, Tryz.ntmps39
  go_wp2
  go_loopw [4] (fun i w' => ∃ (k : Nat) (ks : List Val), k ≤ vs.length ∧ i = .int .i64 k ∧ vs = ks ++ vs.drop k ∧ ToInv w' w.heap.size 32 5 [.int .i64 0, .int .i64 0, .string ⟨#[]⟩, .slice none 0 0, .slice none 0 0] vs.length k (valsDs ks) ∧ Below w.heap.size w w') (fun i _ => vs.length - (intOf i).toNat)
  case atStart => exact ⟨0, [], by omega, rfl, rfl, ToInv.start _ _ _ _ _, below_box _ _⟩
  case round =>
    obtain ⟨k, ks, hk, rfl, hks, hT, hb⟩ := hrel
    by_cases hlt : k < vs.length
    · obtain ⟨ad, v, c0, c1, c2, c3, c4, rfl, hbl, hv, hm, hd, x0, x1, x2, x3, x4⟩ := row5_at (H.out.upto (hb.mono hB) (Nat.le_refl _)) rfl hlt
      have HK := Lib.hid hks
      have HT := Lib.hid hT
      clear hks hT
      have hz := hb.size
      go_wp2_with fail
      refine (IH.out v hm _ wr B (by omega) hv (smallDs_mem hsm.out hm)).mono ?_
      rintro e w1 ⟨us1, f1, rfl, hO, hF, hb1⟩
      obtain ⟨d0, d1, d2, A3, n3, c3', A4, n4, c4', rfl⟩ := valDs_shape hO.rd'
      have hT1 := HT.out.below hb1
      have hz1 := hb1.size
      have t0 := hT1.there hlt rfl
      obtain ⟨⟨y0, q0⟩, z0⟩ := t0 0 (by omega)
      obtain ⟨⟨y1, q1⟩, z1⟩ := t0 1 (by omega)
      obtain ⟨⟨y2, q2⟩, z2⟩ := t0 2 (by omega)
      obtain ⟨⟨y3, q3⟩, z3⟩ := t0 3 (by omega)
      obtain ⟨⟨y4, q4⟩, z4⟩ := t0 4 (by omega)
      rw [Nat.add_zero] at q0 z0
      have HS := Lib.hid (HT.out.step hlt rfl hb1 hO rfl hF)
      have HO := Lib.hid hO
      clear hO hT1 t0
      go_wp2
      go_roundw
      case rel => exact ⟨k + 1, ks ++ [v], by omega, by go_num, by rw [List.append_assoc, List.singleton_append, ← hd.out]; exact HK.out, by rw [valsDs_append, show valsDs [v] = valDs v by simp [valsDs]]; exact HS.out, setAll_below (o := k * 5) [_, _, _, _, _] (Nat.le_refl _) (hb.trans (hb1.mono hz))⟩
      case measure => simp [intOf]; omega
    · have e : k = vs.length := by omega
      subst e
      rw [List.drop_length, List.append_nil] at hks
      rw [← hks] at hT
      have HT := Lib.hid hT
      clear hks hT
      go_wp2
      go_ret
      obtain ⟨fp, h1, h2⟩ := HT.out.done (Nat.le_refl _) (by omega)
      exact ⟨_, fp, rfl, h1, h2, hb⟩

set_option maxHeartbeats 1000000 in
theorem toVal_of (v : Val) (ih : ∀ kind n s keys list, v = .mk kind n s keys list → ToVals list) : ToVal v := by
  intro us w B hB h hsm
  obtain ⟨kind, n, s, keys, list, A1, c1, A2, c2, rfl, rfl, hs, hk, hl⟩ := valDs_open h
  have IH := Lib.hid (ih _ _ _ _ _ rfl)
  simp only [valDs, SmallDs] at hsm
  have HS1 := Lib.hid hsm.2.2.2.1
  have HS2 := Lib.hid hsm.2.2.2.2.1
  clear ih h hsm
  go_enter Tryz.func16, Tryz.ntmps16
  have hbx := fun o1 o2 o3 => below_box3 w o1 o2 o3
  go_wp2_with fail
  refine (toStringS_calls keys A1 c1 _ B (by simp; omega) (hk.below ((hbx _ _ _).mono hB)) HS1.out).mono ?_
  rintro e w1 ⟨v1, f1, rfl, hO1, hF1, hb1⟩
  obtain ⟨A3, c3, n3, rfl⟩ := row_shape hO1.rd'
  obtain ⟨hb, hz, bP, bR, bO⟩ := boxes3 (P := [_, _, _, _, _]) (R := [_, _, _, _, _]) (O := [_, _, _, _, _]) hb1
  have HO1 := Lib.hid hO1
  have HF1 := Lib.hid hF1
  have HbP := Lib.hid bP
  have HbR := Lib.hid bR
  have HbO := Lib.hid bO
  obtain ⟨cP, fP⟩ := blk_rules bP
  obtain ⟨cO, fO⟩ := blk_rules bO
  clear hO1 hF1 bP bR bO hb1
  go_wp2_with fail
  refine (IH.out A2 c2 _ B (by simp [World.setCell]; omega) (hl.below ((hb.mono hB).setCell (by simp; omega) _)) HS2.out).mono ?_
  rintro e w2 ⟨v2, f2, rfl, hO2, hF2, hb2⟩
  obtain ⟨A4, c4, n4, rfl⟩ := row_shape hO2.rd'
  obtain ⟨hz2, _, _, hbb, hkk⟩ := bset hb2
  have bR2 := HbR.out.far_then (by simp) hb2
  have bO2 := HbO.out.set_then hb2
  have HO2 := Lib.hid hO2
  have HF2 := Lib.hid hF2
  have HB2 := Lib.hid hbb
  have HKK := Lib.hid hkk
  have HbR2 := Lib.hid bR2
  have HbO2 := Lib.hid bO2
  obtain ⟨cR2, fR2⟩ := blk_rules bR2
  obtain ⟨cO2, fO2⟩ := blk_rules bO2
  clear hO2 hF2 hbb hkk hb2 cP fP cO fO bR2 bO2
  go_wp2
  refine bodyPost_ret (v := .agg #[.int .i64 kind, .int .i64 n, .string s, .slice A3 n3 c3, .slice A4 n4 c4]) (by simp [results, Tryz.results16, go_sem, cR2]) rfl ?_
  obtain ⟨W, eW⟩ : ∃ W, W = setAll (w2.setCell ⟨w.heap.size + 1 + 1, 4, none⟩ (.slice A4 n4 c4)) (w.heap.size + 1) 0 [.int .i64 kind, .int .i64 n, .string s, .slice A3 n3 c3, .slice A4 n4 c4] := ⟨_, rfl⟩
  show ∃ vs fp, _ ∧ ODv (setAll (w2.setCell ⟨w.heap.size + 1 + 1, 4, none⟩ (.slice A4 n4 c4)) (w.heap.size + 1) 0 [.int .i64 kind, .int .i64 n, .string s, .slice A3 n3 c3, .slice A4 n4 c4]) _ vs fp ∧ Fresh w (setAll (w2.setCell ⟨w.heap.size + 1 + 1, 4, none⟩ (.slice A4 n4 c4)) (w.heap.size + 1) 0 [.int .i64 kind, .int .i64 n, .string s, .slice A3 n3 c3, .slice A4 n4 c4]) fp ∧ Below w.heap.size w (setAll (w2.setCell ⟨w.heap.size + 1 + 1, 4, none⟩ (.slice A4 n4 c4)) (w.heap.size + 1) 0 [.int .i64 kind, .int .i64 n, .string s, .slice A3 n3 c3, .slice A4 n4 c4])
  rw [← eW]
  have hsz : W.heap.size = w2.heap.size := by rw [eW, setAll_size]; simp [World.setCell]
  have hblk : ∀ b, b ≠ w.heap.size + 1 → b ≠ w.heap.size + 1 + 1 → W.heap[b]? = w2.heap[b]? := fun b h1 h2 => by
    rw [eW, setAll_other _ _ _ _ _ h1, Below.heap_setCell _ _ _ _ h2]
  have hF1 := HF1.out
  have hF2 := HF2.out
  have hs1 : (((w.alloc (.cells #[.int .i64 kind, .int .i64 n, .string s, .slice A1 keys.length c1, .slice A2 list.length c2] 25)).alloc (.cells #[.int .i64 0, .int .i64 0, .string ⟨#[]⟩, .slice none 0 0, .slice none 0 0] 32)).alloc (.cells #[.int .i64 kind, .int .i64 n, .string s, .slice none 0 0, .slice none 0 0] 32)).heap.size = w.heap.size + 1 + 1 + 1 := by simp
  have hs2 : (w1.setCell ⟨w.heap.size + 1 + 1, 3, none⟩ (.slice A3 n3 c3)).heap.size = w1.heap.size := by simp [World.setCell]
  have g1 : ∀ b ∈ f1, w.heap.size + 1 + 1 + 1 ≤ b ∧ b < w1.heap.size := fun b hb => by
    have := hF1.2 b hb
    rw [hs1] at this
    exact this
  have g2 : ∀ b ∈ f2, w1.heap.size ≤ b ∧ b < w2.heap.size := fun b hb => by
    have := hF2.2 b hb
    rw [hs2] at this
    exact this
  refine ⟨[_, _, _, _, _], f1 ++ f2, rfl, ?_, ⟨List.nodup_append.2 ⟨hF1.1, hF2.1, fun a ha b hb e => ?_⟩, fun b hb => ?_⟩, ?_⟩
  · simp only [valDs]
    have k1 := OD.keep (w' := W) _ _ f1 (fun b hb => by
      have := g1 b hb
      rw [hblk b (by omega) (by omega)]
      exact HKK.out b (by omega) (by show b ≠ w.heap.size + 1 + 1; omega)) HO1.out
    have k2 := OD.keep (w' := W) _ _ f2 (fun b hb => by
      have := g2 b hb
      exact hblk b (by omega) (by omega)) HO2.out
    exact ⟨_, _, [], _, rfl, rfl, ⟨rfl, rfl⟩, _, _, [], _, rfl, rfl, ⟨rfl, rfl⟩, _, _, [], _, rfl, rfl, ⟨rfl, hs, rfl⟩, _, _, f1, _, rfl, rfl, k1, _, _, f2, [], rfl, by simp, k2, rfl, rfl⟩
  · have := g1 a ha
    have := g2 b hb
    omega
  · rw [hsz]
    rcases List.mem_append.1 hb with hb | hb
    · have := g1 b hb
      omega
    · have := g2 b hb
      omega
  · rw [eW]
    exact setAll_below _ (by omega) ((hb.trans (HB2.out _ (by show _ ≤ w.heap.size + 1 + 1; omega) (by omega))).setCell (by show _ ≤ w.heap.size + 1 + 1; omega) _)

theorem toVal_calls : ∀ v, ToVal v := Val.ind fun kind n s keys list ih => toVal_of _ fun _ _ _ _ _ e => by
  injection e with e1 e2 e3 e4 e5
  subst e5
  exact toVals_of _ ih
theorem toVals_calls (vs : List Val) : ToVals vs := toVals_of vs fun v _ => toVal_calls v
end Go.Proofs.YtppfgepoegicgaaGreatDoor
