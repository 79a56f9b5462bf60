/- Plain words for data in memory: how cells read as data, whatever the program. -/
import Derived.WalkKit
import Derived.Deep.AppendLies
import Derived.Deep.Draws
import Derived.Maps.AppendAt
namespace Go.Proofs.YtppfgepoegicgaaDoor
open Go Go.RowKit

/-! ### addresses -/
theorem block_of_add (a : Addr) (n : Nat) : (a.add n).block = a.block := by unfold Addr.add; split <;> rfl
theorem add_of_add (a : Addr) (i j : Nat) : (a.add i).add j = a.add (i + j) := by
  unfold Addr.add
  by_cases hi : i = 0 <;> by_cases hj : j = 0 <;> simp [hi, hj, Nat.add_assoc]
theorem add_pos (a : Addr) (i j : Nat) (hj : j ≠ 0) : (⟨(a.add i).block, (a.add i).off + j, none⟩ : Addr) = a.add (i + j) := by
  unfold Addr.add
  by_cases hi : i = 0
  · simp [hi, hj]
  · simp [hi, Nat.add_assoc]

theorem below_box_ (w : World) (o : Obj) : Below w.heap.size w (w.alloc o) := (Below.refl _ _).alloc (Nat.le_refl _) o

/-! ### texts -/
theorem str_inj {s t : ByteArray} (h : s.toList = t.toList) : s = t := by
  rw [ByteArray.toList_eq, ByteArray.toList_eq] at h
  obtain ⟨⟨a⟩⟩ := s
  obtain ⟨⟨b⟩⟩ := t
  simp at h
  rw [h]
theorem str_ne {s t : ByteArray} (h : s ≠ t) : (s.toList == t.toList) = false := beq_eq_false_iff_ne.2 fun e => h (str_inj e)
theorem str_ne' {s t : ByteArray} (h : s ≠ t) : ¬ s.toList = t.toList := fun e => h (str_inj e)

/-! ### a row of cells that is read -/
def Reads (w : World) (B size : Nat) (A : Option Addr) (n : Nat) (xs : List Value) : Prop :=
  xs.length = n * size ∧ (0 < n → ∃ ad, A = some ad ∧ ad.block < B ∧ ∀ j u, xs[j]? = some u → w.cell? (ad.add j) = some u)

section
variable {w w' : World} {B B' size n : Nat} {A : Option Addr} {xs : List Value}
theorem Reads.none_ (A : Option Addr) : Reads w B size A 0 [] := ⟨by simp, fun h => absurd h (by omega)⟩
theorem Reads.keep (h : Reads w B size A n xs) (hk : ∀ p : Addr, p.block < B → w'.cell? p = w.cell? p) : Reads w' B size A n xs :=
  ⟨h.1, fun hn => by
    obtain ⟨ad, e, hb, hc⟩ := h.2 hn
    exact ⟨ad, e, hb, fun j u hu => (hk _ (by rw [block_of_add]; exact hb)).trans (hc j u hu)⟩⟩
theorem Reads.more (h : Reads w B size A n xs) (hB : B ≤ B') : Reads w B' size A n xs :=
  ⟨h.1, fun hn => by
    obtain ⟨ad, e, hb, hc⟩ := h.2 hn
    exact ⟨ad, e, by omega, hc⟩⟩
end

/-! ### data -/
inductive Dat where
  | int (n : Int)
  | str (s : ByteArray)
  | row (sz n : Nat) (cells : List Dat)

mutual
/-- In world w the cell c reads as d; all that it leads to lies below block B. -/
def RD (w : World) (B : Nat) : Dat → Value → Prop
  | .int n, c => c = .int .i64 n
  | .str s, c => c = .string s ∧ s.size ≤ 9223372036854775807
  | .row sz n cells, c => ∃ A cap us, c = .slice A n cap ∧ n ≤ cap ∧ n ≤ 9223372036854775807 ∧ Reads w B sz A n us ∧ RDv w B cells us
def RDv (w : World) (B : Nat) : List Dat → List Value → Prop
  | [], us => us = []
  | d :: ds, us => ∃ u us', us = u :: us' ∧ RD w B d u ∧ RDv w B ds us'
end

mutual
theorem RD.keep {w w' : World} {B B' : Nat} (hB : B ≤ B') (hk : ∀ p : Addr, p.block < B → w'.cell? p = w.cell? p) : ∀ (d : Dat) (c : Value), RD w B d c → RD w' B' d c
  | .int _, _, h => h
  | .str _, _, h => h
  | .row _ _ cells, _, h => by
    obtain ⟨A, cap, us, h1, h2, h0, h3, h4⟩ := h
    exact ⟨A, cap, us, h1, h2, h0, (h3.keep hk).more hB, RDv.keep hB hk cells us h4⟩
theorem RDv.keep {w w' : World} {B B' : Nat} (hB : B ≤ B') (hk : ∀ p : Addr, p.block < B → w'.cell? p = w.cell? p) : ∀ (ds : List Dat) (us : List Value), RDv w B ds us → RDv w' B' ds us
  | [], _, h => h
  | d :: ds, _, h => by
    obtain ⟨u, us', h1, h2, h3⟩ := h
    exact ⟨u, us', h1, RD.keep hB hk d u h2, RDv.keep hB hk ds us' h3⟩
end

section
variable {w w' : World} {B : Nat} {d : Dat} {c : Value} {ds es : List Dat} {us : List Value}
theorem RD.below (h : RD w B d c) (hb : Below B w w') : RD w' B d c := RD.keep (Nat.le_refl _) (fun _ hp => hb.cell hp) _ _ h
theorem RDv.below (h : RDv w B ds us) (hb : Below B w w') : RDv w' B ds us := RDv.keep (Nat.le_refl _) (fun _ hp => hb.cell hp) _ _ h
theorem RD.upto {B' : Nat} (h : RD w B d c) (hb : Below B w w') (hB : B ≤ B') : RD w' B' d c := RD.keep hB (fun _ hp => hb.cell hp) _ _ h
theorem RDv.upto {B' : Nat} (h : RDv w B ds us) (hb : Below B w w') (hB : B ≤ B') : RDv w' B' ds us := RDv.keep hB (fun _ hp => hb.cell hp) _ _ h
theorem RDv.append_iff : ∀ {ds : List Dat} {us : List Value}, RDv w B (ds ++ es) us ↔ ∃ u1 u2, us = u1 ++ u2 ∧ RDv w B ds u1 ∧ RDv w B es u2
  | [], us => by
    constructor
    · intro h
      exact ⟨[], us, rfl, rfl, h⟩
    · rintro ⟨u1, u2, rfl, rfl, h⟩
      exact h
  | d :: ds, us => by
    constructor
    · rintro ⟨u, us', rfl, h1, h2⟩
      obtain ⟨u1, u2, rfl, h3, h4⟩ := RDv.append_iff.1 h2
      exact ⟨u :: u1, u2, rfl, ⟨u, u1, rfl, h1, h3⟩, h4⟩
    · rintro ⟨u1, u2, rfl, ⟨u, us', rfl, h1, h2⟩, h4⟩
      exact ⟨u, us' ++ u2, rfl, h1, RDv.append_iff.2 ⟨us', u2, rfl, h2, h4⟩⟩
theorem RDv.length_eq : ∀ {ds : List Dat} {us : List Value}, RDv w B ds us → us.length = ds.length
  | [], _, h => by rw [show _ = _ from h]; rfl
  | _ :: ds, _, ⟨_, _, e, _, h⟩ => by rw [e]; simp [RDv.length_eq h]
end

/-! ### the world behind a call -/
/-- All old cells, and all old marks, read as before: rules for the walk. -/
theorem bcell {W w1 : World} (hb : Below W.heap.size W w1) : (∀ b o, b < W.heap.size → w1.cell? ⟨b, o, none⟩ = W.cell? ⟨b, o, none⟩) ∧ (∀ b o, b < W.heap.size → w1.frozen? ⟨b, o, none⟩ = W.frozen? ⟨b, o, none⟩) :=
  ⟨fun b o h => hb.cell (p := ⟨b, o, none⟩) h, fun b o h => hb.frozen (p := ⟨b, o, none⟩) h⟩
theorem below_drewN {B : Nat} {w W : World} (h : Below B w W) (n : Nat) : Below B w (W.drewN n) := ⟨h.os, h.tape, h.output, h.size, h.block⟩

/-- Behind a call in a function that has boxed one struct. -/
theorem bbox {w w1 : World} {o : Obj} (hb : Below (w.alloc o).heap.size (w.alloc o) w1) : Below w.heap.size w w1 ∧ w.heap.size + 1 ≤ w1.heap.size ∧
    (∀ b i, b < w.heap.size + 1 → w1.cell? ⟨b, i, none⟩ = (w.alloc o).cell? ⟨b, i, none⟩) ∧ (∀ b i, b < w.heap.size + 1 → w1.frozen? ⟨b, i, none⟩ = (w.alloc o).frozen? ⟨b, i, none⟩) := by
  have hs : (w.alloc o).heap.size = w.heap.size + 1 := by simp
  have hz := hb.size
  obtain ⟨h1, h2⟩ := bcell hb
  rw [hs] at hz h1 h2
  exact ⟨((Below.refl _ _).alloc (Nat.le_refl _) o).trans (hb.mono (by omega)), hz, h1, h2⟩
theorem below_box (w : World) (o : Obj) : Below w.heap.size w (w.alloc o) := (Below.refl _ _).alloc (Nat.le_refl _) o

/-- Behind a call that follows a store. -/
theorem bset {w1 w2 : World} {p : Addr} {u : Value} (hb : Below (w1.setCell p u).heap.size (w1.setCell p u) w2) : w1.heap.size ≤ w2.heap.size ∧
    (∀ b i, b < w1.heap.size → w2.cell? ⟨b, i, none⟩ = (w1.setCell p u).cell? ⟨b, i, none⟩) ∧ (∀ b i, b < w1.heap.size → w2.frozen? ⟨b, i, none⟩ = (w1.setCell p u).frozen? ⟨b, i, none⟩) ∧
    (∀ B, B ≤ p.block → B ≤ w1.heap.size → Below B w1 w2) ∧ (∀ b, b < w1.heap.size → b ≠ p.block → w2.heap[b]? = w1.heap[b]?) := by
  have hs : (w1.setCell p u).heap.size = w1.heap.size := by simp [World.setCell]
  have hz := hb.size
  have hk := hb.block
  obtain ⟨h1, h2⟩ := bcell hb
  have hb' := hb
  rw [hs] at hz h1 h2 hk hb'
  exact ⟨hz, h1, h2, fun B h3 h4 => ((Below.refl B w1).setCell h3 u).trans (hb'.mono h4), fun b h3 h4 => (hk b h3).trans (Below.heap_setCell w1 p u b h4)⟩
theorem below_box2 (w : World) (o1 o2 : Obj) : Below w.heap.size w ((w.alloc o1).alloc o2) :=
  ((Below.refl _ _).alloc (Nat.le_refl _) o1).alloc (by simp) o2
/-- Behind a call in a function that has made two blocks. -/
theorem bbox2 {w w1 : World} {o1 o2 : Obj} (hb : Below ((w.alloc o1).alloc o2).heap.size ((w.alloc o1).alloc o2) w1) : Below w.heap.size w w1 ∧ w.heap.size + 1 + 1 ≤ w1.heap.size ∧
    (∀ b i, b < w.heap.size + 1 + 1 → w1.cell? ⟨b, i, none⟩ = ((w.alloc o1).alloc o2).cell? ⟨b, i, none⟩) ∧ (∀ b i, b < w.heap.size + 1 + 1 → w1.frozen? ⟨b, i, none⟩ = ((w.alloc o1).alloc o2).frozen? ⟨b, i, none⟩) := by
  have hs : ((w.alloc o1).alloc o2).heap.size = w.heap.size + 1 + 1 := by simp
  have hz := hb.size
  obtain ⟨h1, h2⟩ := bcell hb
  rw [hs] at hz h1 h2
  exact ⟨(below_box2 w o1 o2).trans (hb.mono (by omega)), hz, h1, h2⟩
theorem below_box3 (w : World) (o1 o2 o3 : Obj) : Below w.heap.size w (((w.alloc o1).alloc o2).alloc o3) :=
  (((Below.refl _ _).alloc (Nat.le_refl _) o1).alloc (by simp) o2).alloc (by simp; omega) o3
/-- Behind a call in a function that has made three blocks. -/
theorem bbox3 {w w1 : World} {o1 o2 o3 : Obj} (hb : Below (((w.alloc o1).alloc o2).alloc o3).heap.size (((w.alloc o1).alloc o2).alloc o3) w1) : Below w.heap.size w w1 ∧ w.heap.size + 1 + 1 + 1 ≤ w1.heap.size ∧
    (∀ b i, b < w.heap.size + 1 + 1 + 1 → w1.cell? ⟨b, i, none⟩ = (((w.alloc o1).alloc o2).alloc o3).cell? ⟨b, i, none⟩) ∧ (∀ b i, b < w.heap.size + 1 + 1 + 1 → w1.frozen? ⟨b, i, none⟩ = (((w.alloc o1).alloc o2).alloc o3).frozen? ⟨b, i, none⟩) := by
  have hs : (((w.alloc o1).alloc o2).alloc o3).heap.size = w.heap.size + 1 + 1 + 1 := by simp
  have hz := hb.size
  obtain ⟨h1, h2⟩ := bcell hb
  rw [hs] at hz h1 h2
  exact ⟨(below_box3 w o1 o2 o3).trans (hb.mono (by omega)), hz, h1, h2⟩

/-- Variables in memory: the cells of each listed block begin as listed. -/
def Has (l : List (Nat × List Value)) (w : World) : Prop := ∀ p ∈ l, p.1 < w.heap.size ∧ ∀ i u, p.2[i]? = some u → w.cell? ⟨p.1, i, none⟩ = some u
theorem Has.below {l : List (Nat × List Value)} {w w' : World} (h : Has l w) (hb : Below w.heap.size w w') : Has l w' := fun p hp =>
  ⟨Nat.lt_of_lt_of_le (h p hp).1 hb.size, fun i u hu => (hb.cell (p := ⟨p.1, i, none⟩) (h p hp).1).trans ((h p hp).2 i u hu)⟩
theorem Has.nil (w : World) : Has [] w := fun _ h => by cases h
theorem Has.cons {l : List (Nat × List Value)} {w : World} {g : Nat} {cs : List Value} (h1 : g < w.heap.size) (h2 : ∀ i u, cs[i]? = some u → w.cell? ⟨g, i, none⟩ = some u) (h : Has l w) : Has ((g, cs) :: l) w := fun p hp => by
  rcases List.mem_cons.1 hp with rfl | hp
  · exact ⟨h1, h2⟩
  · exact h p hp
theorem Has.alloc {l : List (Nat × List Value)} {w : World} (h : Has l w) (cs : List Value) (t : TypeId) : Has ((w.heap.size, cs) :: l) (w.alloc (.cells cs.toArray t)) :=
  Has.cons (by simp) (fun i u hu => by
    have := cell_of_row (w.alloc (.cells cs.toArray t)) w.heap.size i cs.toArray t (0, 0) (heap_alloc_new w _)
    rw [this]
    simpa using hu) (h.below (below_box_ w _))
theorem Has.head {l : List (Nat × List Value)} {w : World} {g : Nat} {cs : List Value} (h : Has ((g, cs) :: l) w) (i : Nat) {u : Value} (hu : cs[i]? = some u) : w.cell? ⟨g, i, none⟩ = some u := (h _ List.mem_cons_self).2 i u hu
theorem Has.lt {l : List (Nat × List Value)} {w : World} {g : Nat} {cs : List Value} (h : Has ((g, cs) :: l) w) : g < w.heap.size := (h _ List.mem_cons_self).1
theorem Has.tail {l : List (Nat × List Value)} {w : World} {p : Nat × List Value} (h : Has (p :: l) w) : Has l w := fun q hq => h q (List.mem_cons_of_mem _ hq)

/-- The call returns a bool that says whether p; it has only made new blocks. -/
def PBool (p : Prop) (w : World) (e : Ending) (w' : World) : Prop := ∃ r, e = .returned (.bool r) ∧ (r = true ↔ p) ∧ Below w.heap.size w w'
theorem PBool.yes {p : Prop} {w w' : World} (h : p) (hb : Below w.heap.size w w') : PBool p w (.returned (.bool true)) w' := ⟨true, rfl, ⟨fun _ => h, fun _ => rfl⟩, hb⟩
theorem PBool.no {p : Prop} {w w' : World} (h : ¬ p) (hb : Below w.heap.size w w') : PBool p w (.returned (.bool false)) w' := ⟨false, rfl, ⟨(fun e => by cases e), fun e => absurd e h⟩, hb⟩

/-- The same, the world being as it was. -/
def PSame (p : Prop) (w : World) (e : Ending) (w' : World) : Prop := ∃ r, e = .returned (.bool r) ∧ (r = true ↔ p) ∧ w' = w
theorem PSame.yes {p : Prop} {w : World} (h : p) : PSame p w (.returned (.bool true)) w := ⟨true, rfl, ⟨fun _ => h, fun _ => rfl⟩, rfl⟩
theorem PSame.no {p : Prop} {w : World} (h : ¬ p) : PSame p w (.returned (.bool false)) w := ⟨false, rfl, ⟨(fun e => by cases e), fun e => absurd e h⟩, rfl⟩
theorem PSame.bool {p : Prop} {w w' : World} {e : Ending} (h : PSame p w e w') : PBool p w e w' := by
  obtain ⟨r, h1, h2, rfl⟩ := h
  exact ⟨r, h1, h2, Below.refl _ _⟩
theorem PSame.true_ {p : Prop} {w w' : World} {e : Ending} (hp : p) (h : PSame p w e w') : e = .returned (.bool true) ∧ w' = w := by
  obtain ⟨r, rfl, h2, rfl⟩ := h
  rw [h2.2 hp]
  exact ⟨rfl, rfl⟩
theorem PSame.false_ {p : Prop} {w w' : World} {e : Ending} (hp : ¬ p) (h : PSame p w e w') : e = .returned (.bool false) ∧ w' = w := by
  obtain ⟨r, rfl, h2, rfl⟩ := h
  cases r with
  | true => exact absurd (h2.1 rfl) hp
  | false => exact ⟨rfl, rfl⟩

/-! ### the trees that the program has -/
inductive Val where
  | mk (kind n : Int) (s : ByteArray) (keys : List ByteArray) (list : List Val)

def strDs : List ByteArray → List Dat
  | [] => []
  | s :: r => .str s :: strDs r
mutual
def valDs : Val → List Dat
  | .mk kind n s keys list => [.int kind, .int n, .str s, .row 1 keys.length (strDs keys), .row 5 list.length (valsDs list)]
def valsDs : List Val → List Dat
  | [] => []
  | v :: r => valDs v ++ valsDs r
end

section
variable {w w' : World} {B : Nat}
/-- The k-th text of a row of texts. -/
theorem strDs_at : ∀ {ks : List ByteArray} {us : List Value}, RDv w B (strDs ks) us → us = ks.map Value.string
  | [], _, h => h
  | s :: ks, _, ⟨u, us', e, h1, h2⟩ => by rw [e, strDs_at h2, show u = Value.string s from h1.1]; rfl
theorem strDs_length : ∀ ks : List ByteArray, (strDs ks).length = ks.length
  | [] => rfl
  | _ :: ks => by simp [strDs, strDs_length ks]
theorem strDs_size : ∀ {ks : List ByteArray} {us : List Value}, RDv w B (strDs ks) us → ∀ s ∈ ks, s.size ≤ 9223372036854775807
  | [], _, _, _, h => by cases h
  | _ :: _, _, ⟨_, _, _, h1, h2⟩, x, hx => by
    rcases List.mem_cons.1 hx with rfl | hx
    · exact h1.2
    · exact strDs_size h2 x hx
/-- Round k of a walk over a row of texts. -/
theorem row1_at {ss : List ByteArray} {A : Option Addr} {n c : Nat} (h : RD w B (.row 1 n (strDs ss)) (.slice A n c)) (hn : n = ss.length) {k : Nat} (hk : k < n) :
    ∃ ad s, A = some ad ∧ ad.block < B ∧ w.cell? (ad.add k) = some (.string s) ∧ s.size ≤ 9223372036854775807 ∧ Hid (ss.drop k = s :: ss.drop (k + 1)) := by
  obtain ⟨A', cap, us, e, _, _, ⟨hl, hr⟩, hv⟩ := h
  injection e with e1 e2 e3
  subst e1
  obtain ⟨ad, rfl, hb, hc⟩ := hr (by omega)
  have h2 := strDs_size hv
  have := strDs_at hv
  subst this
  have hk' : k < ss.length := by omega
  refine ⟨ad, ss[k], rfl, hb, hc k _ ?_, h2 _ (List.getElem_mem _), List.drop_eq_getElem_cons hk'⟩
  rw [List.getElem?_map, List.getElem?_eq_getElem hk']
  rfl
theorem RD.len {sz n : Nat} {cells : List Dat} {c : Value} (h : RD w B (.row sz n cells) c) : n ≤ 9223372036854775807 := by
  obtain ⟨_, _, _, _, _, h, _⟩ := h
  exact h
theorem row_shape {sz n : Nat} {cells : List Dat} {c : Value} (h : RD w B (.row sz n cells) c) : ∃ (A : Option Addr) (cap n' : Nat), c = .slice A n' cap := by
  obtain ⟨A, cap, _, e, _⟩ := h
  exact ⟨A, cap, n, e⟩
theorem valDs_open {v : Val} {us : List Value} (h : RDv w B (valDs v) us) : ∃ kind n s keys list A1 c1 A2 c2, v = .mk kind n s keys list ∧ us = [.int .i64 kind, .int .i64 n, .string s, .slice A1 keys.length c1, .slice A2 list.length c2] ∧
    s.size ≤ 9223372036854775807 ∧ RD w B (.row 1 keys.length (strDs keys)) (.slice A1 keys.length c1) ∧ RD w B (.row 5 list.length (valsDs list)) (.slice A2 list.length c2) := by
  obtain ⟨kind, n, s, keys, list⟩ := v
  simp only [valDs] at h
  obtain ⟨_, _, rfl, h0, _, _, rfl, h1, _, _, rfl, h2, u3, _, rfl, h3, u4, _, rfl, h4, rfl⟩ := h
  obtain ⟨A1, c1, us1, e1, r1⟩ := h3
  obtain ⟨A2, c2, us2, e2, r2⟩ := h4
  subst e1 e2
  exact ⟨kind, n, s, keys, list, A1, c1, A2, c2, rfl, by rw [show _ = _ from h0, show _ = _ from h1, show _ = _ from h2.1], h2.2, ⟨A1, c1, us1, rfl, r1⟩, ⟨A2, c2, us2, rfl, r2⟩⟩
theorem valDs_shape {v : Val} {us : List Value} (h : RDv w B (valDs v) us) : ∃ (a b : Int) (s : ByteArray) (A1 : Option Addr) (n1 c1 : Nat) (A2 : Option Addr) (n2 c2 : Nat), us = [.int .i64 a, .int .i64 b, .string s, .slice A1 n1 c1, .slice A2 n2 c2] := by
  obtain ⟨_, _, _, _, _, _, _, _, _, _, e, _⟩ := valDs_open h
  exact ⟨_, _, _, _, _, _, _, _, _, e⟩
theorem valDs_length (v : Val) : (valDs v).length = 5 := by
  obtain ⟨_, _, _, _, _⟩ := v
  rfl
/-- Cells of the k-th element of a row of five-cell elements. -/
theorem cells5 {us0 us2 : List Value} {ad : Addr} {k : Nat} {c0 c1 c2 c3 c4 : Value} (hl : us0.length = k * 5) (hc : ∀ j u, (us0 ++ ([c0, c1, c2, c3, c4] ++ us2))[j]? = some u → w.cell? (ad.add j) = some u) :
    w.cell? (ad.add (k * 5)) = some c0 ∧ w.cell? ⟨(ad.add (k * 5)).block, (ad.add (k * 5)).off + 1, none⟩ = some c1 ∧ w.cell? ⟨(ad.add (k * 5)).block, (ad.add (k * 5)).off + 2, none⟩ = some c2 ∧
    w.cell? ⟨(ad.add (k * 5)).block, (ad.add (k * 5)).off + 3, none⟩ = some c3 ∧ w.cell? ⟨(ad.add (k * 5)).block, (ad.add (k * 5)).off + 4, none⟩ = some c4 := by
  have g : ∀ j u, [c0, c1, c2, c3, c4][j]? = some u → w.cell? (ad.add (k * 5 + j)) = some u := fun j u hj => hc _ u (by
    rw [List.getElem?_append_right (by omega), hl, Nat.add_sub_cancel_left, List.getElem?_append_left (by
      have := (List.getElem?_eq_some_iff.1 hj).1
      exact this)]
    exact hj)
  refine ⟨g 0 _ rfl, ?_, ?_, ?_, ?_⟩
  · rw [add_pos _ _ _ (by omega)]; exact g 1 _ rfl
  · rw [add_pos _ _ _ (by omega)]; exact g 2 _ rfl
  · rw [add_pos _ _ _ (by omega)]; exact g 3 _ rfl
  · rw [add_pos _ _ _ (by omega)]; exact g 4 _ rfl
theorem valsDs_split : ∀ {vs : List Val} {us : List Value} (k : Nat), k < vs.length → RDv w B (valsDs vs) us → ∃ v us0 us1 us2, us = us0 ++ (us1 ++ us2) ∧ us0.length = k * 5 ∧ vs.drop k = v :: vs.drop (k + 1) ∧ v ∈ vs ∧ RDv w B (valDs v) us1
  | [], _, _, h, _ => by simp at h
  | v :: vs, us, 0, _, h => by
    obtain ⟨u1, u2, rfl, h1, h2⟩ := RDv.append_iff.1 h
    exact ⟨v, [], u1, u2, rfl, rfl, rfl, List.mem_cons_self, h1⟩
  | v :: vs, us, k + 1, hk, h => by
    obtain ⟨u1, u2, rfl, h1, h2⟩ := RDv.append_iff.1 h
    obtain ⟨x, a0, a1, a2, rfl, hl, hd, hm, hx⟩ := valsDs_split k (by simpa using hk) h2
    refine ⟨x, u1 ++ a0, a1, a2, by simp, ?_, by simpa using hd, List.mem_cons_of_mem _ hm, hx⟩
    have := RDv.length_eq h1
    rw [valDs_length] at this
    simp [this, hl]
    omega
/-- Round k of a walk over a row of trees. -/
theorem row5_at {vs : List Val} {A : Option Addr} {n c : Nat} (h : RD w B (.row 5 n (valsDs vs)) (.slice A n c)) (hn : n = vs.length) {k : Nat} (hk : k < n) :
    ∃ ad v c0 c1 c2 c3 c4, A = some ad ∧ ad.block < B ∧ RDv w B (valDs v) [c0, c1, c2, c3, c4] ∧ v ∈ vs ∧ Hid (vs.drop k = v :: vs.drop (k + 1)) ∧
    w.cell? (ad.add (k * 5)) = some c0 ∧ w.cell? ⟨(ad.add (k * 5)).block, (ad.add (k * 5)).off + 1, none⟩ = some c1 ∧ w.cell? ⟨(ad.add (k * 5)).block, (ad.add (k * 5)).off + 2, none⟩ = some c2 ∧
    w.cell? ⟨(ad.add (k * 5)).block, (ad.add (k * 5)).off + 3, none⟩ = some c3 ∧ w.cell? ⟨(ad.add (k * 5)).block, (ad.add (k * 5)).off + 4, none⟩ = some c4 := by
  obtain ⟨A', cap, us, e, _, _, ⟨hl, hr⟩, hv⟩ := h
  injection e with e1 e2 e3
  subst e1
  obtain ⟨ad, rfl, hb, hc⟩ := hr (by omega)
  obtain ⟨v, us0, us1, us2, rfl, hl0, hd, hm, hx⟩ := valsDs_split k (by omega) hv
  have h5 := RDv.length_eq hx
  rw [valDs_length] at h5
  match us1, h5 with
  | [c0, c1, c2, c3, c4], _ => exact ⟨ad, v, c0, c1, c2, c3, c4, rfl, hb, hx, hm, hd, cells5 hl0 hc⟩
end

theorem Val.ind {P : Val → Prop} (h : ∀ kind n s keys list, (∀ v ∈ list, P v) → P (.mk kind n s keys list)) : ∀ v, P v := by
  intro v
  have := @Val.rec (fun v => P v) (fun l => ∀ v ∈ l, P v) (fun kind n s keys list ih => h kind n s keys list ih) (fun _ hx => by cases hx) (fun v l h1 h2 x hx => by
    rcases List.mem_cons.1 hx with rfl | hx
    · exact h1
    · exact h2 x hx) v
  exact this
end Go.Proofs.YtppfgepoegicgaaDoor
