/- Data of one's own that are written cell by cell: which blocks a call may have written; a row of cells, its k-th element opened and closed again. -/
import Derived.Test.YtppfgepoegicgaaGreatDoorGa
import Derived.Maps.AppendAt
namespace Go.Proofs.YtppfgepoegicgaaGreatDoor
open Go Go.RowKit

/-- All old blocks but the listed ones are as they were. -/
structure Upd (fp : List Nat) (w w' : World) : Prop where
  os : w'.os = w.os
  tape : w'.tape = w.tape
  output : w'.output = w.output
  size : w.heap.size ≤ w'.heap.size
  block : ∀ b, b < w.heap.size → b ∉ fp → w'.heap[b]? = w.heap[b]?

section
variable {w w' w1 w2 : World} {fp f1 f2 : List Nat} {B : Nat}
theorem Upd.refl (fp : List Nat) (w : World) : Upd fp w w := ⟨rfl, rfl, rfl, Nat.le_refl _, fun _ _ _ => rfl⟩
theorem Upd.trans (h : Upd fp w w1) (k : Upd fp w1 w2) : Upd fp w w2 :=
  ⟨k.os.trans h.os, k.tape.trans h.tape, k.output.trans h.output, Nat.le_trans h.size k.size, fun b hb hn => (k.block b (Nat.lt_of_lt_of_le hb h.size) hn).trans (h.block b hb hn)⟩
theorem Upd.mono (h : Upd f1 w w') (hf : ∀ b ∈ f1, b ∈ f2) : Upd f2 w w' := ⟨h.os, h.tape, h.output, h.size, fun b hb hn => h.block b hb fun hm => hn (hf b hm)⟩
theorem Upd.of_below (h : Below w.heap.size w w') : Upd fp w w' := ⟨h.os, h.tape, h.output, h.size, fun b hb _ => h.block b hb⟩
theorem Upd.setCell (w : World) {p : Addr} (hp : p.block ∈ fp) (u : Value) : Upd fp w (w.setCell p u) :=
  ⟨rfl, rfl, rfl, by simp [World.setCell], fun b _ hn => Below.heap_setCell w p u b fun e => hn (e ▸ hp)⟩
theorem Upd.to_below (h : Upd fp w w') (hf : ∀ b ∈ fp, B ≤ b) (hB : B ≤ w.heap.size) : Below B w w' :=
  ⟨h.os, h.tape, h.output, h.size, fun b hb => h.block b (by omega) fun hm => by have := hf b hm; omega⟩
theorem Upd.more (h : Upd fp w w1) (k : Below w.heap.size w1 w2) : Upd fp w w2 :=
  ⟨k.os.trans h.os, k.tape.trans h.tape, k.output.trans h.output, Nat.le_trans h.size k.size, fun b hb hn => (k.block b hb).trans (h.block b hb hn)⟩
theorem Upd.far (h : Upd fp w w') {f : List Nat} (hl : ∀ b ∈ f, b < w.heap.size) (hd : ∀ b ∈ f, b ∉ fp) : ∀ b ∈ f, w'.heap[b]? = w.heap[b]? := fun b hb => h.block b (hl b hb) (hd b hb)
theorem Upd.blk {g : Nat} {t : TypeId} {cs : List Value} (h : Upd fp w w') (hg : g ∉ fp) (k : Blk w g t cs) : Blk w' g t cs := k.same (h.block g k.lt hg)
end

section
variable {w w' : World} {g : Nat} {t : TypeId} {us0 ue r : List Value}
theorem Blk.mid (h : Blk w g t (us0 ++ (ue ++ r))) {m : Nat} (hl : us0.length = m) (j : Nat) {u : Value} (hj : ue[j]? = some u) : w.cell? ⟨g, m + j, none⟩ = some u := by
  rw [h.cell, List.getElem?_append_right (by omega), hl, Nat.add_sub_cancel_left, List.getElem?_append_left (List.getElem?_eq_some_iff.1 hj).1]
  exact hj
theorem Blk.set_mid (h : Blk w g t (us0 ++ (ue ++ r))) {m : Nat} (hl : us0.length = m) (j : Nat) (hj : j < ue.length) (u : Value) : Blk (w.setCell ⟨g, m + j, none⟩ u) g t (us0 ++ (ue.set j u ++ r)) := by
  have h1 := h.set_ (m + j) u
  rw [List.set_append_right _ _ (by omega), hl, Nat.add_sub_cancel_left, List.set_append_left _ _ hj] at h1
  exact h1
end

theorem ODv.split {w : World} {es : List Dat} : ∀ {ds : List Dat} {us : List Value} {fp : List Nat}, ODv w (ds ++ es) us fp → ∃ u1 u2 f1 f2, us = u1 ++ u2 ∧ fp = f1 ++ f2 ∧ ODv w ds u1 f1 ∧ ODv w es u2 f2
  | [], us, fp, h => ⟨[], us, [], fp, rfl, rfl, ⟨rfl, rfl⟩, h⟩
  | d :: ds, _, _, ⟨u, us', f1, f2, e1, e2, h1, h2⟩ => by
    obtain ⟨u1, u2, g1, g2, rfl, rfl, k1, k2⟩ := ODv.split h2
    exact ⟨u :: u1, u2, f1 ++ g1, g2, by rw [e1]; rfl, by rw [e2, List.append_assoc], ⟨u, u1, f1, g1, rfl, rfl, h1, k1⟩, k2⟩

/-- The k-th element of a row of cells of one's own: opened, and how the row is closed behind it. -/
theorem OD.focus {w : World} {sz n i : Nat} {ds0 es ds2 : List Dat} {A : Option Addr} {c : Nat} {fp : List Nat} (h : OD w (.row sz n (ds0 ++ (es ++ ds2))) (.slice A n c) fp) (h0 : ds0.length = i * sz) (he : es.length = sz) (hsz : 0 < sz) :
    ∃ g t us0 ue us2 f0 fe f2, A = some ⟨g, 0, none⟩ ∧ fp = g :: (f0 ++ (fe ++ f2)) ∧ Blk w g t (us0 ++ (ue ++ us2)) ∧ us0.length = i * sz ∧ ue.length = sz ∧ ODv w es ue fe ∧
      ∀ (w' : World) (es' : List Dat) (ue' : List Value), es'.length = sz → Blk w' g t (us0 ++ (ue' ++ us2)) → ODv w' es' ue' fe → (∀ b ∈ f0 ++ f2, w'.heap[b]? = w.heap[b]?) →
        OD w' (.row sz n (ds0 ++ (es' ++ ds2))) (.slice A n c) fp := by
  obtain ⟨us, fa, fb, rfl, hS, hV⟩ := h
  have hlen := hV.length_eq
  simp only [List.length_append] at hlen
  rcases hS with ⟨_, _, _, _, rfl, _⟩ | ⟨g, cap, t, cs, e, hn, hcap, h63, rfl, hB, hl, sp, rfl⟩
  · simp at hlen; omega
  obtain ⟨us0, ur, f0, fr, rfl, rfl, k0, kr⟩ := hV.split
  obtain ⟨ue, us2, fe, f2, rfl, rfl, ke, k2⟩ := kr.split
  have l0 := k0.length_eq
  have le := ke.length_eq
  have l2 := k2.length_eq
  injection e with e1 e2 e3
  subst e1 e3
  refine ⟨g, t, us0, ue, us2 ++ sp, f0, fe, f2, rfl, rfl, by simpa using hB, by omega, by omega, ke, fun w' es' ue' hes hB' ke' hk => ?_⟩
  have le' := ke'.length_eq
  refine ⟨us0 ++ (ue' ++ us2), [g], f0 ++ (fe ++ f2), rfl, .inr ⟨g, c, t, us0 ++ (ue' ++ (us2 ++ sp)), rfl, hn, hcap, h63, rfl, hB', ?_, sp, by simp⟩, ?_⟩
  · simp only [List.length_append] at hl ⊢
    omega
  · exact ODv.append (ODv.keep _ _ _ (fun b hb => hk b (List.mem_append_left _ hb)) k0) (ODv.append ke' (ODv.keep _ _ _ (fun b hb => hk b (List.mem_append_right _ hb)) k2))
/-- An empty row of one's own. -/
theorem OD.nil_row {w : World} {sz : Nat} {A : Option Addr} {c : Nat} : OD w (.row sz 0 []) (.slice A 0 c) [] := ⟨[], [], [], rfl, .inl ⟨_, _, rfl, rfl, rfl, rfl⟩, rfl, rfl⟩
theorem nodup_parts {f0 fe f2 : List Nat} {g : Nat} (h : (g :: (f0 ++ (fe ++ f2))).Nodup) : g ∉ fe ∧ fe.Nodup ∧ (∀ b ∈ f0 ++ f2, b ∉ fe ∧ b ≠ g) := by
  obtain ⟨h1, h2⟩ := List.nodup_cons.1 h
  obtain ⟨k1, k2, k3⟩ := List.nodup_append.1 h2
  obtain ⟨m1, m2, m3⟩ := List.nodup_append.1 k2
  simp only [List.mem_append, not_or] at h1
  refine ⟨h1.2.1, m1, fun b hb => ?_⟩
  rcases List.mem_append.1 hb with hb | hb
  · exact ⟨fun hm => k3 b hb b (List.mem_append_left _ hm) rfl, fun e => h1.1 (e ▸ hb)⟩
  · exact ⟨fun hm => m3 b hm b hb rfl, fun e => h1.2.2 (e ▸ hb)⟩

/-! ### an element that is being written -/
def Dat.flat : Dat → Prop
  | .row _ _ _ => False
  | _ => True
theorem ODv.set_flat {w : World} {d' : Dat} {u' : Value} (h1 : OD w d' u' []) : ∀ {ds : List Dat} {us : List Value} {fp : List Nat} (j : Nat) {d : Dat}, ds[j]? = some d → d.flat → ODv w ds us fp → ODv w (ds.set j d') (us.set j u') fp
  | [], _, _, j, d, hj, _, _ => by simp at hj
  | x :: ds, _, _, 0, d, hj, hf, ⟨u, us', f1, f2, e1, e2, k1, k2⟩ => by
    simp at hj
    subst hj
    have : f1 = [] := by
      cases x with
      | int n => exact k1.2
      | str s => exact k1.2.2
      | row a b c => exact hf.elim
    subst this
    subst e1 e2
    exact ⟨u', us', [], _, rfl, rfl, h1, k2⟩
  | x :: ds, _, _, j + 1, d, hj, hf, ⟨u, us', f1, f2, e1, e2, k1, k2⟩ => by
    subst e1 e2
    exact ⟨u, us'.set j u', f1, f2, rfl, rfl, k1, ODv.set_flat h1 j (by simpa using hj) hf k2⟩
/-- The j-th cell's own blocks, and how the cells are closed behind it. -/
theorem ODv.pick {w : World} : ∀ {ds : List Dat} {us : List Value} {fp : List Nat} (j : Nat) {d : Dat} {u : Value}, ds[j]? = some d → us[j]? = some u → ODv w ds us fp →
    ∃ fa fj fb, fp = fa ++ (fj ++ fb) ∧ OD w d u fj ∧ ∀ (w' : World) (d' : Dat), OD w' d' u fj → (∀ b ∈ fa ++ fb, w'.heap[b]? = w.heap[b]?) → ODv w' (ds.set j d') us fp
  | [], _, _, j, d, _, hj, _, _ => by simp at hj
  | x :: ds, _, _, 0, d, u0, hj, hu, ⟨u, us', f1, f2, e1, e2, k1, k2⟩ => by
    subst e1 e2
    simp at hj hu
    subst hj
    subst hu
    exact ⟨[], f1, _, rfl, k1, fun w' d' h hk => ⟨u, us', f1, f2, rfl, rfl, h, ODv.keep _ _ _ (fun b hb => hk b (by simpa using hb)) k2⟩⟩
  | x :: ds, _, _, j + 1, d, u0, hj, hu, ⟨u, us', f1, f2, e1, e2, k1, k2⟩ => by
    subst e1 e2
    obtain ⟨fa, fj, fb, rfl, h1, h2⟩ := ODv.pick j (by simpa using hj) (by simpa using hu) k2
    refine ⟨f1 ++ fa, fj, fb, by simp, h1, fun w' d' h hk => ⟨u, us', f1, fa ++ (fj ++ fb), rfl, rfl, OD.keep _ _ _ (fun b hb => hk b (by simp [hb])) k1, h2 w' d' h fun b hb => hk b ?_⟩⟩
    rcases List.mem_append.1 hb with hb | hb <;> simp [hb]

/-- The cells ue of one element, in block g, being written; the element's own blocks are fe. -/
structure Mid (wr : World) (g : Nat) (t : TypeId) (us0 us2 : List Value) (fe : List Nat) (ds : List Dat) (ue : List Value) (W : World) : Prop where
  blk : Blk W g t (us0 ++ (ue ++ us2))
  own : ODv W ds ue fe
  upd : Upd (g :: fe) wr W
  nd : g ∉ fe ∧ fe.Nodup

section
variable {wr W W' : World} {g : Nat} {t : TypeId} {us0 us2 : List Value} {fe : List Nat} {ds : List Dat} {ue : List Value}
theorem Mid.below (h : Mid wr g t us0 us2 fe ds ue W) (hb : Below W.heap.size W W') : Mid wr g t us0 us2 fe ds ue W' :=
  ⟨h.blk.below hb, ODv.keep _ _ _ (fun b hm => hb.block b (ODv.lt _ _ _ h.own b hm)) h.own, h.upd.trans (Upd.of_below hb), h.nd⟩
theorem Mid.cell (h : Mid wr g t us0 us2 fe ds ue W) {m : Nat} (hl : us0.length = m) (j : Nat) {u : Value} (hj : ue[j]? = some u) : W.cell? ⟨g, m + j, none⟩ = some u := h.blk.mid hl j hj
theorem Mid.frozen (h : Mid wr g t us0 us2 fe ds ue W) (i : Nat) : W.frozen? ⟨g, i, none⟩ = false := h.blk.frozen i
theorem Mid.lt (h : Mid wr g t us0 us2 fe ds ue W) : g < W.heap.size := h.blk.lt
/-- A number, or a text, is written into cell j. -/
theorem Mid.set (h : Mid wr g t us0 us2 fe ds ue W) {m : Nat} (hl : us0.length = m) (j : Nat) {d : Dat} (hd : ds[j]? = some d) (hf : d.flat) (d' : Dat) (u' : Value) (hu : ∀ w : World, OD w d' u' []) :
    Mid wr g t us0 us2 fe (ds.set j d') (ue.set j u') (W.setCell ⟨g, m + j, none⟩ u') := by
  have hlen := h.own.length_eq
  have hj : j < ue.length := by
    rw [hlen]
    exact (List.getElem?_eq_some_iff.1 hd).1
  refine ⟨h.blk.set_mid hl j hj u', ODv.set_flat (hu _) j hd hf (ODv.keep _ _ _ (fun b hb => Below.heap_setCell _ _ _ _ fun e => h.nd.1 ((show b = g from e) ▸ hb)) h.own), h.upd.trans (Upd.setCell _ (by simp) _), h.nd⟩
theorem Mid.int (h : Mid wr g t us0 us2 fe ds ue W) {m : Nat} (hl : us0.length = m) (j : Nat) {d : Dat} (hd : ds[j]? = some d) (hf : d.flat) (k : Int) :
    Mid wr g t us0 us2 fe (ds.set j (.int k)) (ue.set j (.int .i64 k)) (W.setCell ⟨g, m + j, none⟩ (.int .i64 k)) := h.set hl j hd hf _ _ fun _ => ⟨rfl, rfl⟩
theorem Mid.str (h : Mid wr g t us0 us2 fe ds ue W) {m : Nat} (hl : us0.length = m) (j : Nat) {d : Dat} (hd : ds[j]? = some d) (hf : d.flat) (s : ByteArray) (hs : s.size ≤ 9223372036854775807) :
    Mid wr g t us0 us2 fe (ds.set j (.str s)) (ue.set j (.string s)) (W.setCell ⟨g, m + j, none⟩ (.string s)) := h.set hl j hd hf _ _ fun _ => ⟨rfl, hs, rfl⟩
/-- A call writes the row behind cell j. -/
theorem Mid.row (h : Mid wr g t us0 us2 fe ds ue W) (j : Nat) {d : Dat} {u : Value} (hd : ds[j]? = some d) (hu : ue[j]? = some u) :
    ∃ fj, OD W d u fj ∧ fj.Nodup ∧ ∀ (W' : World) (d' : Dat), OD W' d' u fj → Upd fj W W' → Mid wr g t us0 us2 fe (ds.set j d') ue W' := by
  obtain ⟨fa, fj, fb, rfl, h1, h2⟩ := h.own.pick j hd hu
  obtain ⟨n1, n2⟩ := h.nd
  obtain ⟨k1, k2, k3⟩ := List.nodup_append.1 n2
  obtain ⟨m1, m2, m3⟩ := List.nodup_append.1 k2
  simp only [List.mem_append, not_or] at n1
  have hlt := ODv.lt _ _ _ h.own
  refine ⟨fj, h1, m1, fun W' d' ho hup => ⟨hup.blk n1.2.1 h.blk, h2 W' d' ho fun b hb => hup.block b (hlt b ?_) ?_, h.upd.trans (hup.mono fun b hb => by simp [hb]), h.nd⟩⟩
  · rcases List.mem_append.1 hb with hb | hb <;> simp [hb]
  · rcases List.mem_append.1 hb with hb | hb
    · exact fun hm => k3 b hb b (List.mem_append_left _ hm) rfl
    · exact fun hm => m3 b hm b hb rfl
end
/-- As 'OD.focus', the element being ready to be written. -/
theorem OD.write {w : World} {sz n i : Nat} {ds0 es ds2 : List Dat} {A : Option Addr} {c : Nat} {fp : List Nat} (h : OD w (.row sz n (ds0 ++ (es ++ ds2))) (.slice A n c) fp) (hnd : fp.Nodup) (h0 : ds0.length = i * sz) (he : es.length = sz) (hsz : 0 < sz) :
    ∃ g t us0 ue us2 fe, A = some ⟨g, 0, none⟩ ∧ us0.length = i * sz ∧ ue.length = sz ∧ Mid w g t us0 us2 fe es ue w ∧
      ∀ (W : World) (es' : List Dat) (ue' : List Value), es'.length = sz → Mid w g t us0 us2 fe es' ue' W → OD W (.row sz n (ds0 ++ (es' ++ ds2))) (.slice A n c) fp ∧ Upd fp w W := by
  have hlt := OD.lt _ _ _ h
  obtain ⟨g, t, us0, ue, us2, f0, fe, f2, rfl, rfl, hB, hl0, hle, ho, hcl⟩ := h.focus h0 he hsz
  obtain ⟨p1, p2, p3⟩ := nodup_parts hnd
  refine ⟨g, t, us0, ue, us2, fe, rfl, hl0, hle, ⟨hB, ho, Upd.refl _ _, p1, p2⟩, fun W es' ue' hes hm => ⟨hcl W es' ue' hes hm.blk hm.own fun b hb => hm.upd.block b (hlt b ?_) ?_, hm.upd.mono fun b hb => ?_⟩⟩
  · rcases List.mem_append.1 hb with hb | hb <;> simp [hb]
  · have := p3 b hb
    simp [this.1, this.2]
  · rcases List.mem_cons.1 hb with rfl | hb
    · simp
    · simp [hb]
theorem len1 {α : Type} {l : List α} (h : l.length = 1) : ∃ a0, l = [a0] := by
  match l, h with
  | [a0], _ => exact ⟨a0, rfl⟩
theorem len4 {α : Type} {l : List α} (h : l.length = 4) : ∃ a0 a1 a2 a3, l = [a0, a1, a2, a3] := by
  match l, h with
  | [a0, a1, a2, a3], _ => exact ⟨a0, a1, a2, a3, rfl⟩
theorem len5 {α : Type} {l : List α} (h : l.length = 5) : ∃ a0 a1 a2 a3 a4, l = [a0, a1, a2, a3, a4] := by
  match l, h with
  | [a0, a1, a2, a3, a4], _ => exact ⟨a0, a1, a2, a3, a4, rfl⟩
theorem len6 {α : Type} {l : List α} (h : l.length = 6) : ∃ a0 a1 a2 a3 a4 a5, l = [a0, a1, a2, a3, a4, a5] := by
  match l, h with
  | [a0, a1, a2, a3, a4, a5], _ => exact ⟨a0, a1, a2, a3, a4, a5, rfl⟩
theorem len9 {α : Type} {l : List α} (h : l.length = 9) : ∃ a0 a1 a2 a3 a4 a5 a6 a7 a8, l = [a0, a1, a2, a3, a4, a5, a6, a7, a8] := by
  match l, h with
  | [a0, a1, a2, a3, a4, a5, a6, a7, a8], _ => exact ⟨a0, a1, a2, a3, a4, a5, a6, a7, a8, rfl⟩
end Go.Proofs.YtppfgepoegicgaaGreatDoor
namespace Go.Proofs.YtppfgepoegicgaaGreatDoor
open Go Go.RowKit

mutual
theorem RD.one {w : World} {B : Nat} : ∀ (d : Dat) (c : Value), RD w B d c → c.oneCell' = true
  | .int _, _, h => by rw [show _ = _ from h]; rfl
  | .str _, _, h => by rw [h.1]; rfl
  | .row _ _ _, _, ⟨_, _, _, e, _⟩ => by rw [e]; rfl
theorem RDv.one {w : World} {B : Nat} : ∀ (ds : List Dat) (us : List Value), RDv w B ds us → ∀ u ∈ us, u.oneCell' = true
  | [], _, h, u, hu => by rw [show _ = _ from h] at hu; cases hu
  | d :: ds, _, ⟨c, us', e, h1, h2⟩, u, hu => by
    rw [e] at hu
    rcases List.mem_cons.1 hu with rfl | hu
    · exact RD.one d _ h1
    · exact RDv.one ds us' h2 u hu
end

section
variable {P : Program} (w : World)
theorem run_append_reads (base : Nat) (t ty e : TypeId) (i : TypeInfo) (z : Value) (size bytes : Nat) (ht : P.underlying t = some (.slice e)) (hi : P.info? e = some i) (hz : i.zero = some z)
    (hsize : i.size = size) (hby : i.bytes = bytes) (hzs : z.cells.size = size) (hsz : 0 < size)
    (v : Value) (n : Nat) (xs : List Value) (hown : w.ownsRow base e size v n xs)
    (A : Option Addr) (m c B : Nat) (news : List Value) (hr : Reads w B size A m news) (h1 : ∀ u ∈ news, u.oneCell' = true)
    (h63 : n + m ≤ maxLen) (hbytes : (n + m) * bytes ≤ 140737488355328) (hbase : base ≤ w.heap.size) :
    ∃ v' w', (Builtin.append_ #[t, t] ty #[v, .slice A m c]).run P w = .ok v' w' ∧ w'.ownsRow base e size v' (n + m) (xs ++ news) ∧ w.grownBy w' v.ownBlock ∧
      (v'.ownBlock = v.ownBlock ∨ v'.ownBlock = some w.heap.size) := by
  obtain ⟨hl, hc⟩ := hr
  cases A with
  | some a =>
    obtain ⟨v', w', h1, h2, h3, h4, h5⟩ := run_append_own_at (P := P) w base t ty e i z size bytes ht hi hz hsize hby hzs hsz v n xs hown a m c news hl (fun j u hj => by
      have hm : 0 < m := by
        rcases Nat.eq_zero_or_pos m with rfl | h
        · have : news = [] := List.eq_nil_of_length_eq_zero (by simpa using hl)
          rw [this] at hj
          simp at hj
        · exact h
      obtain ⟨ad, e1, _, h⟩ := hc hm
      injection e1 with e1
      subst e1
      exact h j u hj) h1 h63 hbytes hbase
    exact ⟨v', w', h1, h2, h3, h5⟩
  | none =>
    have hm : m = 0 := by
      rcases Nat.eq_zero_or_pos m with h | h
      · exact h
      · obtain ⟨_, e1, _⟩ := hc h
        cases e1
    subst hm
    have hn : news = [] := List.eq_nil_of_length_eq_zero (by simpa using hl)
    subst hn
    refine ⟨v, w, ?_, by simpa using hown, ⟨rfl, rfl, rfl, Nat.le_refl _, fun _ _ _ => rfl⟩, .inl rfl⟩
    rcases hown.2 with ⟨rfl, rfl⟩ | ⟨g, cap, cur, rfl, hbg, hg, hnc, hcm, hcs, htake⟩
    · simp [Builtin.append_, run_underlying ht, sizeOf, typeInfo, hi, Builtin.lenOf, Builtin.firstCells]
    · simp [Builtin.append_, run_underlying ht, sizeOf, typeInfo, hi, Builtin.lenOf, Builtin.firstCells, hnc, storeCells]

theorem wpList_append_reads {ops : Array Oper} {rest : List Oper} {o : Oper} {a : Act} {Q : Exit → Act → World → Prop} (hgd : o.guard = none) (s x : Operand) (t : TypeId)
    (ho : o.op = .call { callee := .builtin .append, args := #[s, x], argTypes := #[t, t] })
    (base : Nat) (e : TypeId) (i : TypeInfo) (z : Value) (size bytes : Nat) (ht : P.underlying t = some (.slice e)) (hi : P.info? e = some i) (hz : i.zero = some z)
    (hsize : i.size = size) (hby : i.bytes = bytes) (hzs : z.cells.size = size) (hsz : 0 < size)
    (v : Value) (n : Nat) (xs : List Value) (hs : a.eval s = v) (hown : w.ownsRow base e size v n xs)
    (A : Option Addr) (m c B : Nat) (news : List Value) (hx : a.eval x = .slice A m c) (hr : Reads w B size A m news) (h1 : ∀ u ∈ news, u.oneCell' = true)
    (h63 : n + m ≤ maxLen) (hbytes : (n + m) * bytes ≤ 140737488355328) (hbase : base ≤ w.heap.size)
    (h : ∀ v' w', w'.ownsRow base e size v' (n + m) (xs ++ news) → w.grownBy w' v.ownBlock → (v'.ownBlock = v.ownBlock ∨ v'.ownBlock = some w.heap.size) → wpList P ops Q rest (a.put o.dst v') w') :
    wpList P ops Q (o :: rest) a w := by
  refine wpList_plain hgd fun K hK => ?_
  obtain ⟨v', w', hr, h2, h3, h4⟩ := run_append_reads (P := P) w base t o.type e i z size bytes ht hi hz hsize hby hzs hsz v n xs hown A m c B news hr h1 h63 hbytes hbase
  unfold Oper.wp execOp
  simp only [ho, resolve, invoke, builtin, Sem.run_bind, Sem.run_pure, Result.andThen_ok, List.map_toArray, List.map_cons, List.map_nil, hs, hx, hr]
  exact hK _ _ (h v' w' h2 h3 h4)
end

theorem step_append_reads {P : Program} (w : World) {ops : Array Oper} {o : Oper} {a : Act} {K : Act → World → Prop} {Q : Exit → Act → World → Prop} {E : Prop} (hgd : o.guard = none) (s x : Operand) (t : TypeId)
    (ho : o.op = .call { callee := .builtin .append, args := #[s, x], argTypes := #[t, t] })
    (base : Nat) (e : TypeId) (i : TypeInfo) (z : Value) (size bytes : Nat) (ht : P.underlying t = some (.slice e)) (hi : P.info? e = some i) (hz : i.zero = some z)
    (hsize : i.size = size) (hby : i.bytes = bytes) (hzs : z.cells.size = size) (hsz : 0 < size)
    (v : Value) (n : Nat) (xs : List Value) (hs : a.eval s = v) (hown : w.ownsRow base e size v n xs)
    (A : Option Addr) (m c B : Nat) (news : List Value) (hx : a.eval x = .slice A m c) (hr : Reads w B size A m news) (h1 : ∀ u ∈ news, u.oneCell' = true)
    (h63 : n + m ≤ maxLen) (hbytes : (n + m) * bytes ≤ 140737488355328) (hbase : base ≤ w.heap.size)
    (h : ∀ v' w', w'.ownsRow base e size v' (n + m) (xs ++ news) → w.grownBy w' v.ownBlock → (v'.ownBlock = v.ownBlock ∨ v'.ownBlock = some w.heap.size) → K (a.put o.dst v') w') :
    if Region.wanted o (yielded ops a.tmps) = true then Oper.wp P o a w K Q else E := by
  have hw : Region.wanted o (yielded ops a.tmps) = true := by simp [Region.wanted, hgd]
  rw [if_pos hw]
  obtain ⟨v', w', hr, h2, h3, h4⟩ := run_append_reads (P := P) w base t o.type e i z size bytes ht hi hz hsize hby hzs hsz v n xs hown A m c B news hr h1 h63 hbytes hbase
  unfold Oper.wp execOp
  simp only [ho, resolve, invoke, builtin, Sem.run_bind, Sem.run_pure, Result.andThen_ok, List.map_toArray, List.map_cons, List.map_nil, hs, hx, hr]
  exact h v' w' h2 h3 h4
/-- What a value looks like that owns a row, nil or not. -/
theorem owns_osl {w : World} {base sz n : Nat} {e : TypeId} {v : Value} {us : List Value} (h : w.ownsRow base e sz v n us) :
    ∃ f0, OSl w sz v n us f0 ∧ (∀ b ∈ f0, v.ownBlock = some b) ∧ f0.Nodup := by
  obtain ⟨hl, h⟩ := h
  rcases h with ⟨rfl, rfl⟩ | ⟨g, cap, cur, rfl, hb, hg, hn, hm, hs, ht⟩
  · exact ⟨[], .inl ⟨_, _, rfl, rfl, List.eq_nil_of_length_eq_zero (by simpa using hl), rfl⟩, (fun _ h => by cases h), List.nodup_nil⟩
  · rcases Nat.eq_zero_or_pos n with rfl | h0
    · exact ⟨[], .inl ⟨_, _, rfl, rfl, List.eq_nil_of_length_eq_zero (by simpa using hl), rfl⟩, (fun _ h => by cases h), List.nodup_nil⟩
    · refine ⟨[g], .inr ⟨g, cap, e, cur.toList, rfl, h0, hn, by unfold maxLen at hm; omega, rfl, by simpa [Blk] using hg, hl, ?_⟩, (fun b hb => by rw [List.mem_singleton.1 hb]; rfl), by simp⟩
      rw [← ht]
      exact List.take_prefix _ _

/-- A row of one's own that grows: its elements so far read as ds; what they lead to is one's own, too. -/
def Acc (x base : Nat) (e : TypeId) (sz : Nat) (wr : World) (v : Value) (n : Nat) (ds : List Dat) : Prop :=
  ∃ us fp, wr.ownsRow base e sz v n us ∧ ODv wr ds us fp ∧ fp.Nodup ∧ v.ownBlock ≠ some x ∧ ∀ b ∈ fp, base ≤ b ∧ b < wr.heap.size ∧ v.ownBlock ≠ some b ∧ b ≠ x
theorem Acc.nil (x base : Nat) (e : TypeId) (sz : Nat) (w : World) : Acc x base e sz w (.slice none 0 0) 0 [] := ⟨[], [], World.ownsRow_nil _ _ _ _, ⟨rfl, rfl⟩, List.nodup_nil, by simp [Value.ownBlock], fun _ h => by cases h⟩
theorem Acc.made {x base : Nat} (e : TypeId) (sz : Nat) (w : World) (hb : base ≤ w.heap.size) (hx : x ≠ w.heap.size) : Acc x base e sz (w.alloc (.cells #[] e)) (.slice (some ⟨w.heap.size, 0, none⟩) 0 0) 0 [] :=
  ⟨[], [], World.ownsRow_made w #[] 0 hb (by unfold maxLen; omega) (by simp), ⟨rfl, rfl⟩, List.nodup_nil, (by simp [Value.ownBlock]; omega), fun _ h => by cases h⟩
theorem acc_made {x base : Nat} (e : TypeId) (sz : Nat) (w : World) (hb : w.heap.size = base) (hx : x ≠ base) : Acc x base e sz (w.alloc (.cells #[] e)) (.slice (some ⟨base, 0, none⟩) 0 0) 0 [] := by
  subst hb
  exact Acc.made e sz w (Nat.le_refl _) hx
theorem Acc.own {x base : Nat} {e : TypeId} {sz n : Nat} {wr : World} {v : Value} {ds : List Dat} (h : Acc x base e sz wr v n ds) : ∀ k, v.ownBlock = some k → base ≤ k ∧ k < wr.heap.size := by
  obtain ⟨us, fp, h1, _⟩ := h
  exact h1.lt
theorem Acc.below {x base : Nat} {e : TypeId} {sz n : Nat} {wr w' : World} {v : Value} {ds : List Dat} (h : Acc x base e sz wr v n ds) (hb : Below wr.heap.size wr w') : Acc x base e sz w' v n ds := by
  obtain ⟨us, fp, h1, h2, h3, h5, h4⟩ := h
  have hg : wr.grownBy w' none := ⟨hb.os, hb.tape, hb.output, hb.size, fun k hk _ => hb.block k hk⟩
  exact ⟨us, fp, h1.kept hg (by cases hv : v.ownBlock <;> simp), ODv.keep _ _ _ (fun b hm => hb.block b (h4 b hm).2.1) h2, h3, h5, fun b hm => ⟨(h4 b hm).1, Nat.lt_of_lt_of_le (h4 b hm).2.1 hb.size, (h4 b hm).2.2⟩⟩
/-- One element more: us1 was made behind wr, then laid into w2, then appended. -/
theorem Acc.step {x base : Nat} {e : TypeId} {sz n m : Nat} {wr w2 w3 : World} {v v' : Value} {ds ds1 : List Dat} {us1 : List Value} {f1 : List Nat} (h : Acc x base e sz wr v n ds) (hb : Below wr.heap.size wr w2)
    (h1 : ODv w2 ds1 us1 f1) (hf : Fresh wr w2 f1) (hown : ∀ us, wr.ownsRow base e sz v n us → w3.ownsRow base e sz v' (n + m) (us ++ us1)) (hg : w2.grownBy w3 v.ownBlock) (hat : v'.ownBlock = v.ownBlock ∨ v'.ownBlock = some w2.heap.size) (hbase : base ≤ wr.heap.size) (hxl : x < wr.heap.size) :
    Acc x base e sz w3 v' (n + m) (ds ++ ds1) := by
  obtain ⟨us, fp, k1, k2, k3, k5, k4⟩ := h
  have hlt := k1.lt
  have hz := hb.size
  have hz2 := hg.size
  refine ⟨us ++ us1, fp ++ f1, hown us k1, ODv.append (ODv.keep _ _ _ (fun b hm => ?_) k2) (ODv.keep _ _ _ (fun b hm => ?_) h1), List.nodup_append.2 ⟨k3, hf.1, fun a ha b hb' e => ?_⟩, fun e => ?_, fun b hm => ?_⟩
  · have := k4 b hm
    exact (hg.block b (by omega) (fun e => this.2.2.1 e.symm)).trans (hb.block b this.2.1)
  · have := hf.2 b hm
    exact hg.block b this.2 (fun e => by have := (hlt b e.symm).2; omega)
  · have := (k4 a ha).2.1
    have := (hf.2 b hb').1
    omega
  · rcases hat with h | h
    · exact k5 (h ▸ e)
    · rw [h] at e
      injection e with e
      omega
  · rcases List.mem_append.1 hm with hm | hm
    · have := k4 b hm
      refine ⟨this.1, by omega, fun e => ?_, this.2.2.2⟩
      rcases hat with h | h
      · exact this.2.2.1 (h ▸ e)
      · rw [h] at e
        injection e with e
        omega
    · have := hf.2 b hm
      refine ⟨by omega, by omega, fun e => ?_, by omega⟩
      rcases hat with h | h
      · have := (hlt b (h ▸ e)).2
        omega
      · rw [h] at e
        injection e with e
        omega
theorem Acc.done {x base : Nat} {e : TypeId} {sz n : Nat} {w wr : World} {v : Value} {ds : List Dat} (h : Acc x base e sz wr v n ds) (hw : w.heap.size ≤ base) : ∃ fp, OD wr (.row sz n ds) v fp ∧ Fresh w wr fp := by
  obtain ⟨us, fp, k1, k2, k3, _, k4⟩ := h
  obtain ⟨f0, h1, h2, h3⟩ := owns_osl k1
  have hlt := k1.lt
  refine ⟨f0 ++ fp, ⟨us, f0, fp, rfl, h1, k2⟩, List.nodup_append.2 ⟨h3, k3, fun a ha b hb e => (k4 b hb).2.2.1 (e ▸ h2 a ha)⟩, fun b hb => ?_⟩
  rcases List.mem_append.1 hb with hb | hb
  · have := hlt b (h2 b hb)
    omega
  · have := k4 b hb
    omega

theorem grown_new {W w3 : World} {o : Obj} (h : (W.alloc o).grownBy w3 (some W.heap.size)) : Below W.heap.size W w3 ∧ W.heap.size + 1 ≤ w3.heap.size := by
  have hz := h.size
  simp at hz
  exact ⟨⟨h.os, h.tape, h.output, by omega, fun k hk => (h.block k (by simp; omega) (fun e => by injection e; omega)).trans (Below.heap_alloc _ _ _ hk)⟩, hz⟩
theorem wp_append_own_at_ {P : Program} (w : World) {o : Oper} {a : Act} {K : Act → World → Prop} {Q : Exit → Act → World → Prop} (s x : Operand) (t : TypeId)
    (ho : o.op = .call { callee := .builtin .append, args := #[s, x], argTypes := #[t, t] })
    (base : Nat) (e : TypeId) (i : TypeInfo) (z : Value) (size bytes : Nat) (ht : P.underlying t = some (.slice e)) (hi : P.info? e = some i) (hz : i.zero = some z)
    (hsize : i.size = size) (hby : i.bytes = bytes) (hzs : z.cells.size = size) (hsz : 0 < size)
    (v : Value) (n : Nat) (xs : List Value) (hs : a.eval s = v) (hown : w.ownsRow base e size v n xs)
    (ad : Addr) (m c : Nat) (news : List Value) (hx : a.eval x = .slice (some ad) m c) (hl : news.length = m * size) (hnews : ∀ j u, news[j]? = some u → w.cell? (ad.add j) = some u) (h1 : ∀ u ∈ news, u.oneCell' = true)
    (h63 : n + m ≤ maxLen) (hbytes : (n + m) * bytes ≤ 140737488355328) (hbase : base ≤ w.heap.size)
    (h : ∀ v' w', w'.ownsRow base e size v' (n + m) (xs ++ news) → w.grownBy w' v.ownBlock → (v' = .slice none 0 0 ↔ v = .slice none 0 0 ∧ m = 0) → (v'.ownBlock = v.ownBlock ∨ v'.ownBlock = some w.heap.size) → K (a.put o.dst v') w') :
    o.wp P a w K Q := by
  obtain ⟨v', w', hr, h2, h3, h4, h5⟩ := run_append_own_at (P := P) w base t o.type e i z size bytes ht hi hz hsize hby hzs hsz v n xs hown ad m c news hl hnews h1 h63 hbytes hbase
  unfold Oper.wp execOp
  simp only [ho, resolve, invoke, builtin, Sem.run_bind, Sem.run_pure, Result.andThen_ok, List.map_toArray, List.map_cons, List.map_nil, hs, hx, hr]
  exact h v' w' h2 h3 h4 h5
/-- 'list = append(list, x)', x having been made behind wr. -/
theorem wp_append_acc {P : Program} {o : Oper} {a : Act} {K : Act → World → Prop} {Q : Exit → Act → World → Prop} (s y : Operand) (t : TypeId)
    (ho : o.op = .call { callee := .builtin .append, args := #[s, y], argTypes := #[t, t] })
    (e : TypeId) (i : TypeInfo) (z : Value) (size bytes : Nat) (ht : P.underlying t = some (.slice e)) (hi : P.info? e = some i) (hz : i.zero = some z)
    (hsize : i.size = size) (hby : i.bytes = bytes) (hzs : z.cells.size = size) (hsz : 0 < size)
    {x base n : Nat} {v : Value} {ds ds1 : List Dat} {us1 : List Value} {f1 : List Nat} {wr w1 : World} (hs : a.eval s = v) (hx : a.eval y = .slice (some ⟨w1.heap.size, 0, none⟩) 1 1) (hA : Acc x base e size wr v n ds) (hb : Below wr.heap.size wr w1)
    (h1 : ODv w1 ds1 us1 f1) (hf : Fresh wr w1 f1) (hl : us1.length = size) (h63 : n + 1 ≤ maxLen) (hbytes : (n + 1) * bytes ≤ 140737488355328) (hbase : base ≤ wr.heap.size) (hxl : x < wr.heap.size)
    (h : ∀ v' w3, Acc x base e size w3 v' (n + 1) (ds ++ ds1) → Below base w1 w3 → (w1.heap.size + 1 ≤ w3.heap.size ∧ ∀ b, wr.heap.size ≤ b ∨ b = x → b < w1.heap.size → w3.heap[b]? = w1.heap[b]?) → K (a.put o.dst v') w3) :
    o.wp P a (w1.alloc (.cells us1.toArray e)) K Q := by
  have hA' := hA
  have hlt := hA.own
  obtain ⟨us, fp, k1, _, _, hxv, _⟩ := hA
  have hbz := hb.size
  have hg1 : wr.grownBy w1 none := ⟨hb.os, hb.tape, hb.output, hb.size, fun k hk _ => hb.block k hk⟩
  have k2 : ∀ us, wr.ownsRow base e size v n us → (w1.alloc (.cells us1.toArray e)).ownsRow base e size v n us := fun us k => (k.kept hg1 (by cases hv : v.ownBlock <;> simp)).alloc _
  have hcell : ∀ j u, us1[j]? = some u → (w1.alloc (.cells us1.toArray e)).cell? ((⟨w1.heap.size, 0, none⟩ : Addr).add j) = some u := fun j u hj => by
    have hadd : (⟨w1.heap.size, 0, none⟩ : Addr).add j = ⟨w1.heap.size, j, none⟩ := by unfold Addr.add; split <;> simp_all
    rw [hadd, (Blk.new w1 e us1).cell]
    exact hj
  refine wp_append_own_at_ _ s y t ho base e i z size bytes ht hi hz hsize hby hzs hsz v n us hs (k2 us k1) ⟨w1.heap.size, 0, none⟩ 1 1 us1 hx (by omega) hcell (RDv.one _ _ h1.rd') h63 hbytes (by simp; omega) ?_
  intro v' w3 h3 hg3 hnil hat
  have hg3z := hg3.size
  simp at hg3z
  refine h v' w3 (hA'.step (w2 := w1.alloc (.cells us1.toArray e)) (hb.alloc hb.size _) (ODv.keep _ _ _ (fun b hm => Below.heap_alloc _ _ _ (hf.2 b hm).2) h1) (hf.more (by simp)) (fun us' k => ?_) hg3 hat hbase hxl) ?_ ⟨by omega, fun b h1 h2 => (hg3.block b (by simp; omega) fun e => by
    rcases h1 with h1 | h1
    · have := (hlt b e.symm).2
      omega
    · exact hxv (by rw [← e, h1])).trans (Below.heap_alloc _ _ _ h2)⟩
  · obtain ⟨v2, w4, hr2, q1, q2, q3, q4⟩ := run_append_own_at (P := P) (w1.alloc (.cells us1.toArray e)) base t o.type e i z size bytes ht hi hz hsize hby hzs hsz v n us' (k2 us' k) ⟨w1.heap.size, 0, none⟩ 1 1 us1 (by omega) hcell (RDv.one _ _ h1.rd') h63 hbytes (by simp; omega)
    have : us' = us := by
      rcases k.2 with ⟨e1, e2⟩ | ⟨g, cap, cur, e1, e2, e3, e4, e5, e6, e7⟩
      · have a1 := k.1
        have a2 := k1.1
        rw [e2, Nat.zero_mul] at a1 a2
        rw [List.eq_nil_of_length_eq_zero a1, List.eq_nil_of_length_eq_zero a2]
      · rcases k1.2 with ⟨d1, d2⟩ | ⟨g', cap', cur', d1, d2, d3, d4, d5, d6, d7⟩
        · rw [d1] at e1
          cases e1
        · rw [d1] at e1
          injection e1 with e1 _ _
          injection e1 with e1
          injection e1 with e1 _
          subst e1
          rw [e3] at d3
          injection d3 with d3
          injection d3 with d3
          subst d3
          rw [← e7, ← d7]
    rw [this]
    exact h3
  · exact ((Below.refl base w1).alloc (by omega) _).grown hg3 (by simp; omega) fun k hk => (hlt k hk).1
/-- 'list = append(list, x)', x having been made behind wr. -/
theorem wpList_append_acc {P : Program} {ops : Array Oper} {rest : List Oper} {o : Oper} {a : Act} {Q : Exit → Act → World → Prop} (hgd : o.guard = none) (s y : Operand) (t : TypeId)
    (ho : o.op = .call { callee := .builtin .append, args := #[s, y], argTypes := #[t, t] })
    (e : TypeId) (i : TypeInfo) (z : Value) (size bytes : Nat) (ht : P.underlying t = some (.slice e)) (hi : P.info? e = some i) (hz : i.zero = some z)
    (hsize : i.size = size) (hby : i.bytes = bytes) (hzs : z.cells.size = size) (hsz : 0 < size)
    {x base n : Nat} {v : Value} {ds ds1 : List Dat} {us1 : List Value} {f1 : List Nat} {wr w1 : World} (hs : a.eval s = v) (hx : a.eval y = .slice (some ⟨w1.heap.size, 0, none⟩) 1 1) (hA : Acc x base e size wr v n ds) (hb : Below wr.heap.size wr w1)
    (h1 : ODv w1 ds1 us1 f1) (hf : Fresh wr w1 f1) (hl : us1.length = size) (h63 : n + 1 ≤ maxLen) (hbytes : (n + 1) * bytes ≤ 140737488355328) (hbase : base ≤ wr.heap.size) (hxl : x < wr.heap.size)
    (h : ∀ v' w3, Acc x base e size w3 v' (n + 1) (ds ++ ds1) → Below base w1 w3 → (w1.heap.size + 1 ≤ w3.heap.size ∧ ∀ b, wr.heap.size ≤ b ∨ b = x → b < w1.heap.size → w3.heap[b]? = w1.heap[b]?) → wpList P ops Q rest (a.put o.dst v') w3) :
    wpList P ops Q (o :: rest) a (w1.alloc (.cells us1.toArray e)) :=
  wpList_plain hgd fun _ hK => wp_append_acc s y t ho e i z size bytes ht hi hz hsize hby hzs hsz hs hx hA hb h1 hf hl h63 hbytes hbase hxl fun v' w3 k1 k2 k3 => hK _ _ (h v' w3 k1 k2 k3)
theorem wpList_append_accH {P : Program} {ops : Array Oper} {rest : List Oper} {o : Oper} {a : Act} {Q : Exit → Act → World → Prop} (hgd : o.guard = none) (s y : Operand) (t : TypeId)
    (ho : o.op = .call { callee := .builtin .append, args := #[s, y], argTypes := #[t, t] })
    (e : TypeId) (i : TypeInfo) (z : Value) (size bytes : Nat) (ht : P.underlying t = some (.slice e)) (hi : P.info? e = some i) (hz : i.zero = some z)
    (hsize : i.size = size) (hby : i.bytes = bytes) (hzs : z.cells.size = size) (hsz : 0 < size)
    {x base n : Nat} {v : Value} {ds ds1 : List Dat} {us1 : List Value} {f1 : List Nat} {wr w1 : World} (hs : a.eval s = v) {H : Nat} (hH : w1.heap.size = H) (hx : a.eval y = .slice (some ⟨H, 0, none⟩) 1 1) (hA : Acc x base e size wr v n ds) (hb : Below wr.heap.size wr w1)
    (h1 : ODv w1 ds1 us1 f1) (hf : Fresh wr w1 f1) (hl : us1.length = size) (h63 : n + 1 ≤ maxLen) (hbytes : (n + 1) * bytes ≤ 140737488355328) (hbase : base ≤ wr.heap.size) (hxl : x < wr.heap.size)
    (h : ∀ v' w3, Acc x base e size w3 v' (n + 1) (ds ++ ds1) → Below base w1 w3 → (w1.heap.size + 1 ≤ w3.heap.size ∧ ∀ b, wr.heap.size ≤ b ∨ b = x → b < w1.heap.size → w3.heap[b]? = w1.heap[b]?) → wpList P ops Q rest (a.put o.dst v') w3) :
    wpList P ops Q (o :: rest) a (w1.alloc (.cells us1.toArray e)) := by
  subst hH
  exact wpList_append_acc hgd s y t ho e i z size bytes ht hi hz hsize hby hzs hsz hs hx hA hb h1 hf hl h63 hbytes hbase hxl h
theorem step_append_acc {P : Program} {ops : Array Oper} {o : Oper} {a : Act} {K : Act → World → Prop} {Q : Exit → Act → World → Prop} {E : Prop} (hgd : o.guard = none) (s y : Operand) (t : TypeId)
    (ho : o.op = .call { callee := .builtin .append, args := #[s, y], argTypes := #[t, t] })
    (e : TypeId) (i : TypeInfo) (z : Value) (size bytes : Nat) (ht : P.underlying t = some (.slice e)) (hi : P.info? e = some i) (hz : i.zero = some z)
    (hsize : i.size = size) (hby : i.bytes = bytes) (hzs : z.cells.size = size) (hsz : 0 < size)
    {x base n : Nat} {v : Value} {ds ds1 : List Dat} {us1 : List Value} {f1 : List Nat} {wr w1 : World} (hs : a.eval s = v) (hx : a.eval y = .slice (some ⟨w1.heap.size, 0, none⟩) 1 1) (hA : Acc x base e size wr v n ds) (hb : Below wr.heap.size wr w1)
    (h1 : ODv w1 ds1 us1 f1) (hf : Fresh wr w1 f1) (hl : us1.length = size) (h63 : n + 1 ≤ maxLen) (hbytes : (n + 1) * bytes ≤ 140737488355328) (hbase : base ≤ wr.heap.size) (hxl : x < wr.heap.size)
    (h : ∀ v' w3, Acc x base e size w3 v' (n + 1) (ds ++ ds1) → Below base w1 w3 → (w1.heap.size + 1 ≤ w3.heap.size ∧ ∀ b, wr.heap.size ≤ b ∨ b = x → b < w1.heap.size → w3.heap[b]? = w1.heap[b]?) → K (a.put o.dst v') w3) :
    if Region.wanted o (yielded ops a.tmps) = true then Oper.wp P o a (w1.alloc (.cells us1.toArray e)) K Q else E := by
  have hw : Region.wanted o (yielded ops a.tmps) = true := by simp [Region.wanted, hgd]
  rw [if_pos hw]
  exact wp_append_acc s y t ho e i z size bytes ht hi hz hsize hby hzs hsz hs hx hA hb h1 hf hl h63 hbytes hbase hxl h
theorem grown_newD {W w3 : World} {o : Obj} (h : (W.alloc o).drew.grownBy w3 (some W.heap.size)) : Below W.heap.size W w3 ∧ W.heap.size + 1 ≤ w3.heap.size := grown_new (o := o) ⟨h.os, h.tape, h.output, h.size, h.block⟩
theorem owns_shape {w : World} {base sz n : Nat} {e : TypeId} {v : Value} {us : List Value} (h : w.ownsRow base e sz v n us) : ∃ (A : Option Addr) (m c : Nat), v = .slice A m c := by
  rcases h.2 with ⟨rfl, _⟩ | ⟨g, cap, cur, rfl, _⟩
  · exact ⟨_, _, _, rfl⟩
  · exact ⟨_, _, _, rfl⟩
theorem strDs_own {w : World} {B : Nat} : ∀ {ks : List ByteArray} {us : List Value}, RDv w B (strDs ks) us → ∀ w' : World, ODv w' (strDs ks) us []
  | [], _, h, _ => ⟨h, rfl⟩
  | _ :: _, _, ⟨u, us', e, h1, h2⟩, w' => ⟨u, us', [], [], e, rfl, ⟨h1.1, h1.2, rfl⟩, strDs_own h2 w'⟩
/-- What lies from base on, but for block x, being as it was. -/
theorem Acc.keep {x base : Nat} {e : TypeId} {sz n : Nat} {wr w' : World} {v : Value} {ds : List Dat} (h : Acc x base e sz wr v n ds) (hz : wr.heap.size ≤ w'.heap.size) (hk : ∀ b, base ≤ b → b < wr.heap.size → b ≠ x → w'.heap[b]? = wr.heap[b]?) : Acc x base e sz w' v n ds := by
  obtain ⟨us, fp, ⟨a1, a2⟩, h2, h3, h5, h4⟩ := h
  refine ⟨us, fp, ⟨a1, ?_⟩, ODv.keep _ _ _ (fun b hm => hk b (h4 b hm).1 (h4 b hm).2.1 (h4 b hm).2.2.2) h2, h3, h5, fun b hm => ⟨(h4 b hm).1, by have := (h4 b hm).2.1; omega, (h4 b hm).2.2⟩⟩
  rcases a2 with a2 | ⟨g, cap, cur, e1, e2, e3, r⟩
  · exact .inl a2
  · refine .inr ⟨g, cap, cur, e1, e2, ?_, r⟩
    rw [hk g e2 (by
      rcases Nat.lt_or_ge g wr.heap.size with hlt | hge
      · exact hlt
      · rw [Array.getElem?_eq_none hge] at e3; cases e3) (fun e => h5 (by rw [e1, ← e]; rfl))]
    exact e3
/-- Behind an append of texts onto an empty row of one's own. -/
theorem strs_app {e : TypeId} {W1 X w3 : World} {a : Nat} {v3 : Value} {us1 : List Value} {keys : List ByteArray} (hX : Below W1.heap.size W1 X) (ha : W1.heap.size ≤ a) (hax : a < X.heap.size) (hown : w3.ownsRow W1.heap.size e 1 v3 (0 + keys.length) ([] ++ us1))
    (hg : X.grownBy w3 (some a)) (hat : v3.ownBlock = some a ∨ v3.ownBlock = some X.heap.size) (hsd : ODv w3 (strDs keys) us1 []) :
    Below W1.heap.size W1 w3 ∧ X.heap.size ≤ w3.heap.size ∧ (∃ f3 A n c, v3 = .slice A n c ∧ OD w3 (.row 1 keys.length (strDs keys)) (.slice A n c) f3 ∧ f3.Nodup ∧ ∀ b ∈ f3, W1.heap.size ≤ b ∧ b < w3.heap.size ∧ (b = a ∨ X.heap.size ≤ b)) ∧ (∀ b, b < X.heap.size → b ≠ a → w3.heap[b]? = X.heap[b]?) := by
  have hz := hg.size
  have hb : ∀ b, b < X.heap.size → b ≠ a → w3.heap[b]? = X.heap[b]? := fun b h1 h2 => hg.block b h1 fun e => by injection e with e; exact h2 e
  obtain ⟨f3, h1, h2, h3⟩ := owns_osl hown
  obtain ⟨A, m, c, rfl⟩ := owns_shape hown
  have hlt := hown.lt
  rw [Nat.zero_add, List.nil_append] at h1
  refine ⟨hX.trans ⟨hg.os, hg.tape, hg.output, hz, fun k hk => hb k (by have := hX.size; omega) (by omega)⟩, hz, ⟨f3, A, m, c, rfl, ⟨us1, f3, [], by simp, h1, hsd⟩, h3, fun b hm => ?_⟩, hb⟩
  have := hlt b (h2 b hm)
  refine ⟨this.1, this.2, ?_⟩
  rcases hat with h | h
  · left
    rw [h2 b hm] at h
    injection h
  · right
    rw [h2 b hm] at h
    injection h with h
    omega
theorem Acc.shape {base : Nat} {e : TypeId} {sz n : Nat} {wr : World} {v : Value} {ds : List Dat} {x : Nat} (h : Acc x base e sz wr v n ds) : ∃ (A : Option Addr) (m c : Nat), v = .slice A m c := by
  obtain ⟨us, fp, h1, _⟩ := h
  exact owns_shape h1
theorem Acc.mono {x base base' : Nat} {e : TypeId} {sz n : Nat} {wr : World} {v : Value} {ds : List Dat} (h : Acc x base e sz wr v n ds) (hb : base' ≤ base) : Acc x base' e sz wr v n ds := by
  obtain ⟨us, fp, ⟨a1, a2⟩, h2, h3, h5, h4⟩ := h
  refine ⟨us, fp, ⟨a1, ?_⟩, h2, h3, h5, fun b hm => ⟨by have := (h4 b hm).1; omega, (h4 b hm).2⟩⟩
  rcases a2 with a2 | ⟨g, cap, cur, e1, e2, r⟩
  · exact .inl a2
  · exact .inr ⟨g, cap, cur, e1, by omega, r⟩
/-- A block that has not been made yet is avoided. -/
theorem Acc.avoid {x y base : Nat} {e : TypeId} {sz n : Nat} {wr : World} {v : Value} {ds : List Dat} (h : Acc x base e sz wr v n ds) (hy : wr.heap.size ≤ y) : Acc y base e sz wr v n ds := by
  have hlt := h.own
  obtain ⟨us, fp, h1, h2, h3, h5, h4⟩ := h
  exact ⟨us, fp, h1, h2, h3, fun e => by have := (hlt y e).2; omega, fun b hm => ⟨(h4 b hm).1, (h4 b hm).2.1, (h4 b hm).2.2.1, by have := (h4 b hm).2.1; omega⟩⟩
end Go.Proofs.YtppfgepoegicgaaGreatDoor
namespace Go.Proofs.YtppfgepoegicgaaGreatDoor
open Go Go.RowKit

/-- A tree is copied: what comes back reads as it, in new blocks. -/
def CopyVal (f : Nat) (v : Val) : Prop := ∀ (us : List Value) (w : World) (B : Nat), B ≤ w.heap.size → RDv w B (valDs v) us → SmallDs (valDs v) →
  Calls Tryz.prog f #[.agg us.toArray] w fun e w' => ∃ vs fp, e = .returned (.agg vs.toArray) ∧ ODv w' (valDs v) vs fp ∧ Fresh w w' fp ∧ Below w.heap.size w w'

theorem take_of_drop {α : Type} {l : List α} {k : Nat} {v : α} (h : l.drop k = v :: l.drop (k + 1)) : l.take (k + 1) = l.take k ++ [v] := by
  have h1 := List.take_append_drop k l
  rw [h] at h1
  have hk : k < l.length := by
    rcases Nat.lt_or_ge k l.length with h2 | h2
    · exact h2
    · rw [List.drop_of_length_le h2] at h
      cases h
  have h3 : (l.take k).length = k := by simp; omega
  calc l.take (k + 1) = (l.take k ++ v :: l.drop (k + 1)).take (k + 1) := by rw [h1]
    _ = l.take k ++ [v] := by
      rw [List.take_append, h3, List.take_of_length_le (by omega)]
      simp
/-- How a copied tree is put together. -/
theorem val_close {w wr W : World} {kind n : Int} {s : ByteArray} {keys : List ByteArray} {list : List Val} {c3 c4 : Value} {f3 f4 : List Nat} {lo mid : Nat} (hs : s.size ≤ 9223372036854775807) (h3 : OD wr (.row 1 keys.length (strDs keys)) c3 f3) (h4 : OD wr (.row 5 list.length (valsDs list)) c4 f4)
    (n3 : f3.Nodup) (l3 : ∀ b ∈ f3, lo ≤ b ∧ b < mid) (n4 : f4.Nodup) (l4 : ∀ b ∈ f4, mid ≤ b ∧ b < wr.heap.size) (hm : lo ≤ mid) (hm2 : mid ≤ wr.heap.size) (hsz : wr.heap.size ≤ W.heap.size) (hlo : w.heap.size ≤ lo) (hk : ∀ b, lo ≤ b → b < wr.heap.size → W.heap[b]? = wr.heap[b]?) :
    ODv W (valDs (.mk kind n s keys list)) [.int .i64 kind, .int .i64 n, .string s, c3, c4] (f3 ++ f4) ∧ Fresh w W (f3 ++ f4) := by
  have k1 := OD.keep (w' := W) _ _ f3 (fun b hb => hk b (l3 b hb).1 (by have := l3 b hb; omega)) h3
  have k2 := OD.keep (w' := W) _ _ f4 (fun b hb => hk b (by have := l4 b hb; omega) (l4 b hb).2) h4
  refine ⟨?_, List.nodup_append.2 ⟨n3, n4, fun a ha b hb e => ?_⟩, fun b hb => ?_⟩
  · simp only [valDs]
    exact ⟨_, _, [], _, rfl, rfl, ⟨rfl, rfl⟩, _, _, [], _, rfl, rfl, ⟨rfl, rfl⟩, _, _, [], _, rfl, rfl, ⟨rfl, hs, rfl⟩, _, _, f3, _, rfl, rfl, k1, _, _, f4, [], rfl, by simp, k2, rfl, rfl⟩
  · have := l3 a ha
    have := l4 b hb
    omega
  · rcases List.mem_append.1 hb with hb | hb
    · have := l3 b hb
      omega
    · have := l4 b hb
      omega
set_option maxRecDepth 100000 in
set_option maxHeartbeats 4000000 in
theorem clone_of (v : Val) (ih : ∀ kind n s keys list, v = .mk kind n s keys list → ∀ x ∈ list, CopyVal 46 x) : CopyVal 46 v := by
  intro us w B hB h hsm
  obtain ⟨kind, n, s, keys, list, A1, c1, A2, c2, rfl, rfl, hs, hk, hl⟩ := valDs_open h
  have IH := Lib.hid (ih _ _ _ _ _ rfl)
  simp only [valDs, SmallDs] at hsm
  have hkn : keys.length ≤ 1048576 := hsm.2.2.2.1.1
  have hln : list.length ≤ 1048576 := hsm.2.2.2.2.1.1
  have HS2 := Lib.hid hsm.2.2.2.2.1.2
  have HK := Lib.hid hk
  have HL := Lib.hid hl
  clear ih h hsm hk hl
  obtain ⟨iS, hiS, zS0, zS1, zS2⟩ := info_parts' Tryz.info_string
  obtain ⟨W1, eW⟩ : ∃ W, W = (w.alloc (.cells #[.int .i64 kind, .int .i64 n, .string s, .slice A1 keys.length c1, .slice A2 list.length c2] 32)).alloc (.cells #[.int .i64 0, .int .i64 0, .string ⟨#[]⟩, .slice none 0 0, .slice none 0 0] 32) := ⟨_, rfl⟩
  have hWs : W1.heap.size = w.heap.size + 1 + 1 := by rw [eW]; simp
  have hW : Below w.heap.size w W1 := by rw [eW]; exact below_box2 _ _ _
  have bP : Blk W1 w.heap.size 32 [.int .i64 kind, .int .i64 n, .string s, .slice A1 keys.length c1, .slice A2 list.length c2] := by rw [eW]; exact (Blk.new _ _ _).alloc _
  have bR : Blk W1 (w.heap.size + 1) 32 [.int .i64 0, .int .i64 0, .string ⟨#[]⟩, .slice none 0 0, .slice none 0 0] := by
    have := Blk.new (w.alloc (.cells #[.int .i64 kind, .int .i64 n, .string s, .slice A1 keys.length c1, .slice A2 list.length c2] 32)) 32 [.int .i64 0, .int .i64 0, .string ⟨#[]⟩, .slice none 0 0, .slice none 0 0]
    rw [eW]
    simpa using this
  obtain ⟨A1', c1', us1, e1, hkc, hk63, hrd, hrv⟩ := HK.out
  injection e1 with e1 _ e3
  subst e1 e3
  have hB1 : Below w.heap.size w (W1.alloc (.cells #[] 9)) := hW.alloc (by omega) _
  have RK := Lib.hid (hrd.keep (fun p hp => hB1.cell (p := p) (by omega)))
  have ON := Lib.hid (RDv.one _ _ hrv)
  have hown := World.ownsRow_made (e := 9) (size := 1) W1 #[] 0 (Nat.le_refl _) (by unfold maxLen; omega) (by simp)
  have HOW := Lib.hid hown
  have HSD := Lib.hid (fun w' => strDs_own hrv w')
  have EW := Lib.hid eW
  have HWs := Lib.hid hWs
  have HbP := Lib.hid bP
  have HbR := Lib.hid bR
  clear eW bP bR hWs hrd hrv hown hB1
  obtain ⟨iV, hiV, zV0, zV1, zV2⟩ := info_parts' Tryz.info_Val
  go_enter Tryz.func46, Tryz.ntmps46
  go_wp2_with (at_builtin; go_loud (rw [← EW.out, ← HWs.out]; refine wpList_append_reads _ rfl (.tmp 6) (.tmp 8) 22 rfl W1.heap.size 9 iS (.string ⟨#[]⟩) 1 16 Tryz.underlying22 hiS zS0 zS1 zS2 rfl (by decide) _ 0 [] rfl HOW.out A1 keys.length c1 B us1 rfl RK.out ON.out (by unfold maxLen; omega) (by omega) (by simp) ?_; intro v3 w3 hown3 hg3 hat3; clear hat3; obtain ⟨hB3, hz3⟩ := grown_new hg3; clear hg3; obtain ⟨f3, os3, of3, nd3⟩ := owns_osl hown3; have hw3 := hown3.lt; rw [Nat.zero_add, List.nil_append] at os3; have O3 := Lib.hid (show OD w3 (.row 1 keys.length (strDs keys)) v3 f3 from ⟨us1, f3, [], by simp, os3, HSD.out w3⟩); have F3 := Lib.hid (show f3.Nodup ∧ ∀ b ∈ f3, W1.heap.size ≤ b ∧ b < w3.heap.size from ⟨nd3, fun b hb => hw3 b (of3 b hb)⟩); clear hown3 os3 of3 nd3 hw3; obtain ⟨A3, c3, n3, rfl⟩ := row_shape O3.out.rd'; have bP3 := HbP.out.below hB3; obtain ⟨cP, fP⟩ := blk_rules bP3; have HB3 := Lib.hid hB3; have HbP3 := Lib.hid bP3; have HbR3 := Lib.hid (HbR.out.below hB3); clear hB3 bP3; have q4 := fun o => (show ((w3.setCell ⟨w.heap.size, 3, none⟩ (.slice A3 n3 c3)).alloc o).cell? ⟨w.heap.size, 4, none⟩ = some (.slice A2 list.length c2) from ((HbP3.out.set_ 3 _).alloc o).cell 4)))

  have HD3 := Lib.hid (show w.heap.size + 1 + 1 + 1 ≤ w3.heap.size by have := HWs.out; omega)
  have hD3 := HD3.out
  go_loopw [3, 15] (fun lv i w' => ∃ (k : Nat), k ≤ list.length ∧ i = .int .i64 k ∧ Hid (Acc w.heap.size w3.heap.size 32 5 w' lv k (valsDs (list.take k))) ∧ Hid (Below w3.heap.size (w3.setCell ⟨w.heap.size, 3, none⟩ (.slice A3 n3 c3)) w')) (fun _ i _ => list.length - (intOf i).toNat)
  case atStart => exact ⟨0, by omega, rfl, acc_made 32 5 (w3.setCell ⟨w.heap.size, 3, none⟩ (.slice A3 n3 c3)) (by simp [World.setCell]) (by omega), (Below.refl _ _).alloc (by simp [World.setCell]) _⟩
  case round =>
    clear q4
    obtain ⟨k, hk, rfl, HA, HB⟩ := hrel
    have hP3 := HbP3.out.set_ 3 (.slice A3 n3 c3)
    have hR3 := HbR3.out.far (p := ⟨w.heap.size, 3, none⟩) (by show w.heap.size + 1 ≠ w.heap.size; omega) (.slice A3 n3 c3)
    have hB5 : Below w.heap.size w (w3.setCell ⟨w.heap.size, 3, none⟩ (.slice A3 n3 c3)) := (hW.trans (HB3.out.mono (by have := HWs.out; omega))).setCell (by show w.heap.size ≤ w.heap.size; omega) _
    have hbW : Below w.heap.size w wr := hB5.trans (HB.out.mono (by omega))
    have hz5 : w3.heap.size ≤ wr.heap.size := by have := HB.out.size; simpa [World.setCell] using this
    have bPr : Blk wr w.heap.size 32 [.int .i64 kind, .int .i64 n, .string s, .slice A3 n3 c3, .slice A2 list.length c2] := hP3.same (HB.out.block _ (by omega))
    have bRr : Blk wr (w.heap.size + 1) 32 [.int .i64 0, .int .i64 0, .string ⟨#[]⟩, .slice none 0 0, .slice none 0 0] := hR3.same (HB.out.block _ (by omega))
    have HPr := Lib.hid bPr
    have HRr := Lib.hid bRr
    have HbW := Lib.hid hbW
    clear hP3 hR3 hB5 cP fP
    by_cases hlt : k < list.length
    · obtain ⟨ad, v, c0, c1, c2, c3, c4, rfl, hbl, hv, hm, hd, z0, z1, z2, z3, z4⟩ := row5_at (HL.out.upto (hbW.mono hB) (Nat.le_refl _)) rfl hlt
      obtain ⟨d0, d1, d2, A5, n5, c5, A6, n6, c6, ec⟩ := valDs_shape hv
      injection ec with e0 ec
      injection ec with e1 ec
      injection ec with e2 ec
      injection ec with e3 ec
      injection ec with e4 ec
      subst e0 e1 e2 e3 e4
      clear ec bPr bRr hbW
      have hBr : B ≤ wr.heap.size := by have := HbW.out.size; omega
      have hbx := below_box wr (.cells #[.int .i64 d0, .int .i64 d1, .string d2, .slice A5 n5 c5, .slice A6 n6 c6] 32)
      go_wp2_with fail
      refine (IH.out v hm [_, _, _, _, _] _ B (Nat.le_trans hBr hbx.size) (hv.below (hbx.mono hBr)) (smallDs_mem HS2.out hm)).mono ?_
      rintro e w4 ⟨us4, f4, rfl, hO, hF, hb1⟩
      obtain ⟨g0, g1, g2, A7, n7, c7, A8, n8, c8, rfl⟩ := valDs_shape hO.rd'
      have hF4 := Lib.hid (hF.from_ hbx.size)
      have hb4 := Lib.hid (hbx.trans (hb1.mono hbx.size))
      have HO := Lib.hid hO
      clear hO hF hb1 hbx z0 z1 z2 z3 z4 hv
      go_wp2_with (at_builtin; go_loud (refine wpList_append_acc rfl _ _ 30 rfl 32 iV _ 5 80 Tryz.underlying30 hiV zV0 zV1 zV2 rfl (by decide) rfl rfl HA.out hb4.out HO.out hF4.out rfl (by unfold maxLen; omega) (by omega) hz5 (by omega) ?_; intro v5 w5 hA5 hB5 hz6; have HA5 := Lib.hid hA5; have HB5 := Lib.hid hB5; clear hA5 hB5))
      have HA6 := Lib.hid (show Acc w.heap.size w3.heap.size 32 5 w5 v5 (k + 1) (valsDs (list.take (k + 1))) by
        rw [take_of_drop hd.out, valsDs_append, show valsDs [v] = valDs v by simp [valsDs]]
        exact HA5.out)
      have HB6 := Lib.hid (show Below w3.heap.size (w3.setCell ⟨w.heap.size, 3, none⟩ (.slice A3 n3 c3)) w5 from HB.out.trans ((hb4.out.mono hz5).trans HB5.out))
      clear HA HB HA5 HB5 hb4 hF4 HO
      go_wp2
      go_roundw
      case rel => exact ⟨k + 1, by omega, by go_num, HA6, HB6⟩
      case measure => simp [intOf]; omega
    · obtain rfl : k = list.length := by omega
      rename_i lv _
      obtain ⟨f4, hO4, hF4⟩ := HA.out.done (w := w3) (Nat.le_refl _)
      rw [List.take_length] at hO4
      obtain ⟨A4, c4, n4, rfl⟩ := row_shape hO4.rd'
      have HO4 := Lib.hid hO4
      have HF4 := Lib.hid hF4
      obtain ⟨cP, fP⟩ := blk_rules bPr
      obtain ⟨cR, fR⟩ := blk_rules bRr
      clear hO4 hF4 bPr bRr HA hbW
      go_wp2
      refine bodyPost_ret (v := .agg #[.int .i64 kind, .int .i64 n, .string s, .slice A3 n3 c3, .slice A4 n4 c4]) (by simp [results, Tryz.results46, go_sem, cR]) rfl ?_
      obtain ⟨W, eW⟩ : ∃ W, W = setAll (wr.setCell ⟨w.heap.size, 4, none⟩ (.slice A4 n4 c4)) (w.heap.size + 1) 0 [.int .i64 kind, .int .i64 n, .string s, .slice A3 n3 c3, .slice A4 n4 c4] := ⟨_, rfl⟩
      show ∃ vs fp, _ ∧ ODv (setAll (wr.setCell ⟨w.heap.size, 4, none⟩ (.slice A4 n4 c4)) (w.heap.size + 1) 0 [.int .i64 kind, .int .i64 n, .string s, .slice A3 n3 c3, .slice A4 n4 c4]) _ vs fp ∧ Fresh w (setAll (wr.setCell ⟨w.heap.size, 4, none⟩ (.slice A4 n4 c4)) (w.heap.size + 1) 0 [.int .i64 kind, .int .i64 n, .string s, .slice A3 n3 c3, .slice A4 n4 c4]) fp ∧ Below w.heap.size w (setAll (wr.setCell ⟨w.heap.size, 4, none⟩ (.slice A4 n4 c4)) (w.heap.size + 1) 0 [.int .i64 kind, .int .i64 n, .string s, .slice A3 n3 c3, .slice A4 n4 c4])
      rw [← eW]
      have hsz : W.heap.size = wr.heap.size := by rw [eW, setAll_size]; simp [World.setCell]
      have hblk : ∀ b, b ≠ w.heap.size → b ≠ w.heap.size + 1 → W.heap[b]? = wr.heap[b]? := fun b h1 h2 => by
        rw [eW, setAll_other _ _ _ _ _ h2, Below.heap_setCell _ _ _ _ h1]
      have hws := HWs.out
      have hF3 := F3.out
      have hO3 : OD wr (.row 1 keys.length (strDs keys)) (.slice A3 n3 c3) f3 := OD.keep _ _ _ (fun b hb => by
        have := hF3.2 b hb
        rw [HB.out.block b this.2]
        exact Below.heap_setCell _ _ _ _ (by show b ≠ w.heap.size; omega)) O3.out
      obtain ⟨k1, k2⟩ := val_close (w := w) (W := W) (kind := kind) (n := n) (lo := W1.heap.size) (mid := w3.heap.size) hs hO3 HO4.out hF3.1 hF3.2 HF4.out.1 HF4.out.2 (by omega) hz5 (by omega) (by omega) (fun b h1 _ => hblk b (by omega) (by omega))
      exact ⟨_, _, rfl, k1, k2, by rw [eW]; exact setAll_below _ (by omega) (HbW.out.setCell (by show w.heap.size ≤ w.heap.size; omega) _)⟩
theorem clone_calls : ∀ v, CopyVal 46 v := Val.ind fun kind n s keys list ih => clone_of _ fun _ _ _ _ _ e => by
  injection e with e1 e2 e3 e4 e5
  subst e5
  exact ih
end Go.Proofs.YtppfgepoegicgaaGreatDoor
