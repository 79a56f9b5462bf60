/- Data that lie in blocks of the program's own, with the list of these blocks. -/
import Derived.Test.YtppfgepoegicgaaDoorBase
import Derived.Deep.OwnRows
namespace Go.Proofs.YtppfgepoegicgaaDoor
open Go Go.RowKit

def Blk (w : World) (g : Nat) (t : TypeId) (cs : List Value) : Prop := w.heap[g]? = some (.cells cs.toArray t (0, 0))

section
variable {w w' : World} {g : Nat} {t : TypeId} {cs : List Value}
theorem Blk.lt (h : Blk w g t cs) : g < w.heap.size := by
  rcases Nat.lt_or_ge g w.heap.size with hlt | hge
  · exact hlt
  · unfold Blk at h; rw [Array.getElem?_eq_none hge] at h; cases h
theorem Blk.cell (h : Blk w g t cs) (i : Nat) : w.cell? ⟨g, i, none⟩ = cs[i]? := by
  have := cell_of_row w g i cs.toArray t (0, 0) h
  simpa using this
theorem Blk.frozen (h : Blk w g t cs) (i : Nat) : w.frozen? ⟨g, i, none⟩ = false := by
  unfold Blk at h
  simp [World.frozen?, h]
theorem Blk.new (w : World) (t : TypeId) (cs : List Value) : Blk (w.alloc (.cells cs.toArray t)) w.heap.size t cs := heap_alloc_new w _
theorem Blk.drewN (h : Blk w g t cs) (n : Nat) : Blk (w.drewN n) g t cs := h
theorem Blk.drew (h : Blk w g t cs) : Blk w.drew g t cs := h
theorem Blk.same (h : Blk w g t cs) (hk : w'.heap[g]? = w.heap[g]?) : Blk w' g t cs := hk.trans h
theorem Blk.alloc (h : Blk w g t cs) (o : Obj) : Blk (w.alloc o) g t cs := h.same (Below.heap_alloc w o g h.lt)
theorem Blk.below (h : Blk w g t cs) (hb : Below w.heap.size w w') : Blk w' g t cs := h.same (hb.block g h.lt)
theorem Blk.set_ (h : Blk w g t cs) (i : Nat) (u : Value) : Blk (w.setCell ⟨g, i, none⟩ u) g t (cs.set i u) := by
  unfold Blk at h ⊢
  simp [World.setCell, Array.getElem?_modify, h]
theorem Blk.far (h : Blk w g t cs) {p : Addr} (hp : g ≠ p.block) (u : Value) : Blk (w.setCell p u) g t cs := h.same (Below.heap_setCell w p u g hp)
end

theorem blk_rules {w : World} {g : Nat} {t : TypeId} {cs : List Value} (h : Blk w g t cs) : (∀ i, w.cell? ⟨g, i, none⟩ = cs[i]?) ∧ (∀ i, w.frozen? ⟨g, i, none⟩ = false) := ⟨h.cell, h.frozen⟩
theorem Blk.set_then {w w2 : World} {g i : Nat} {t : TypeId} {cs : List Value} {u : Value} (h : Blk w g t cs) (hb : Below (w.setCell ⟨g, i, none⟩ u).heap.size (w.setCell ⟨g, i, none⟩ u) w2) : Blk w2 g t (cs.set i u) := (h.set_ i u).below hb
theorem Blk.far_then {w w2 : World} {g : Nat} {t : TypeId} {cs : List Value} {p : Addr} {u : Value} (h : Blk w g t cs) (hne : g ≠ p.block) (hb : Below (w.setCell p u).heap.size (w.setCell p u) w2) : Blk w2 g t cs := (h.far hne u).below hb
/-- Two blocks having been made. -/
theorem boxes2 {w w1 : World} {P R : List Value} {tp tr : TypeId} (hb : Below (w.heap.size + 1 + 1) ((w.alloc (.cells P.toArray tp)).alloc (.cells R.toArray tr)) w1) :
    Below w.heap.size w w1 ∧ w.heap.size + 1 + 1 ≤ w1.heap.size ∧ Blk w1 w.heap.size tp P ∧ Blk w1 (w.heap.size + 1) tr R := by
  have e1 : ∀ (w : World) (o : Obj), (w.alloc o).heap.size = w.heap.size + 1 := fun w o => by simp
  have hb' : Below ((w.alloc (.cells P.toArray tp)).alloc (.cells R.toArray tr)).heap.size ((w.alloc (.cells P.toArray tp)).alloc (.cells R.toArray tr)) w1 := by rw [e1, e1]; exact hb
  obtain ⟨h1, h2, _, _⟩ := bbox2 hb'
  refine ⟨h1, h2, ((Blk.new w tp P).alloc _).below hb', ?_⟩
  have := (Blk.new (w.alloc (.cells P.toArray tp)) tr R).below hb'
  rwa [e1] at this
theorem boxes2_of {w w1 : World} {o1 o2 : Obj} (hb : Below ((w.alloc o1).alloc o2).heap.size ((w.alloc o1).alloc o2) w1) : Below (w.heap.size + 1 + 1) ((w.alloc o1).alloc o2) w1 := by
  have e1 : ∀ (w : World) (o : Obj), (w.alloc o).heap.size = w.heap.size + 1 := fun w o => by simp
  rwa [e1, e1] at hb
/-- One block having been made. -/
theorem boxes1 {w w1 : World} {P : List Value} {tp : TypeId} (hb : Below (w.heap.size + 1) (w.alloc (.cells P.toArray tp)) w1) :
    Below w.heap.size w w1 ∧ w.heap.size + 1 ≤ w1.heap.size ∧ Blk w1 w.heap.size tp P := by
  have e1 : (w.alloc (.cells P.toArray tp)).heap.size = w.heap.size + 1 := by simp
  have hb' : Below (w.alloc (.cells P.toArray tp)).heap.size (w.alloc (.cells P.toArray tp)) w1 := by rw [e1]; exact hb
  obtain ⟨h1, h2, _, _⟩ := bbox hb'
  exact ⟨h1, h2, (Blk.new w tp P).below hb'⟩
theorem boxes1_of {w w1 : World} {o1 : Obj} (hb : Below (w.alloc o1).heap.size (w.alloc o1) w1) : Below (w.heap.size + 1) (w.alloc o1) w1 := by
  have e1 : (w.alloc o1).heap.size = w.heap.size + 1 := by simp
  rwa [e1] at hb
/-- Behind a call, three blocks having been made. -/
theorem boxes3 {w w1 : World} {P R O : List Value} {tp tr to : TypeId} (hb : Below (((w.alloc (.cells P.toArray tp)).alloc (.cells R.toArray tr)).alloc (.cells O.toArray to)).heap.size (((w.alloc (.cells P.toArray tp)).alloc (.cells R.toArray tr)).alloc (.cells O.toArray to)) w1) :
    Below w.heap.size w w1 ∧ w.heap.size + 1 + 1 + 1 ≤ w1.heap.size ∧ Blk w1 w.heap.size tp P ∧ Blk w1 (w.heap.size + 1) tr R ∧ Blk w1 (w.heap.size + 1 + 1) to O := by
  obtain ⟨h1, h2, _, _⟩ := bbox3 hb
  have e1 : ∀ (w : World) (o : Obj), (w.alloc o).heap.size = w.heap.size + 1 := fun w o => by simp
  refine ⟨h1, h2, (((Blk.new w tp P).alloc _).alloc _).below hb, ?_, ?_⟩
  · have := ((Blk.new (w.alloc (.cells P.toArray tp)) tr R).alloc (.cells O.toArray to)).below hb
    rwa [e1] at this
  · have := (Blk.new ((w.alloc (.cells P.toArray tp)).alloc (.cells R.toArray tr)) to O).below hb
    rwa [e1, e1] at this

/-- A slice of n elements of sz cells whose cells are us: its block is its own, and is all that fp0 lists. -/
def OSl (w : World) (sz : Nat) (c : Value) (n : Nat) (us : List Value) (fp0 : List Nat) : Prop :=
  (∃ A cap, c = .slice A n cap ∧ n = 0 ∧ us = [] ∧ fp0 = []) ∨
  (∃ g cap t cs, c = .slice (some ⟨g, 0, none⟩) n cap ∧ 0 < n ∧ n ≤ cap ∧ n ≤ 9223372036854775807 ∧ fp0 = [g] ∧ Blk w g t cs ∧ us.length = n * sz ∧ us <+: cs)

mutual
def OD (w : World) : Dat → Value → List Nat → Prop
  | .int n, c, fp => c = .int .i64 n ∧ fp = []
  | .str s, c, fp => c = .string s ∧ s.size ≤ 9223372036854775807 ∧ fp = []
  | .row sz n cells, c, fp => ∃ us f0 f1, fp = f0 ++ f1 ∧ OSl w sz c n us f0 ∧ ODv w cells us f1
def ODv (w : World) : List Dat → List Value → List Nat → Prop
  | [], us, fp => us = [] ∧ fp = []
  | d :: ds, us, fp => ∃ u us' f1 f2, us = u :: us' ∧ fp = f1 ++ f2 ∧ OD w d u f1 ∧ ODv w ds us' f2
end

theorem OSl.keep {w w' : World} {sz n : Nat} {c : Value} {us : List Value} {fp : List Nat} (hk : ∀ b ∈ fp, w'.heap[b]? = w.heap[b]?) (h : OSl w sz c n us fp) : OSl w' sz c n us fp := by
  rcases h with h | ⟨g, cap, t, cs, h1, h2, h3, h4, h5, h6, h7⟩
  · exact .inl h
  · exact .inr ⟨g, cap, t, cs, h1, h2, h3, h4, h5, h6.same (hk g (by rw [h5]; exact List.mem_singleton.2 rfl)), h7⟩
theorem OSl.lt {w : World} {sz n : Nat} {c : Value} {us : List Value} {fp : List Nat} (h : OSl w sz c n us fp) : ∀ b ∈ fp, b < w.heap.size := by
  rcases h with ⟨_, _, _, _, _, rfl⟩ | ⟨g, cap, t, cs, h1, h2, h3, h4, rfl, h6, h7⟩
  · intro b hb
    cases hb
  · intro b hb
    rw [List.mem_singleton.1 hb]
    exact h6.lt
theorem OSl.reads {w : World} {sz n B : Nat} {c : Value} {us : List Value} {fp : List Nat} (h : OSl w sz c n us fp) (hB : ∀ b ∈ fp, b < B) :
    ∃ A cap, c = .slice A n cap ∧ (n ≤ cap ∨ n = 0) ∧ n ≤ 9223372036854775807 ∧ Reads w B sz A n us := by
  rcases h with ⟨A, cap, rfl, rfl, rfl, rfl⟩ | ⟨g, cap, t, cs, rfl, h2, h3, h4, rfl, h6, h7, h8⟩
  · exact ⟨A, cap, rfl, .inr rfl, by omega, Reads.none_ A⟩
  · refine ⟨_, cap, rfl, .inl h3, h4, h7, fun _ => ⟨_, rfl, hB g (List.mem_singleton.2 rfl), fun j u hj => ?_⟩⟩
    have e : (⟨g, 0, none⟩ : Addr).add j = ⟨g, j, none⟩ := by unfold Addr.add; split <;> simp_all
    rw [e, h6.cell]
    obtain ⟨r, rfl⟩ := h8
    rw [List.getElem?_append_left (List.getElem?_eq_some_iff.1 hj).1]
    exact hj

mutual
theorem OD.keep {w w' : World} : ∀ (d : Dat) (c : Value) (fp : List Nat), (∀ b ∈ fp, w'.heap[b]? = w.heap[b]?) → OD w d c fp → OD w' d c fp
  | .int _, _, _, _, h => h
  | .str _, _, _, _, h => h
  | .row _ _ cells, _, _, hk, h => by
    obtain ⟨us, f0, f1, rfl, h1, h2⟩ := h
    exact ⟨us, f0, f1, rfl, h1.keep fun b hb => hk b (List.mem_append_left _ hb), ODv.keep cells us f1 (fun b hb => hk b (List.mem_append_right _ hb)) h2⟩
theorem ODv.keep {w w' : World} : ∀ (ds : List Dat) (us : List Value) (fp : List Nat), (∀ b ∈ fp, w'.heap[b]? = w.heap[b]?) → ODv w ds us fp → ODv w' ds us fp
  | [], _, _, _, h => h
  | d :: ds, _, _, hk, h => by
    obtain ⟨u, us', f1, f2, rfl, rfl, h1, h2⟩ := h
    exact ⟨u, us', f1, f2, rfl, rfl, OD.keep d u f1 (fun b hb => hk b (List.mem_append_left _ hb)) h1, ODv.keep ds us' f2 (fun b hb => hk b (List.mem_append_right _ hb)) h2⟩
end
mutual
theorem OD.lt {w : World} : ∀ (d : Dat) (c : Value) (fp : List Nat), OD w d c fp → ∀ b ∈ fp, b < w.heap.size
  | .int _, _, _, h, b, hb => by rw [h.2] at hb; cases hb
  | .str _, _, _, h, b, hb => by rw [h.2.2] at hb; cases hb
  | .row _ _ cells, _, _, h, b, hb => by
    obtain ⟨us, f0, f1, rfl, h1, h2⟩ := h
    rcases List.mem_append.1 hb with hb | hb
    · exact h1.lt b hb
    · exact ODv.lt cells us f1 h2 b hb
theorem ODv.lt {w : World} : ∀ (ds : List Dat) (us : List Value) (fp : List Nat), ODv w ds us fp → ∀ b ∈ fp, b < w.heap.size
  | [], _, _, h, b, hb => by rw [h.2] at hb; cases hb
  | d :: ds, _, _, h, b, hb => by
    obtain ⟨u, us', f1, f2, rfl, rfl, h1, h2⟩ := h
    rcases List.mem_append.1 hb with hb | hb
    · exact OD.lt d u f1 h1 b hb
    · exact ODv.lt ds us' f2 h2 b hb
end
mutual
/-- What is owned can be read. -/
theorem OD.rd {w : World} {B : Nat} : ∀ (d : Dat) (c : Value) (fp : List Nat), (∀ b ∈ fp, b < B) → OD w d c fp → RD w B d c
  | .int _, _, _, _, h => h.1
  | .str _, _, _, _, h => ⟨h.1, h.2.1⟩
  | .row _ _ cells, _, _, hk, h => by
    obtain ⟨us, f0, f1, rfl, h1, h2⟩ := h
    obtain ⟨A, cap, e, h3, h4, h5⟩ := h1.reads fun b hb => hk b (List.mem_append_left _ hb)
    exact ⟨A, cap, us, e, by omega, h4, h5, ODv.rd cells us f1 (fun b hb => hk b (List.mem_append_right _ hb)) h2⟩
theorem ODv.rd {w : World} {B : Nat} : ∀ (ds : List Dat) (us : List Value) (fp : List Nat), (∀ b ∈ fp, b < B) → ODv w ds us fp → RDv w B ds us
  | [], _, _, _, h => h.1
  | d :: ds, _, _, hk, h => by
    obtain ⟨u, us', f1, f2, rfl, rfl, h1, h2⟩ := h
    exact ⟨u, us', rfl, OD.rd d u f1 (fun b hb => hk b (List.mem_append_left _ hb)) h1, ODv.rd ds us' f2 (fun b hb => hk b (List.mem_append_right _ hb)) h2⟩
end
theorem ODv.length_eq {w : World} : ∀ {ds : List Dat} {us : List Value} {fp : List Nat}, ODv w ds us fp → us.length = ds.length
  | [], _, _, h => by rw [h.1]; rfl
  | _ :: _, _, _, ⟨_, _, _, _, e, _, _, h⟩ => by rw [e]; simp [ODv.length_eq h]
theorem ODv.append {w : World} {es : List Dat} {us2 : List Value} {f2 : List Nat} : ∀ {ds : List Dat} {us1 : List Value} {f1 : List Nat}, ODv w ds us1 f1 → ODv w es us2 f2 → ODv w (ds ++ es) (us1 ++ us2) (f1 ++ f2)
  | [], _, _, h, k => by rw [h.1, h.2]; exact k
  | _ :: _, _, _, ⟨u, us', g1, g2, e1, e2, h1, h2⟩, k => by
    rw [e1, e2]
    exact ⟨u, us' ++ us2, g1, g2 ++ f2, rfl, by rw [List.append_assoc], h1, ODv.append h2 k⟩

theorem ODv.rd' {w : World} {ds : List Dat} {us : List Value} {fp : List Nat} (h : ODv w ds us fp) : RDv w w.heap.size ds us := ODv.rd ds us fp (ODv.lt ds us fp h) h
theorem OD.rd' {w : World} {d : Dat} {c : Value} {fp : List Nat} (h : OD w d c fp) : RD w w.heap.size d c := OD.rd d c fp (OD.lt d c fp h) h
/-- Made behind world w: its blocks are new, each once. -/
def Fresh (w w' : World) (fp : List Nat) : Prop := fp.Nodup ∧ ∀ b ∈ fp, w.heap.size ≤ b ∧ b < w'.heap.size
theorem Fresh.nil (w w' : World) : Fresh w w' [] := ⟨List.nodup_nil, fun _ h => by cases h⟩
theorem Fresh.more {w w1 w2 : World} {fp : List Nat} (h : Fresh w w1 fp) (hz : w1.heap.size ≤ w2.heap.size) : Fresh w w2 fp := ⟨h.1, fun b hb => ⟨(h.2 b hb).1, Nat.lt_of_lt_of_le (h.2 b hb).2 hz⟩⟩
theorem Fresh.from_ {w0 w w1 : World} {fp : List Nat} (h : Fresh w w1 fp) (hz : w0.heap.size ≤ w.heap.size) : Fresh w0 w1 fp := ⟨h.1, fun b hb => ⟨Nat.le_trans hz (h.2 b hb).1, (h.2 b hb).2⟩⟩
theorem Fresh.append {w w1 w2 : World} {f1 f2 : List Nat} (h1 : Fresh w w1 f1) (h2 : Fresh w1 w2 f2) (hz : w.heap.size ≤ w1.heap.size) (hz2 : w1.heap.size ≤ w2.heap.size) : Fresh w w2 (f1 ++ f2) := by
  refine ⟨List.nodup_append.2 ⟨h1.1, h2.1, fun a ha b hb e => ?_⟩, fun b hb => ?_⟩
  · have := (h1.2 a ha).2
    have := (h2.2 b hb).1
    omega
  · rcases List.mem_append.1 hb with hb | hb
    · have := h1.2 b hb
      omega
    · have := h2.2 b hb
      omega

/-! ### make, and a loop that fills what was made -/
def zeros (n : Nat) (z : List Value) : List Value := (List.replicate n z).flatten
theorem zeros_succ (n : Nat) (z : List Value) : zeros (n + 1) z = z ++ zeros n z := by simp [zeros, List.replicate_succ]
theorem zeros_zero (z : List Value) : zeros 0 z = [] := rfl
theorem zeros_length (n : Nat) (z : List Value) : (zeros n z).length = n * z.length := by
  induction n with
  | zero => simp [zeros]
  | succ n ih => rw [zeros_succ, List.length_append, ih, Nat.succ_mul, Nat.add_comm]

theorem madeCells_zeros (z : Array Value) (n : Nat) : (madeCells z (n * z.size)).toList = zeros n z.toList := by
  apply List.ext_getElem?
  induction n with
  | zero => intro i; simp [madeCells, zeros]
  | succ n ih =>
    intro i
    rw [zeros_succ]
    by_cases hi : i < z.size
    · have h1 : i < (n + 1) * z.size := by rw [Nat.succ_mul]; omega
      rw [List.getElem?_append_left (by simpa using hi)]
      simp [madeCells, h1, hi, Nat.mod_eq_of_lt hi]
    · rw [List.getElem?_append_right (by simpa using hi)]
      have e := ih (i - z.toList.length)
      rw [← e]
      simp only [madeCells, Array.getElem?_toList, Array.getElem?_map, Array.length_toList]
      by_cases h2 : i < (n + 1) * z.size
      · have h3 : i - z.size < n * z.size := by rw [Nat.succ_mul] at h2; omega
        have h4 : (i - z.size) % z.size = i % z.size := (Nat.mod_eq_sub_mod (by omega)).symm
        simp [h2, h3, h4]
      · have h3 : ¬ i - z.size < n * z.size := by rw [Nat.succ_mul] at h2; omega
        simp [h2, h3]

theorem info_parts' {P : Program} {e : TypeId} {z : Value} {size bytes : Nat} (h : (P.info? e).map (fun i => (i.zero, i.size, i.bytes)) = some (some z, size, bytes)) :
    ∃ i, P.info? e = some i ∧ i.zero = some z ∧ i.size = size ∧ i.bytes = bytes := by
  obtain ⟨i, hi, hzz⟩ := Option.map_eq_some_iff.1 h
  simp only [Prod.mk.injEq] at hzz
  exact ⟨i, hi, hzz.1, hzz.2.1, hzz.2.2⟩
/-- make([]T, n): the new block is n times the zero value's cells. -/
theorem make_row {P : Program} {t e : TypeId} {z : Value} {size bytes : Nat} (zs : List Value) (ht : P.underlying t = some (.slice e)) (hinfo : (P.info? e).map (fun i => (i.zero, i.size, i.bytes)) = some (some z, size, bytes)) (hzs : z.cells = zs.toArray) (hsz : zs.length = size)
    (n : Nat) (hbytes : bytes * n ≤ 281474976710656) (h63 : n ≤ 9223372036854775807) :
    ∀ w : World, (Instr.makeSlice t (.int .i64 (n : Int)) (.int .i64 (n : Int))).run P w = .ok (.slice (some ⟨w.heap.size, 0, none⟩) n n) (w.alloc (.cells (zeros n zs).toArray e)) := by
  intro w
  obtain ⟨i, hi, hz, hs, hb⟩ := info_parts' hinfo
  have hb' : (i.bytes : Int) * (n : Int) ≤ 281474976710656 := by
    rw [hb]
    have h : ((bytes * n : Nat) : Int) ≤ 281474976710656 := by omega
    rwa [Int.natCast_mul] at h
  have hr := run_make (P := P) w t e i z ht hi hz .i64 .i64 n n (by omega) (by omega) hb' (by omega)
  simp only [Int.toNat_natCast] at hr
  have e1 := madeCells_zeros z.cells n
  rw [hzs] at e1
  have e2 : (zs.toArray).size = size := by simpa using hsz
  rw [e2] at e1
  rw [hr, hs, hzs]
  congr 3
  rw [← e1]

def setAll (w : World) (g : Nat) : Nat → List Value → World
  | _, [] => w
  | o, u :: us => setAll (w.setCell ⟨g, o, none⟩ u) g (o + 1) us
theorem Blk.setAll : ∀ {w : World} {g : Nat} {t : TypeId} (news : List Value) {pre old rest : List Value}, old.length = news.length → Blk w g t (pre ++ (old ++ rest)) → Blk (setAll w g pre.length news) g t (pre ++ (news ++ rest))
  | _, _, _, [], pre, old, rest, hl, h => by
    have : old = [] := List.eq_nil_of_length_eq_zero (by simpa using hl)
    subst this
    exact h
  | w, g, t, u :: news, pre, old, rest, hl, h => by
    match old, hl with
    | x :: old, hl =>
      have h1 := h.set_ pre.length u
      have e : (pre ++ ((x :: old) ++ rest)).set pre.length u = (pre ++ [u]) ++ (old ++ rest) := by
        rw [List.set_append_right _ _ (Nat.le_refl _)]
        simp
      rw [e] at h1
      have h2 := Blk.setAll news (by simpa using hl) h1
      simp only [List.length_append, List.length_cons, List.length_nil, Nat.zero_add, List.append_assoc, List.cons_append, List.nil_append] at h2
      exact h2
theorem setAll_other : ∀ (us : List Value) (w : World) (g o b : Nat), b ≠ g → (setAll w g o us).heap[b]? = w.heap[b]?
  | [], _, _, _, _, _ => rfl
  | u :: us, w, g, o, b, h => by
    rw [setAll, setAll_other us _ g (o + 1) b h]
    exact Below.heap_setCell w ⟨g, o, none⟩ u b h
theorem setAll_size : ∀ (us : List Value) (w : World) (g o : Nat), (setAll w g o us).heap.size = w.heap.size
  | [], _, _, _ => rfl
  | u :: us, w, g, o => by rw [setAll, setAll_size us]; simp [World.setCell]
theorem setAll_below : ∀ (us : List Value) {w0 w : World} {B g o : Nat}, B ≤ g → Below B w0 w → Below B w0 (setAll w g o us)
  | [], _, _, _, _, _, _, h => h
  | u :: us, _, _, _, g, o, hg, h => setAll_below us hg (h.setCell (p := ⟨g, o, none⟩) hg u)

/-- After k rounds of 'out[k] = ..' over a block made for n elements. -/
def ToInv (wr : World) (g t sz : Nat) (z : List Value) (n k : Nat) (ds : List Dat) : Prop :=
  ∃ us fp, Blk wr g t (us ++ zeros (n - k) z) ∧ us.length = k * sz ∧ ODv wr ds us fp ∧ fp.Nodup ∧ ∀ b ∈ fp, g < b ∧ b < wr.heap.size
theorem ToInv.start (w : World) (t sz : Nat) (z : List Value) (n : Nat) : ToInv (w.alloc (.cells (zeros n z).toArray t)) w.heap.size t sz z n 0 [] :=
  ⟨[], [], Blk.new w t _, by simp, ⟨rfl, rfl⟩, List.nodup_nil, fun _ h => by cases h⟩
theorem ToInv.step {wr w1 : World} {g t sz n k : Nat} {z : List Value} {ds ds1 : List Dat} {us1 : List Value} {f1 : List Nat} (h : ToInv wr g t sz z n k ds) (hk : k < n) (hz : z.length = sz)
    (hb : Below wr.heap.size wr w1) (h1 : ODv w1 ds1 us1 f1) (hl : us1.length = sz) (hf : Fresh wr w1 f1) :
    ToInv (setAll w1 g (k * sz) us1) g t sz z n (k + 1) (ds ++ ds1) := by
  obtain ⟨us, fp, hB, hu, hO, hN, hF⟩ := h
  have hg := hB.lt
  have hB1 := hB.below hb
  obtain ⟨m, hm⟩ : ∃ m, n - k = m + 1 := ⟨n - k - 1, by omega⟩
  rw [hm, zeros_succ] at hB1
  have hB2 := Blk.setAll us1 (by omega) hB1
  rw [hu] at hB2
  have hzb := hb.size
  refine ⟨us ++ us1, fp ++ f1, ?_, ?_, ?_, ?_, ?_⟩
  · rw [show n - (k + 1) = m by omega, List.append_assoc]
    exact hB2
  · rw [List.length_append, hu, hl, Nat.succ_mul]
  · refine ODv.append (ODv.keep ds us fp (fun b hb1 => ?_) hO) (ODv.keep ds1 us1 f1 (fun b hb1 => setAll_other _ _ _ _ _ ?_) h1)
    · have := hF b hb1
      rw [setAll_other _ _ _ _ _ (by omega)]
      exact hb.block b this.2
    · have := (hf.2 b hb1).1
      omega
  · refine List.nodup_append.2 ⟨hN, hf.1, fun a ha b hb e => ?_⟩
    have := (hF a ha).2
    have := (hf.2 b hb).1
    omega
  · intro b hb1
    rw [setAll_size]
    rcases List.mem_append.1 hb1 with hb1 | hb1
    · have := hF b hb1
      omega
    · have := hf.2 b hb1
      omega
/-- The cells that the next round writes are there. -/
theorem ToInv.there {wr : World} {g t sz n k : Nat} {z : List Value} {ds : List Dat} (h : ToInv wr g t sz z n k ds) (hk : k < n) (hz : z.length = sz) (j : Nat) (hj : j < sz) :
    (∃ x, wr.cell? ⟨g, k * sz + j, none⟩ = some x) ∧ wr.frozen? ⟨g, k * sz + j, none⟩ = false := by
  obtain ⟨us, fp, hB, hu, _⟩ := h
  obtain ⟨m, hm⟩ : ∃ m, n - k = m + 1 := ⟨n - k - 1, by omega⟩
  rw [hm, zeros_succ] at hB
  refine ⟨⟨z[j]'(by omega), ?_⟩, hB.frozen _⟩
  rw [hB.cell, List.getElem?_append_right (by omega), hu, Nat.add_sub_cancel_left, List.getElem?_append_left (by omega)]
  exact List.getElem?_eq_getElem (by omega)
theorem ToInv.lt {wr : World} {g t sz n k : Nat} {z : List Value} {ds : List Dat} (h : ToInv wr g t sz z n k ds) : g < wr.heap.size := by
  obtain ⟨us, fp, hB, _⟩ := h
  exact hB.lt
theorem ToInv.below {wr w1 : World} {g t sz n k : Nat} {z : List Value} {ds : List Dat} (h : ToInv wr g t sz z n k ds) (hb : Below wr.heap.size wr w1) : ToInv w1 g t sz z n k ds := by
  obtain ⟨us, fp, hB, hu, hO, hN, hF⟩ := h
  have := hb.size
  exact ⟨us, fp, hB.below hb, hu, ODv.keep ds us fp (fun b h => hb.block b (hF b h).2) hO, hN, fun b h => ⟨(hF b h).1, by have := (hF b h).2; omega⟩⟩
theorem ToInv.done {w wr : World} {g t sz n : Nat} {z : List Value} {ds : List Dat} (h : ToInv wr g t sz z n n ds) (hg : w.heap.size ≤ g) (hn : n ≤ 9223372036854775807) :
    ∃ fp, OD wr (.row sz n ds) (.slice (some ⟨g, 0, none⟩) n n) fp ∧ Fresh w wr fp := by
  obtain ⟨us, fp, hB, hu, hO, hN, hF⟩ := h
  have hlt := hB.lt
  rw [Nat.sub_self, zeros_zero, List.append_nil] at hB
  rcases Nat.eq_zero_or_pos n with h0 | h0
  · subst h0
    have : us = [] := List.eq_nil_of_length_eq_zero (by simpa using hu)
    subst this
    exact ⟨fp, ⟨[], [], fp, rfl, .inl ⟨_, _, rfl, rfl, rfl, rfl⟩, hO⟩, hN, fun b hb => by have := hF b hb; omega⟩
  · refine ⟨g :: fp, ⟨us, [g], fp, rfl, .inr ⟨g, n, t, us, rfl, h0, Nat.le_refl _, hn, rfl, hB, hu, ⟨[], by simp⟩⟩, hO⟩, List.nodup_cons.2 ⟨fun h => ?_, hN⟩, fun b hb => ?_⟩
    · have := hF g h
      omega
    · rcases List.mem_cons.1 hb with rfl | hb
      · omega
      · have := hF b hb
        omega
end Go.Proofs.YtppfgepoegicgaaDoor
