/- The program's put: the world between two statements of its walk. -/
import Derived.Test.YtppfgepoegicgaaGreatDoorGn
import Derived.Test.YtppfgepoegicgaaGreatDoorGr
import Derived.Test.YtppfgepoegicgaaGreatDoorGk
import Derived.Deep.DeepCutAuto
import Derived.Deep.RegionHeld3
import Derived.StillTailTactics
namespace Go.Proofs.YtppfgepoegicgaaGreatDoor
open Go Go.RowKit

theorem owns_setIn {w : World} {base sz n c g : Nat} {e : TypeId} {us : List Value} (h : w.ownsRow base e sz (.slice (some ⟨g, 0, none⟩) n c) n us) (k : Nat) (u : Value) : (w.setCell ⟨g, k, none⟩ u).ownsRow base e sz (.slice (some ⟨g, 0, none⟩) n c) n (us.set k u) := by
  obtain ⟨a1, a2 | ⟨g', cap, cur, e1, e2, e3, e4, e5, e6, e7⟩⟩ := h
  · cases a2.1
  · injection e1 with f1 _ f2
    injection f1 with f1
    injection f1 with f1
    subst f1 f2
    refine ⟨by simpa using a1, .inr ⟨g, c, cur.setIfInBounds k u, rfl, e2, ?_, e4, e5, by simpa using e6, ?_⟩⟩
    · rw [setCell_eq_setRow _ _ _ cur e (0, 0) u e3]
      exact setRow_heap _ _ cur _ _ _ e3
    · rw [← e7]
      simp [List.take_set]
theorem owns_setAllIn {base sz n c g : Nat} {e : TypeId} : ∀ (xs : List Value) {w : World} {pre old rest : List Value}, old.length = xs.length → w.ownsRow base e sz (.slice (some ⟨g, 0, none⟩) n c) n (pre ++ old ++ rest) → (setAll w g pre.length xs).ownsRow base e sz (.slice (some ⟨g, 0, none⟩) n c) n (pre ++ xs ++ rest)
  | [], _, pre, old, rest, hl, h => by
    obtain rfl : old = [] := List.eq_nil_of_length_eq_zero hl
    exact h
  | u :: xs, w, pre, [], rest, hl, _ => by simp at hl
  | u :: xs, w, pre, o :: old, rest, hl, h => by
    have h2 := owns_setIn h pre.length u
    have e : (pre ++ o :: old ++ rest).set pre.length u = (pre ++ [u]) ++ old ++ rest := by simp
    rw [e] at h2
    have h3 := owns_setAllIn xs (by simpa using hl) h2
    simpa [setAll] using h3
/-- The rows of the map that is being made, the map in block bx. -/
structure QInv (w : World) (bx : Nat) (xc : List Value) (K L : Value) (ks : List ByteArray) (nl : Nat) (ul : List Value) (W : World) : Prop where
  bel : Below w.heap.size w W
  bX : Blk W (w.heap.size + 1) 32 xc
  bR : Blk W (w.heap.size + 1 + 1) 32 [.int .i64 0, .int .i64 0, .string ⟨#[]⟩, .slice none 0 0, .slice none 0 0]
  low : w.heap.size + 3 ≤ bx
  bO : Blk W bx 32 [.int .i64 6, .int .i64 0, .string ⟨#[]⟩, K, L]
  rk : W.ownsRow (w.heap.size + 3) 9 1 K ks.length (ks.map Value.string)
  rl : W.ownsRow (w.heap.size + 3) 32 5 L nl ul
  nk : K.ownBlock ≠ some bx
  nl : L.ownBlock ≠ some bx
  ne : ∀ q, K.ownBlock = some q → L.ownBlock ≠ some q
section
variable {w : World} {bx : Nat} {xc : List Value} {K L : Value} {ks : List ByteArray} {n : Nat} {ul : List Value} {W : World}
theorem QInv.drewN (h : QInv w bx xc K L ks n ul W) (q : Nat) : QInv w bx xc K L ks n ul (W.drewN q) :=
  ⟨⟨h.bel.os, h.bel.tape, h.bel.output, h.bel.size, h.bel.block⟩, h.bX, h.bR, h.low, h.bO, h.rk, h.rl, h.nk, h.nl, h.ne⟩
/-- What an insert leaves as it was. -/
theorem q_same {row : Value} {base sz m : Nat} {e : TypeId} {us : List Value} (hr : W.ownsRow base e sz row m us) {o : Obj} {w2 : World} (hg : (W.alloc o).grownBy w2 row.ownBlock) : (∀ b, b < W.heap.size → row.ownBlock ≠ some b → w2.heap[b]? = W.heap[b]?) ∧ (∀ b, b < base → b < W.heap.size → w2.heap[b]? = W.heap[b]?) ∧ W.heap.size + 1 ≤ w2.heap.size := by
  have h1 : ∀ b, b < W.heap.size → row.ownBlock ≠ some b → w2.heap[b]? = W.heap[b]? := fun b hb hn => (hg.block b (by simp; omega) (fun e => hn e.symm)).trans (Below.heap_alloc _ _ _ hb)
  refine ⟨h1, fun b hb hlt => h1 b hlt fun e => ?_, by have := hg.size; simpa using this⟩
  have := hr.lt b e
  omega
/-- The keys' row has become another. -/
theorem QInv.key (h : QInv w bx xc K L ks n ul W) {o : Obj} {K' : Value} {ks' : List ByteArray} {w2 : World} (ho : w2.ownsRow (w.heap.size + 3) 9 1 K' ks'.length (ks'.map Value.string)) (hg : (W.alloc o).grownBy w2 K.ownBlock) (ha : K'.ownBlock = K.ownBlock ∨ ∃ k, K'.ownBlock = some k ∧ (W.alloc o).heap.size ≤ k) :
    Blk w2 bx 32 [.int .i64 6, .int .i64 0, .string ⟨#[]⟩, K, L] ∧ QInv w bx xc K' L ks' n ul (w2.setCell ⟨bx, 3, none⟩ K') := by
  obtain ⟨s1, s2, s3⟩ := q_same h.rk hg
  have hz := h.bel.size
  have hlt := h.bO.lt
  have hlow := h.low
  have hlk := h.rk.lt
  have hll := h.rl.lt
  have hb2 : Below w.heap.size w w2 := ⟨hg.os.trans h.bel.os, hg.tape.trans h.bel.tape, hg.output.trans h.bel.output, by omega, fun b hb => (s2 b (by omega) (by omega)).trans (h.bel.block b hb)⟩
  have hbo := h.bO.same (s1 _ hlt h.nk)
  have hnk' : K'.ownBlock ≠ some bx := fun e => by
    rcases ha with ha | ⟨k, h1, h2⟩
    · exact h.nk (ha ▸ e)
    · rw [h1] at e
      injection e with e
      simp at h2
      omega
  have hrl : w2.ownsRow (w.heap.size + 3) 32 5 L n ul := (h.rl.alloc o).kept hg (Classical.or_iff_not_imp_left.2 fun hn e => by
    obtain ⟨q, hq⟩ := Option.ne_none_iff_exists'.1 hn
    exact h.ne q (e ▸ hq) hq)
  have hf : ∀ g, g ≠ bx → (w2.setCell ⟨bx, 3, none⟩ K').heap[g]? = w2.heap[g]? := fun g hgn => Below.heap_setCell _ _ _ _ hgn
  refine ⟨hbo, ⟨hb2.setCell (by show w.heap.size ≤ bx; omega) _, (h.bX.same (s2 _ (by omega) (by omega))).same (hf _ (by omega)), (h.bR.same (s2 _ (by omega) (by omega))).same (hf _ (by omega)), hlow, hbo.set_ 3 _, owns_far ho hnk', owns_far hrl h.nl, hnk', h.nl, fun q hq hl => ?_⟩⟩
  rcases ha with ha | ⟨k, h1, h2⟩
  · exact h.ne q (ha ▸ hq) hl
  · rw [h1] at hq
    injection hq with hq
    have := hll q hl
    simp at h2
    omega
/-- The trees' row has become another. -/
theorem QInv.val (h : QInv w bx xc K L ks n ul W) {o : Obj} {L' : Value} {n' : Nat} {ul' : List Value} {w2 : World} (ho : w2.ownsRow (w.heap.size + 3) 32 5 L' n' ul') (hg : (W.alloc o).grownBy w2 L.ownBlock) (ha : L'.ownBlock = L.ownBlock ∨ ∃ k, L'.ownBlock = some k ∧ (W.alloc o).heap.size ≤ k) :
    Blk w2 bx 32 [.int .i64 6, .int .i64 0, .string ⟨#[]⟩, K, L] ∧ QInv w bx xc K L' ks n' ul' (w2.setCell ⟨bx, 4, none⟩ L') := by
  obtain ⟨s1, s2, s3⟩ := q_same h.rl hg
  have hz := h.bel.size
  have hlt := h.bO.lt
  have hlow := h.low
  have hlk := h.rk.lt
  have hll := h.rl.lt
  have hb2 : Below w.heap.size w w2 := ⟨hg.os.trans h.bel.os, hg.tape.trans h.bel.tape, hg.output.trans h.bel.output, by omega, fun b hb => (s2 b (by omega) (by omega)).trans (h.bel.block b hb)⟩
  have hbo := h.bO.same (s1 _ hlt h.nl)
  have hnl' : L'.ownBlock ≠ some bx := fun e => by
    rcases ha with ha | ⟨k, h1, h2⟩
    · exact h.nl (ha ▸ e)
    · rw [h1] at e
      injection e with e
      simp at h2
      omega
  have hrk : w2.ownsRow (w.heap.size + 3) 9 1 K ks.length (ks.map Value.string) := (h.rk.alloc o).kept hg (Classical.or_iff_not_imp_left.2 fun hn e => by
    obtain ⟨q, hq⟩ := Option.ne_none_iff_exists'.1 hn
    exact h.ne q hq (e ▸ hq))
  have hf : ∀ g, g ≠ bx → (w2.setCell ⟨bx, 4, none⟩ L').heap[g]? = w2.heap[g]? := fun g hgn => Below.heap_setCell _ _ _ _ hgn
  refine ⟨hbo, ⟨hb2.setCell (by show w.heap.size ≤ bx; omega) _, (h.bX.same (s2 _ (by omega) (by omega))).same (hf _ (by omega)), (h.bR.same (s2 _ (by omega) (by omega))).same (hf _ (by omega)), hlow, hbo.set_ 4 _, owns_far hrk h.nk, owns_far ho hnl', h.nk, hnl', fun q hq hl => ?_⟩⟩
  rcases ha with ha | ⟨k, h1, h2⟩
  · exact h.ne q hq (ha ▸ hl)
  · rw [h1] at hl
    injection hl with hl
    have := hlk q hq
    simp at h2
    omega
/-- A tree has come into the place of another. -/
theorem QInv.hit {g c : Nat} (h : QInv w bx xc K (.slice (some ⟨g, 0, none⟩) n c) ks n ul W) {xs : List Value} (hx : xs.length = 5) {i : Nat} (hi : i < n) :
    QInv w bx xc K (.slice (some ⟨g, 0, none⟩) n c) ks n (ul.take (i * 5) ++ xs ++ ul.drop ((i + 1) * 5)) (setAll W g (i * 5) xs) := by
  have hgl := h.rl.lt g rfl
  have hul := h.rl.1
  have hlow := h.low
  have hnk : K.ownBlock ≠ some g := fun e => h.ne g e rfl
  have hnb : bx ≠ g := fun e => h.nl (by rw [e]; rfl)
  have hf : ∀ b, b ≠ g → (setAll W g (i * 5) xs).heap[b]? = W.heap[b]? := fun b hb => setAll_other _ _ _ _ _ hb
  refine ⟨setAll_below _ (by omega) h.bel, h.bX.same (hf _ (by omega)), h.bR.same (hf _ (by omega)), hlow, h.bO.same (hf _ hnb), ?_, ?_, h.nk, h.nl, h.ne⟩
  · obtain ⟨a1, a2⟩ := h.rk
    refine ⟨a1, ?_⟩
    rcases a2 with a2 | ⟨g', cap, cur, e1, e2, e3, r⟩
    · exact .inl a2
    · exact .inr ⟨g', cap, cur, e1, e2, (hf g' (fun e => hnk (by rw [e1, ← e]; rfl))).trans e3, r⟩
  · have hp : ul = ul.take (i * 5) ++ (ul.drop (i * 5)).take 5 ++ ul.drop ((i + 1) * 5) := by
      rw [List.append_assoc, show (i + 1) * 5 = i * 5 + 5 by omega, ← List.drop_drop, List.take_append_drop, List.take_append_drop]
    have hrl := h.rl
    rw [hp] at hrl
    have h2 := owns_setAllIn xs (by rw [List.length_take, List.length_drop, hul, hx]; omega) hrl
    rwa [List.length_take, hul, Nat.min_eq_left (by omega)] at h2
/-- What comes out. -/
theorem QInv.result {G : World} {B : Nat} {vs : List Val} {l : List (ByteArray × Val)} (h : QInv w bx xc K L ks n ul W) (hn : n = vs.length) (hr : RDv G B (valsDs vs) ul) (hB : B ≤ w.heap.size) (hlen : ks.length = vs.length) (hz : l = ks.zip vs) (hs : ∀ s ∈ ks, s.size ≤ 9223372036854775807) (P : Ending → World → Prop)
    (hP : ∀ vs W, (∀ W', Sub B G W' → (∀ b, w.heap.size ≤ b → b < W.heap.size → W'.heap[b]? = W.heap[b]?) → W'.heap.size = W.heap.size → RDv W' W'.heap.size (valDs (ofPairs l)) vs) → Below w.heap.size w W → P (.returned (.agg vs.toArray)) W) :
    P (.returned (.agg #[.int .i64 6, .int .i64 0, .string ⟨#[]⟩, K, L])) (setAll W (w.heap.size + 1 + 1) 0 [.int .i64 6, .int .i64 0, .string ⟨#[]⟩, K, L]) := by
  subst hn
  have e1 : l.map (·.1) = ks := by rw [hz]; exact List.map_fst_zip (by omega)
  have e2 : l.map (·.2) = vs := by rw [hz]; exact List.map_snd_zip (by omega)
  have hlow := h.low
  refine hP [.int .i64 6, .int .i64 0, .string ⟨#[]⟩, K, L] _ (fun W' hG hW hZ => ?_) (setAll_below _ (by omega) h.bel)
  rw [setAll_size] at hZ hW
  have keep : ∀ {e : TypeId} {sz n : Nat} {v : Value} {xs : List Value}, W.ownsRow (w.heap.size + 3) e sz v n xs → W'.ownsRow (w.heap.size + 3) e sz v n xs := fun {e sz n v xs} ho => by
    obtain ⟨a1, a2⟩ := owns_setAll (g := w.heap.size + 1 + 1) (o := 0) [.int .i64 6, .int .i64 0, .string ⟨#[]⟩, K, L] ho (by omega)
    refine ⟨a1, ?_⟩
    rcases a2 with a2 | ⟨g, cap, cur, e1, e2, e3, r⟩
    · exact .inl a2
    · refine .inr ⟨g, cap, cur, e1, e2, ?_, r⟩
      have hlt : g < W.heap.size := by
        have h4 := (Array.getElem?_eq_some_iff.1 e3).1
        rwa [setAll_size] at h4
      rw [hW g (by omega) hlt]
      exact e3
  obtain ⟨A1, c1, rfl⟩ := slice_of_owns h.rk
  obtain ⟨A2, c2, rfl⟩ := slice_of_owns h.rl
  rw [ofPairs, valDs, e1, e2]
  exact ⟨_, _, rfl, rfl, _, _, rfl, rfl, _, _, rfl, ⟨rfl, by decide⟩, _, _, rfl, rd_of_owns (keep h.rk) (strDs_rd _ _ hs), _, _, rfl, rd_of_owns (keep h.rl) (RDv.grow (by rw [hZ]; have := h.bel.size; omega) hG _ _ hr), rfl⟩
end
/-- The rows have been copied; the map's block was made behind the copies. -/
theorem q_last {w w1 w2 w3 : World} {xc : List Value} {K L : Value} {ks : List ByteArray} {n : Nat} {ul : List Value} (hz : w.heap.size + 3 ≤ w1.heap.size) (hb : Below w.heap.size w w1) (bX : Blk w1 (w.heap.size + 1) 32 xc) (bR : Blk w1 (w.heap.size + 1 + 1) 32 [.int .i64 0, .int .i64 0, .string ⟨#[]⟩, .slice none 0 0, .slice none 0 0])
    (hb2 : Below w1.heap.size w1 w2) (hk : w2.ownsRow w1.heap.size 9 1 K ks.length (ks.map Value.string)) (hb3 : Below w2.heap.size w2 w3) (hl : w3.ownsRow w2.heap.size 32 5 L n ul) :
    QInv w w3.heap.size xc K L ks n ul (w3.alloc (.cells #[.int .i64 6, .int .i64 0, .string ⟨#[]⟩, K, L] 32)) := by
  have z2 := hb2.size
  have z3 := hb3.size
  have hk3 : w3.ownsRow w1.heap.size 9 1 K ks.length (ks.map Value.string) := hk.kept (row := none) ⟨hb3.os, hb3.tape, hb3.output, hb3.size, fun b hb _ => hb3.block b hb⟩ (by cases K.ownBlock <;> simp)
  have low : ∀ {e : TypeId} {sz m base : Nat} {v : Value} {us : List Value}, w.heap.size + 3 ≤ base → w3.ownsRow base e sz v m us → (w3.alloc (.cells #[.int .i64 6, .int .i64 0, .string ⟨#[]⟩, K, L] 32)).ownsRow (w.heap.size + 3) e sz v m us := fun {e sz m base v us} hlo ho => by
    obtain ⟨a1, a2⟩ := ho.alloc (.cells #[.int .i64 6, .int .i64 0, .string ⟨#[]⟩, K, L] 32)
    refine ⟨a1, a2.imp id ?_⟩
    rintro ⟨g, cap, cur, e1, e2, r⟩
    exact ⟨g, cap, cur, e1, by omega, r⟩
  refine ⟨hb.trans (((hb2.trans (hb3.mono z2)).trans ((below_box w3 _).mono (Nat.le_trans z2 z3))).mono hb.size), ((bX.below hb2).below hb3).alloc _, ((bR.below hb2).below hb3).alloc _, by omega, Blk.new _ _ _, low hz hk3, low (by omega) hl, fun e => ?_, fun e => ?_, fun q h1 h2 => ?_⟩
  · have := hk.lt _ e; omega
  · have := hl.lt _ e; omega
  · have := hk.lt _ h1; have := hl.lt _ h2; omega
/-- .. and the map's block was made ahead of them, or between them, and has been written. -/
theorem q_store {w w1 w3 : World} {bx : Nat} {xc : List Value} {K L : Value} {ks : List ByteArray} {n : Nat} {ul : List Value} (hz : w.heap.size + 3 ≤ w1.heap.size) (hb : Below w.heap.size w w1) (bX : Blk w1 (w.heap.size + 1) 32 xc) (bR : Blk w1 (w.heap.size + 1 + 1) 32 [.int .i64 0, .int .i64 0, .string ⟨#[]⟩, .slice none 0 0, .slice none 0 0])
    (hb3 : Below w1.heap.size w1 w3) (hk : w3.ownsRow w1.heap.size 9 1 K ks.length (ks.map Value.string)) (hl : w3.ownsRow w1.heap.size 32 5 L n ul) (hx : Blk w3 bx 32 [.int .i64 0, .int .i64 0, .string ⟨#[]⟩, .slice none 0 0, .slice none 0 0]) (hbx : w1.heap.size ≤ bx)
    (h1 : K.ownBlock ≠ some bx) (h2 : L.ownBlock ≠ some bx) (h3 : ∀ q, K.ownBlock = some q → L.ownBlock ≠ some q) :
    QInv w bx xc K L ks n ul (setAll w3 bx 0 [.int .i64 6, .int .i64 0, .string ⟨#[]⟩, K, L]) := by
  have z3 := hb3.size
  have hf : ∀ b, b ≠ bx → (setAll w3 bx 0 [.int .i64 6, .int .i64 0, .string ⟨#[]⟩, K, L]).heap[b]? = w3.heap[b]? := fun b hb => setAll_other _ _ _ _ _ hb
  have low : ∀ {e : TypeId} {sz m : Nat} {v : Value} {us : List Value}, v.ownBlock ≠ some bx → w3.ownsRow w1.heap.size e sz v m us → (setAll w3 bx 0 [.int .i64 6, .int .i64 0, .string ⟨#[]⟩, K, L]).ownsRow (w.heap.size + 3) e sz v m us := fun {e sz m v us} hne ho => by
    obtain ⟨a1, a2⟩ := ho
    refine ⟨a1, a2.imp id ?_⟩
    rintro ⟨g, cap, cur, e1, e2, e3, r⟩
    exact ⟨g, cap, cur, e1, by omega, (hf g (fun e => hne (by rw [e1, ← e]; rfl))).trans e3, r⟩
  refine ⟨setAll_below _ (by omega) (hb.trans (hb3.mono hb.size)), (bX.below hb3).same (hf _ (by omega)), (bR.below hb3).same (hf _ (by omega)), by omega, ?_, low h1 hk, low h2 hl, h1, h2, h3⟩
  have := Blk.setAll [.int .i64 6, .int .i64 0, .string ⟨#[]⟩, K, L] (pre := []) (rest := []) (old := [.int .i64 0, .int .i64 0, .string ⟨#[]⟩, .slice none 0 0, .slice none 0 0]) rfl (by simpa using hx)
  simpa using this
end Go.Proofs.YtppfgepoegicgaaGreatDoor
namespace Go.Proofs.YtppfgepoegicgaaGreatDoor
open Go Go.RowKit

theorem cloneS_at {w1 W : World} {B n ct : Nat} {T : Option Addr} {us : List Value} (hB : B ≤ w1.heap.size) (hr : Reads w1 B 1 T n us) (hone : ∀ u ∈ us, u.oneCell' = true) (hn : n ≤ 1048576) (hW : Below w1.heap.size w1 W) :
    Calls Tryz.prog 97 #[.slice T n ct] W fun e w' => ∃ (T' : Option Addr) (c' : Nat), e = .returned (.slice T' n c') ∧ w'.ownsRow W.heap.size 9 1 (.slice T' n c') n us ∧ Below W.heap.size W w' := by
  refine (cloneStr_calls T n ct us W B (Nat.le_trans hB hW.size) (Reads.keep hr fun p hp => hW.cell (by omega)) hone hn).mono ?_
  rintro e w' ⟨T', n', c', rfl, h1, h2⟩
  obtain ⟨A, c, ev⟩ := slice_of_owns h1
  injection ev with e1 e2 e3
  subst e1 e2 e3
  exact ⟨_, _, rfl, h1, h2⟩
theorem cloneV_at {w1 w2 W : World} {B n ct : Nat} {T : Option Addr} {us : List Value} (hB : B ≤ w1.heap.size) (hr : Reads w1 B 5 T n us) (hone : ∀ u ∈ us, u.oneCell' = true) (hn : n ≤ 1048576) (h2 : Below w1.heap.size w1 w2) (hW : Below w2.heap.size w2 W) :
    Calls Tryz.prog 98 #[.slice T n ct] W fun e w' => ∃ (T' : Option Addr) (c' : Nat), e = .returned (.slice T' n c') ∧ w'.ownsRow W.heap.size 32 5 (.slice T' n c') n us ∧ Below W.heap.size W w' := by
  have hb := h2.trans (hW.mono h2.size)
  refine (cloneVal_calls T n ct us W B (Nat.le_trans hB hb.size) (Reads.keep hr fun p hp => hb.cell (by omega)) hone hn).mono ?_
  rintro e w' ⟨T', n', c', rfl, h1, h2⟩
  obtain ⟨A, c, ev⟩ := slice_of_owns h1
  injection ev with e1 e2 e3
  subst e1 e2 e3
  exact ⟨_, _, rfl, h1, h2⟩
theorem owns_down {w : World} {base base' sz n : Nat} {e : TypeId} {v : Value} {us : List Value} (h : w.ownsRow base' e sz v n us) (hb : base ≤ base') : w.ownsRow base e sz v n us := by
  obtain ⟨a1, a2⟩ := h
  refine ⟨a1, a2.imp id ?_⟩
  rintro ⟨g, cap, cur, e1, e2, r⟩
  exact ⟨g, cap, cur, e1, by omega, r⟩
theorem owns_below {w w' : World} {base sz n : Nat} {e : TypeId} {v : Value} {us : List Value} (h : w.ownsRow base e sz v n us) (hb : Below w.heap.size w w') : w'.ownsRow base e sz v n us :=
  h.kept (row := none) ⟨hb.os, hb.tape, hb.output, hb.size, fun b hlt _ => hb.block b hlt⟩ (by cases v.ownBlock <;> simp)
theorem owns_cells {w : World} {base sz n c g : Nat} {e : TypeId} {us : List Value} (h : w.ownsRow base e sz (.slice (some ⟨g, 0, none⟩) n c) n us) : (∀ k u, us[k]? = some u → w.cell? ⟨g, k, none⟩ = some u) ∧ (∀ k, w.frozen? ⟨g, k, none⟩ = false) := by
  obtain ⟨a1, a2 | ⟨g', cap, cur, e1, e2, e3, e4, e5, e6, e7⟩⟩ := h
  · cases a2.1
  · injection e1 with f1 _ f2
    injection f1 with f1
    injection f1 with f1
    subst f1 f2
    refine ⟨fun k u hu => ?_, fun k => ?_⟩
    · have hlt : k < n * sz := a1 ▸ (List.getElem?_eq_some_iff.1 hu).1
      rw [← e7, List.getElem?_take_of_lt hlt] at hu
      simp only [World.cell?, e3]
      simpa using hu
    · simp only [World.frozen?, e3]
      simp
theorem keys_ins (ks : List ByteArray) (key : ByteArray) (i : Nat) : (ks.map Value.string).take (i * 1) ++ [.string key] ++ (ks.map Value.string).drop (i * 1) = (ks.take i ++ [key] ++ ks.drop i).map Value.string := by simp
theorem ins_len {α : Type} (l : List α) (x : α) (i : Nat) (h : i ≤ l.length) : (l.take i ++ [x] ++ l.drop i).length = l.length + 1 := by simp; omega

set_option maxRecDepth 100000 in
set_option maxHeartbeats 8000000 in
theorem iPut_calls (v : Val) (key : ByteArray) (x : Val) (us ux : List Value) (w G : World) (B : Nat) (hB : B ≤ w.heap.size) (hG : Sub B G w) (h : RDv G B (valDs v) us) (hx : RDv G B (valDs x) ux) (hkey : key.size ≤ 9223372036854775807) (hlen : (vKeys v).length = (vList v).length) (hl60 : (vKeys v).length ≤ 1000) (hst : Strict (vKeys v)) :
    Calls Tryz.prog 82 #[.agg us.toArray, .string key, .agg ux.toArray] w fun e w' => ∃ vs, e = .returned (.agg vs.toArray) ∧ (∀ W', Sub B G W' → (∀ b, w.heap.size ≤ b → b < w'.heap.size → W'.heap[b]? = w'.heap[b]?) → W'.heap.size = w'.heap.size → RDv W' W'.heap.size (valDs (ofPairs (putP (vPairs v) key x))) vs) ∧ Below w.heap.size w w' := by
  obtain ⟨k0, n0, s0, keys, list, A1, c1, A2, c2, rfl, rfl, hs0, hk, hl⟩ := valDs_open h
  obtain ⟨x0, x1, x2, X3, m3, p3, X4, m4, p4, rfl⟩ := valDs_shape hx
  simp only [vKeys, vList, vPairs] at hlen hl60 hst ⊢
  obtain ⟨_, _, uk, ek, _, _, hrk, hvk⟩ := hk
  injection ek with ek1 _ ek2
  subst ek1 ek2
  obtain ⟨_, _, ul, el, _, _, hrl, hvl⟩ := hl
  injection el with el1 _ el2
  subst el1 el2
  obtain rfl := strDs_at hvk
  have HSZ := Lib.hid (show ∀ s ∈ keys, s.size ≤ 9223372036854775807 from fun s hs => strDs_size hvk s hs)
  have HX := Lib.hid hx
  have HXONE := Lib.hid (RDv.one _ _ hx)
  have HLEN := Lib.hid hlen
  have HST := Lib.hid hst
  have HVL := Lib.hid hvl
  have HKO := Lib.hid (show ∀ u ∈ keys.map Value.string, u.oneCell' = true from fun u hu => by obtain ⟨s, _, rfl⟩ := List.mem_map.1 hu; rfl)
  have HLO := Lib.hid (RDv.one _ _ hvl)
  have hl60b : list.length ≤ 1000 := by omega
  obtain ⟨w1, EW⟩ : ∃ W : World, W = ((w.alloc (.cells #[.int .i64 k0, .int .i64 n0, .string s0, .slice A1 keys.length c1, .slice A2 list.length c2] 32)).alloc (.cells #[.int .i64 x0, .int .i64 x1, .string x2, .slice X3 m3 p3, .slice X4 m4 p4] 32)).alloc (.cells #[.int .i64 0, .int .i64 0, .string ⟨#[]⟩, .slice none 0 0, .slice none 0 0] 32) := ⟨_, rfl⟩
  have hz1 : w.heap.size + 3 ≤ w1.heap.size := by rw [EW]; simp
  have HB1 := Lib.hid (show Below w.heap.size w w1 from by rw [EW]; exact ((below_box2 w _ _).alloc (by simp <;> omega) _))
  have b0 := Blk.new w 32 [.int .i64 k0, .int .i64 n0, .string s0, .slice A1 keys.length c1, .slice A2 list.length c2]
  have b1 := Blk.new (w.alloc (.cells #[.int .i64 k0, .int .i64 n0, .string s0, .slice A1 keys.length c1, .slice A2 list.length c2] 32)) 32 [.int .i64 x0, .int .i64 x1, .string x2, .slice X3 m3 p3, .slice X4 m4 p4]
  have b2 := Blk.new ((w.alloc (.cells #[.int .i64 k0, .int .i64 n0, .string s0, .slice A1 keys.length c1, .slice A2 list.length c2] 32)).alloc (.cells #[.int .i64 x0, .int .i64 x1, .string x2, .slice X3 m3 p3, .slice X4 m4 p4] 32)) 32 [.int .i64 0, .int .i64 0, .string ⟨#[]⟩, .slice none 0 0, .slice none 0 0]
  have HV1 := Lib.hid (show Blk w1 w.heap.size 32 [.int .i64 k0, .int .i64 n0, .string s0, .slice A1 keys.length c1, .slice A2 list.length c2] from by rw [EW]; exact (b0.alloc _).alloc _)
  have HX1 := Lib.hid (show Blk w1 (w.heap.size + 1) 32 [.int .i64 x0, .int .i64 x1, .string x2, .slice X3 m3 p3, .slice X4 m4 p4] from by rw [EW]; simpa using b1.alloc (.cells #[.int .i64 0, .int .i64 0, .string ⟨#[]⟩, .slice none 0 0, .slice none 0 0] 32))
  have HR1 := Lib.hid (show Blk w1 (w.heap.size + 1 + 1) 32 [.int .i64 0, .int .i64 0, .string ⟨#[]⟩, .slice none 0 0, .slice none 0 0] from by rw [EW]; simpa using b2)
  have hB1 : B ≤ w1.heap.size := by omega
  have HRK := Lib.hid (show Reads w1 B 1 A1 keys.length (keys.map Value.string) from Reads.grow (Nat.le_refl _) (hG.trans (Sub.of_below (HB1.out.mono hB))) hrk)
  have HRL := Lib.hid (show Reads w1 B 5 A2 list.length ul from Reads.grow (Nat.le_refl _) (hG.trans (Sub.of_below (HB1.out.mono hB))) hrl)
  have HE := Lib.hid EW
  clear h hx hvk hvl hrk hrl EW hst hlen b0 b1 b2
  have kS := Lib.hid (show ∀ w' : World, Below w1.heap.size w1 w' → (w'.cell? ⟨w.heap.size, 3, none⟩ = some (.slice A1 keys.length c1) ∧ w'.cell? ⟨w.heap.size, 4, none⟩ = some (.slice A2 list.length c2)) from fun w' hb => ⟨(HV1.out.below hb).cell 3, (HV1.out.below hb).cell 4⟩)
  have gA := Lib.hid (show Below w1.heap.size w1 w1.drew from (Below.refl _ _).drew)
  have gG := Lib.hid (show Below w1.heap.size w1 (w1.alloc (.cells #[.int .i64 0, .int .i64 0, .string ⟨#[]⟩, .slice none 0 0, .slice none 0 0] 32)).drew from (below_box w1 _).drew)
  have kA := Lib.hid (kS.out _ gA.out)
  have kG := Lib.hid (kS.out _ gG.out)
  go_enter Tryz.func82, Tryz.ntmps82
  go_upto_region 1 with fail
  rw [← HE.out]
  go_region_held3 (fun w' => w'.cell? ⟨w.heap.size, 3, none⟩ = some (.slice A1 keys.length c1) ∧ w'.cell? ⟨w.heap.size, 4, none⟩ = some (.slice A2 list.length c2))
    (first | (with_reducible exact kA.out) | (with_reducible exact kB.out) | (with_reducible exact kC.out) | (with_reducible exact kD.out) | (with_reducible exact kE.out) | (with_reducible exact kF.out) | (with_reducible exact kG.out) | (with_reducible exact kH.out) | (with_reducible exact kI.out) | fail "keep")
    (first
      | (go_at_call 97; (refine (cloneS_at hB1 HRK.out HKO.out (by omega) (by first | (with_reducible exact gA.out) | (with_reducible exact gG.out))).mono ?_); rintro e w2 ⟨T2, q2, rfl, ho2, hb2⟩; (first | (have hbB := Lib.hid (gA.out.trans (hb2.mono gA.out.size)); have HB2 := hbB; clear hbB) | (have hbB := Lib.hid (gG.out.trans (hb2.mono gG.out.size)); have HB2 := hbB; clear hbB; have HXA := Lib.hid (show Blk w2 w1.heap.size 32 [.int .i64 0, .int .i64 0, .string ⟨#[]⟩, .slice none 0 0, .slice none 0 0] from (Blk.new w1 _ [.int .i64 0, .int .i64 0, .string ⟨#[]⟩, .slice none 0 0, .slice none 0 0]).drew.below hb2); have HKA := Lib.hid (show (Value.slice T2 keys.length q2).ownBlock ≠ some w1.heap.size from fun e => by have h5 := (ho2.lt _ e).1; have h6 : (w1.alloc (.cells #[.int .i64 0, .int .i64 0, .string ⟨#[]⟩, .slice none 0 0, .slice none 0 0] 32)).heap.size ≤ w1.heap.size := h5; simp at h6 <;> omega)) | fail "x2"); have HO2 := Lib.hid (show w2.ownsRow w1.heap.size 9 1 (.slice T2 keys.length q2) keys.length (keys.map Value.string) from owns_down ho2 (by first | exact gA.out.size | exact gG.out.size)); have kB := Lib.hid (kS.out w2 HB2.out); have gF := Lib.hid (below_box w2 (.cells #[.int .i64 0, .int .i64 0, .string ⟨#[]⟩, .slice none 0 0, .slice none 0 0] 32)); have kF := Lib.hid (kS.out (w2.alloc (.cells #[.int .i64 0, .int .i64 0, .string ⟨#[]⟩, .slice none 0 0, .slice none 0 0] 32)) (HB2.out.trans (gF.out.mono HB2.out.size))); have gR := Lib.hid (Below.refl w2.heap.size w2); clear ho2 hb2)
      | (go_at_call 98; (refine (cloneV_at hB1 HRL.out HLO.out (by omega) HB2.out (by first | (with_reducible exact gR.out) | (with_reducible exact gF.out))).mono ?_); rintro e w3 ⟨T3, q3, rfl, ho3, hb3⟩; (first | (have hbB := Lib.hid (gR.out.trans hb3); have HB23 := hbB; clear hbB; (first | (have HXA3 := Lib.hid (HXA.out.below hb3); obtain ⟨cX, fX⟩ := blk_rules HXA3.out) | skip)) | (have hbB := Lib.hid (gF.out.trans (hb3.mono gF.out.size)); have HB23 := hbB; clear hbB; have HXB3 := Lib.hid (show Blk w3 w2.heap.size 32 [.int .i64 0, .int .i64 0, .string ⟨#[]⟩, .slice none 0 0, .slice none 0 0] from (Blk.new w2 _ [.int .i64 0, .int .i64 0, .string ⟨#[]⟩, .slice none 0 0, .slice none 0 0]).below hb3); obtain ⟨cX, fX⟩ := blk_rules HXB3.out; have HLB := Lib.hid (show (Value.slice T3 list.length q3).ownBlock ≠ some w2.heap.size from fun e => by have h5 := (ho3.lt _ e).1; have h6 : (w2.alloc (.cells #[.int .i64 0, .int .i64 0, .string ⟨#[]⟩, .slice none 0 0, .slice none 0 0] 32)).heap.size ≤ w2.heap.size := h5; simp at h6 <;> omega)) | fail "x3"); have HO3 := Lib.hid (show w3.ownsRow w2.heap.size 32 5 (.slice T3 list.length q3) list.length ul from owns_down ho3 (by first | exact gR.out.size | exact gF.out.size)); have HB3 := Lib.hid (HB2.out.trans (HB23.out.mono HB2.out.size)); have kC := Lib.hid (kS.out w3 HB3.out); have kD := Lib.hid (kS.out (w3.alloc (.cells #[.int .i64 6, .int .i64 0, .string ⟨#[]⟩, .slice T2 keys.length q2, .slice T3 list.length q3] 32)) (HB3.out.trans ((below_box w3 _).mono HB3.out.size))); have kE := Lib.hid (kS.out (w3.alloc (.cells #[.int .i64 0, .int .i64 0, .string ⟨#[]⟩, .slice none 0 0, .slice none 0 0] 32)) (HB3.out.trans ((below_box w3 _).mono HB3.out.size))); have kH := Lib.hid (kS.out (((((w3.setCell ⟨w1.heap.size, 0, none⟩ (.int .i64 6)).setCell ⟨w1.heap.size, 1, none⟩ (.int .i64 0)).setCell ⟨w1.heap.size, 2, none⟩ (.string ⟨#[]⟩)).setCell ⟨w1.heap.size, 3, none⟩ (.slice T2 keys.length q2)).setCell ⟨w1.heap.size, 4, none⟩ (.slice T3 list.length q3)) (setAll_below (o := 0) [_, _, _, _, _] (Nat.le_refl _) HB3.out)); have kI := Lib.hid (kS.out (((((w3.setCell ⟨w2.heap.size, 0, none⟩ (.int .i64 6)).setCell ⟨w2.heap.size, 1, none⟩ (.int .i64 0)).setCell ⟨w2.heap.size, 2, none⟩ (.string ⟨#[]⟩)).setCell ⟨w2.heap.size, 3, none⟩ (.slice T2 keys.length q2)).setCell ⟨w2.heap.size, 4, none⟩ (.slice T3 list.length q3)) (setAll_below (o := 0) [_, _, _, _, _] HB2.out.size HB3.out)); clear ho3 hb3)
      | fail "no arm")
  · obtain ⟨bx, ebx⟩ : ∃ b : Nat, b = w3.heap.size := ⟨_, rfl⟩
    obtain ⟨Wf, ef⟩ : ∃ W : World, W = w3.alloc (.cells #[.int .i64 6, .int .i64 0, .string ⟨#[]⟩, .slice T2 keys.length q2, .slice T3 list.length q3] 32) := ⟨_, rfl⟩
    have HQ := Lib.hid (show QInv w bx [.int .i64 x0, .int .i64 x1, .string x2, .slice X3 m3 p3, .slice X4 m4 p4] (.slice T2 keys.length q2) (.slice T3 list.length q3) keys list.length ul Wf from by rw [ef, ebx]; exact q_last hz1 HB1.out HX1.out HR1.out HB2.out HO2.out HB23.out HO3.out)
    rw [← ef, ← ebx]
    clear ef ebx kA kB kC kD kE kF kG kH kI gA gF gG gR HO2 HO3 HB23
    obtain ⟨cO, fO⟩ := blk_rules HQ.out.bO
    go_wp2_with fail
    refine (bin_calls (w.heap.size + 3) T2 q2 keys key _ HQ.out.rk HST.out (by omega)).mono ?_
    rintro e w4 ⟨i, b, rfl, hbi, q, rfl⟩
    have HQ4 := Lib.hid (HQ.out.drewN q)
    obtain ⟨w4, e4⟩ : ∃ W : World, W = Wf.drewN q := ⟨_, rfl⟩
    rw [← e4] at HQ4 ⊢
    clear cO fO e4 HQ
    obtain ⟨cO, fO⟩ := blk_rules HQ4.out.bO
    obtain ⟨cX, fX⟩ := blk_rules HQ4.out.bX
    obtain ⟨cR, fR⟩ := blk_rules HQ4.out.bR
    have hlow := HQ4.out.low
    have hblt := HQ4.out.bO.lt
    cases b with
    | true =>
      have HHIT := Lib.hid (hbi.hit (x := x) HLEN.out)
      have hil : i < list.length := by have := HHIT.out.1; have := HLEN.out; omega
      obtain ⟨g, rfl⟩ : ∃ g, T3 = some ⟨g, 0, none⟩ := by
        obtain ⟨_, ⟨_, h0⟩ | ⟨g, cap, cur, e1, _⟩⟩ := HQ4.out.rl
        · omega
        · injection e1 with e1
          exact ⟨g, e1⟩
      have HPT := Lib.hid (rdv_part HVL.out i (by omega))
      have HPT2 := Lib.hid (rdv_part HVL.out (i + 1) (by omega))
      have hul : ul.length = list.length * 5 := HQ4.out.rl.1
      obtain ⟨y0, hy0⟩ : ∃ y, ul[i * 5]? = some y := ⟨_, List.getElem?_eq_getElem (by omega)⟩
      obtain ⟨y1, hy1⟩ : ∃ y, ul[i * 5 + 1]? = some y := ⟨_, List.getElem?_eq_getElem (by omega)⟩
      obtain ⟨y2, hy2⟩ : ∃ y, ul[i * 5 + 2]? = some y := ⟨_, List.getElem?_eq_getElem (by omega)⟩
      obtain ⟨y3, hy3⟩ : ∃ y, ul[i * 5 + 3]? = some y := ⟨_, List.getElem?_eq_getElem (by omega)⟩
      obtain ⟨y4, hy4⟩ : ∃ y, ul[i * 5 + 4]? = some y := ⟨_, List.getElem?_eq_getElem (by omega)⟩
      have HCE := Lib.hid (owns_cells HQ4.out.rl)
      have z0 := HCE.out.1 _ _ hy0
      have z1 := HCE.out.1 _ _ hy1
      have z2 := HCE.out.1 _ _ hy2
      have z3 := HCE.out.1 _ _ hy3
      have z4 := HCE.out.1 _ _ hy4
      have fg := HCE.out.2
      have hgb : bx ≠ g := fun e => HQ4.out.nl (by rw [e]; rfl)
      have hgw := (HQ4.out.rl.lt g rfl).1
      have j0 : (0 : Int) ≤ (i : Int) := by omega
      have j1 : (i : Int) < (list.length : Int) := by omega
      clear hy0 hy1 hy2 hy3 hy4 hul hbi
      go_upto_region 5 with fail
      obtain ⟨w5, e5⟩ : ∃ W : World, W = (((((w4.setCell ⟨g, i * 5, none⟩ (.int .i64 x0)).setCell ⟨g, i * 5 + 1, none⟩ (.int .i64 x1)).setCell ⟨g, i * 5 + 2, none⟩ (.string x2)).setCell ⟨g, i * 5 + 3, none⟩ (.slice X3 m3 p3)).setCell ⟨g, i * 5 + 4, none⟩ (.slice X4 m4 p4)) := ⟨_, rfl⟩
      have HQ5 := Lib.hid (show QInv w bx _ _ _ keys list.length _ w5 from by rw [e5]; exact HQ4.out.hit (xs := [.int .i64 x0, .int .i64 x1, .string x2, .slice X3 m3 p3, .slice X4 m4 p4]) rfl hil)
      rw [← e5]
      clear e5 cO fO cX fX cR fR z0 z1 z2 z3 z4 fg HCE
      obtain ⟨cO, fO⟩ := blk_rules HQ5.out.bO
      obtain ⟨cR, fR⟩ := blk_rules HQ5.out.bR
      have hbr : bx ≠ w.heap.size + 1 + 1 := by omega
      go_wp2
      refine bodyPost_ret (v := .agg #[.int .i64 6, .int .i64 0, .string ⟨#[]⟩, .slice T2 keys.length q2, .slice (some ⟨g, 0, none⟩) list.length q3]) (by simp [results, Tryz.results82, go_sem, cR]) rfl ?_
      exact HQ5.out.result (vs := list.take i ++ [x] ++ list.drop (i + 1)) (by simp; omega) (rdv_put HPT.out.1 HX.out HPT2.out.2) hB (by have := HLEN.out; simp; omega) HHIT.out.2 HSZ.out (fun e w' => ∃ vs, e = .returned (.agg vs.toArray) ∧ (∀ W', Sub B G W' → (∀ b, w.heap.size ≤ b → b < w'.heap.size → W'.heap[b]? = w'.heap[b]?) → W'.heap.size = w'.heap.size → RDv W' W'.heap.size (valDs (ofPairs (putP (keys.zip list) key x))) vs) ∧ Below w.heap.size w w') (fun vs W h1 h2 => ⟨vs, rfl, h1, h2⟩)
    | false =>
      have HMISS := Lib.hid (hbi.miss (x := x) HLEN.out)
      have hik : i ≤ keys.length := HMISS.out.1
      have hil : i ≤ list.length := by have := HLEN.out; omega
      have HPT := Lib.hid (rdv_part HVL.out i hil)
      have HOA := Lib.hid (World.ownsRow.alloc HQ4.out.rk (.cells #[.string key] 9))
      have HBX := Lib.hid (Blk.new w4 9 [.string key])
      have hnb : (Value.slice T2 keys.length q2).ownBlock ≠ some w4.heap.size := fun e => by have := (HQ4.out.rk.lt _ e).2; omega
      clear hbi
      go_wp2_with fail
      refine (insRowS T2 keys.length q2 i w4.heap.size (keys.map Value.string) [.string key] _ (w.heap.size + 3) (by have := HQ4.out.bel.size; simp; omega) HOA.out HBX.out rfl (fun u hu => by rw [List.mem_singleton.1 hu]; rfl) HKO.out hik hnb (by omega)).mono ?_
      rintro e w5 ⟨A5, c5, rfl, ho5, hg5, ha5⟩
      obtain ⟨ks', EK⟩ : ∃ l, l = keys.take i ++ [key] ++ keys.drop i := ⟨_, rfl⟩
      have hkl : ks'.length = keys.length + 1 := by rw [EK]; exact ins_len _ _ _ hik
      have HK5 := Lib.hid (HQ4.out.key (o := .cells #[.string key] 9) (K' := .slice A5 (keys.length + 1) c5) (ks' := ks') (w2 := w5) (by rw [hkl, EK, ← keys_ins]; exact ho5) hg5 ha5)
      have HEK := Lib.hid EK
      clear ho5 hg5 ha5 EK cO fO cX fX cR fR HOA HBX
      obtain ⟨cO, fO⟩ := blk_rules HK5.out.1
      go_upto_region 7 with fail
      obtain ⟨w6, e6⟩ : ∃ W : World, W = w5.setCell ⟨bx, 3, none⟩ (.slice A5 (keys.length + 1) c5) := ⟨_, rfl⟩
      have HQ6 := Lib.hid (show QInv w bx _ _ _ ks' list.length _ w6 from by rw [e6]; exact HK5.out.2)
      rw [← e6]
      clear e6 cO fO HK5 HQ4
      obtain ⟨cO, fO⟩ := blk_rules HQ6.out.bO
      obtain ⟨cX, fX⟩ := blk_rules HQ6.out.bX
      have hblt6 := HQ6.out.bO.lt
      have HOA := Lib.hid (World.ownsRow.alloc HQ6.out.rl (.cells #[.int .i64 x0, .int .i64 x1, .string x2, .slice X3 m3 p3, .slice X4 m4 p4] 32))
      have HBX := Lib.hid (Blk.new w6 32 [.int .i64 x0, .int .i64 x1, .string x2, .slice X3 m3 p3, .slice X4 m4 p4])
      have hnb6 : (Value.slice T3 list.length q3).ownBlock ≠ some w6.heap.size := fun e => by have := (HQ6.out.rl.lt _ e).2; omega
      go_wp2_with fail
      refine (insRowV T3 list.length q3 i w6.heap.size ul [.int .i64 x0, .int .i64 x1, .string x2, .slice X3 m3 p3, .slice X4 m4 p4] _ (w.heap.size + 3) (by have := HQ6.out.bel.size; simp; omega) HOA.out HBX.out rfl HXONE.out HLO.out hil hnb6 (by omega)).mono ?_
      rintro e w7 ⟨A7, c7, rfl, ho7, hg7, ha7⟩
      have HK7 := Lib.hid (HQ6.out.val (o := .cells #[.int .i64 x0, .int .i64 x1, .string x2, .slice X3 m3 p3, .slice X4 m4 p4] 32) (w2 := w7) ho7 hg7 ha7)
      clear ho7 hg7 ha7 cO fO cX fX HOA HBX
      obtain ⟨cO, fO⟩ := blk_rules HK7.out.1
      go_upto_region 8 with fail
      obtain ⟨w8, e8⟩ : ∃ W : World, W = w7.setCell ⟨bx, 4, none⟩ (.slice A7 (list.length + 1) c7) := ⟨_, rfl⟩
      have HQ8 := Lib.hid (show QInv w bx _ _ _ ks' (list.length + 1) _ w8 from by rw [e8]; exact HK7.out.2)
      rw [← e8]
      clear e8 cO fO HK7 HQ6
      obtain ⟨cO, fO⟩ := blk_rules HQ8.out.bO
      obtain ⟨cR, fR⟩ := blk_rules HQ8.out.bR
      have hbr : bx ≠ w.heap.size + 1 + 1 := by omega
      go_wp2
      refine bodyPost_ret (v := .agg #[.int .i64 6, .int .i64 0, .string ⟨#[]⟩, .slice A5 (keys.length + 1) c5, .slice A7 (list.length + 1) c7]) (by simp [results, Tryz.results82, go_sem, cR]) rfl ?_
      exact HQ8.out.result (vs := list.take i ++ [x] ++ list.drop i) (ins_len _ _ _ hil).symm (rdv_put HPT.out.1 HX.out HPT.out.2) hB (by rw [hkl, ins_len _ _ _ hil, HLEN.out]) (by rw [HEK.out]; exact HMISS.out.2) (fun s hs => by
        rw [HEK.out] at hs
        rcases List.mem_append.1 hs with hs | hs
        · rcases List.mem_append.1 hs with hs | hs
          · exact HSZ.out s (List.mem_of_mem_take hs)
          · rw [List.mem_singleton.1 hs]; exact hkey
        · exact HSZ.out s (List.mem_of_mem_drop hs)) (fun e w' => ∃ vs, e = .returned (.agg vs.toArray) ∧ (∀ W', Sub B G W' → (∀ b, w.heap.size ≤ b → b < w'.heap.size → W'.heap[b]? = w'.heap[b]?) → W'.heap.size = w'.heap.size → RDv W' W'.heap.size (valDs (ofPairs (putP (keys.zip list) key x))) vs) ∧ Below w.heap.size w w') (fun vs W h1 h2 => ⟨vs, rfl, h1, h2⟩)
  · obtain ⟨bx, ebx⟩ : ∃ b : Nat, b = w2.heap.size := ⟨_, rfl⟩
    obtain ⟨Wf, ef⟩ : ∃ W : World, W = (((((w3.setCell ⟨w2.heap.size, 0, none⟩ (.int .i64 6)).setCell ⟨w2.heap.size, 1, none⟩ (.int .i64 0)).setCell ⟨w2.heap.size, 2, none⟩ (.string ⟨#[]⟩)).setCell ⟨w2.heap.size, 3, none⟩ (.slice T2 keys.length q2)).setCell ⟨w2.heap.size, 4, none⟩ (.slice T3 list.length q3)) := ⟨_, rfl⟩
    have HQ := Lib.hid (show QInv w bx [.int .i64 x0, .int .i64 x1, .string x2, .slice X3 m3 p3, .slice X4 m4 p4] (.slice T2 keys.length q2) (.slice T3 list.length q3) keys list.length ul Wf from by rw [ef, ebx]; exact q_store hz1 HB1.out HX1.out HR1.out HB3.out (owns_below HO2.out HB23.out) (owns_down HO3.out HB2.out.size) HXB3.out HB2.out.size (fun e => by have := (HO2.out.lt _ e).2; omega) HLB.out (fun q e1 e2 => by have := (HO2.out.lt _ e1).2; have := (HO3.out.lt _ e2).1; omega))
    rw [← ef, ← ebx]
    clear ef ebx cX fX kA kB kC kD kE kF kG kH kI gA gF gG gR HO2 HO3 HB23
    obtain ⟨cO, fO⟩ := blk_rules HQ.out.bO
    go_wp2_with fail
    refine (bin_calls (w.heap.size + 3) T2 q2 keys key _ HQ.out.rk HST.out (by omega)).mono ?_
    rintro e w4 ⟨i, b, rfl, hbi, q, rfl⟩
    have HQ4 := Lib.hid (HQ.out.drewN q)
    obtain ⟨w4, e4⟩ : ∃ W : World, W = Wf.drewN q := ⟨_, rfl⟩
    rw [← e4] at HQ4 ⊢
    clear cO fO e4 HQ
    obtain ⟨cO, fO⟩ := blk_rules HQ4.out.bO
    obtain ⟨cX, fX⟩ := blk_rules HQ4.out.bX
    obtain ⟨cR, fR⟩ := blk_rules HQ4.out.bR
    have hlow := HQ4.out.low
    have hblt := HQ4.out.bO.lt
    cases b with
    | true =>
      have HHIT := Lib.hid (hbi.hit (x := x) HLEN.out)
      have hil : i < list.length := by have := HHIT.out.1; have := HLEN.out; omega
      obtain ⟨g, rfl⟩ : ∃ g, T3 = some ⟨g, 0, none⟩ := by
        obtain ⟨_, ⟨_, h0⟩ | ⟨g, cap, cur, e1, _⟩⟩ := HQ4.out.rl
        · omega
        · injection e1 with e1
          exact ⟨g, e1⟩
      have HPT := Lib.hid (rdv_part HVL.out i (by omega))
      have HPT2 := Lib.hid (rdv_part HVL.out (i + 1) (by omega))
      have hul : ul.length = list.length * 5 := HQ4.out.rl.1
      obtain ⟨y0, hy0⟩ : ∃ y, ul[i * 5]? = some y := ⟨_, List.getElem?_eq_getElem (by omega)⟩
      obtain ⟨y1, hy1⟩ : ∃ y, ul[i * 5 + 1]? = some y := ⟨_, List.getElem?_eq_getElem (by omega)⟩
      obtain ⟨y2, hy2⟩ : ∃ y, ul[i * 5 + 2]? = some y := ⟨_, List.getElem?_eq_getElem (by omega)⟩
      obtain ⟨y3, hy3⟩ : ∃ y, ul[i * 5 + 3]? = some y := ⟨_, List.getElem?_eq_getElem (by omega)⟩
      obtain ⟨y4, hy4⟩ : ∃ y, ul[i * 5 + 4]? = some y := ⟨_, List.getElem?_eq_getElem (by omega)⟩
      have HCE := Lib.hid (owns_cells HQ4.out.rl)
      have z0 := HCE.out.1 _ _ hy0
      have z1 := HCE.out.1 _ _ hy1
      have z2 := HCE.out.1 _ _ hy2
      have z3 := HCE.out.1 _ _ hy3
      have z4 := HCE.out.1 _ _ hy4
      have fg := HCE.out.2
      have hgb : bx ≠ g := fun e => HQ4.out.nl (by rw [e]; rfl)
      have hgw := (HQ4.out.rl.lt g rfl).1
      have j0 : (0 : Int) ≤ (i : Int) := by omega
      have j1 : (i : Int) < (list.length : Int) := by omega
      clear hy0 hy1 hy2 hy3 hy4 hul hbi
      go_upto_region 5 with fail
      obtain ⟨w5, e5⟩ : ∃ W : World, W = (((((w4.setCell ⟨g, i * 5, none⟩ (.int .i64 x0)).setCell ⟨g, i * 5 + 1, none⟩ (.int .i64 x1)).setCell ⟨g, i * 5 + 2, none⟩ (.string x2)).setCell ⟨g, i * 5 + 3, none⟩ (.slice X3 m3 p3)).setCell ⟨g, i * 5 + 4, none⟩ (.slice X4 m4 p4)) := ⟨_, rfl⟩
      have HQ5 := Lib.hid (show QInv w bx _ _ _ keys list.length _ w5 from by rw [e5]; exact HQ4.out.hit (xs := [.int .i64 x0, .int .i64 x1, .string x2, .slice X3 m3 p3, .slice X4 m4 p4]) rfl hil)
      rw [← e5]
      clear e5 cO fO cX fX cR fR z0 z1 z2 z3 z4 fg HCE
      obtain ⟨cO, fO⟩ := blk_rules HQ5.out.bO
      obtain ⟨cR, fR⟩ := blk_rules HQ5.out.bR
      have hbr : bx ≠ w.heap.size + 1 + 1 := by omega
      go_wp2
      refine bodyPost_ret (v := .agg #[.int .i64 6, .int .i64 0, .string ⟨#[]⟩, .slice T2 keys.length q2, .slice (some ⟨g, 0, none⟩) list.length q3]) (by simp [results, Tryz.results82, go_sem, cR]) rfl ?_
      exact HQ5.out.result (vs := list.take i ++ [x] ++ list.drop (i + 1)) (by simp; omega) (rdv_put HPT.out.1 HX.out HPT2.out.2) hB (by have := HLEN.out; simp; omega) HHIT.out.2 HSZ.out (fun e w' => ∃ vs, e = .returned (.agg vs.toArray) ∧ (∀ W', Sub B G W' → (∀ b, w.heap.size ≤ b → b < w'.heap.size → W'.heap[b]? = w'.heap[b]?) → W'.heap.size = w'.heap.size → RDv W' W'.heap.size (valDs (ofPairs (putP (keys.zip list) key x))) vs) ∧ Below w.heap.size w w') (fun vs W h1 h2 => ⟨vs, rfl, h1, h2⟩)
    | false =>
      have HMISS := Lib.hid (hbi.miss (x := x) HLEN.out)
      have hik : i ≤ keys.length := HMISS.out.1
      have hil : i ≤ list.length := by have := HLEN.out; omega
      have HPT := Lib.hid (rdv_part HVL.out i hil)
      have HOA := Lib.hid (World.ownsRow.alloc HQ4.out.rk (.cells #[.string key] 9))
      have HBX := Lib.hid (Blk.new w4 9 [.string key])
      have hnb : (Value.slice T2 keys.length q2).ownBlock ≠ some w4.heap.size := fun e => by have := (HQ4.out.rk.lt _ e).2; omega
      clear hbi
      go_wp2_with fail
      refine (insRowS T2 keys.length q2 i w4.heap.size (keys.map Value.string) [.string key] _ (w.heap.size + 3) (by have := HQ4.out.bel.size; simp; omega) HOA.out HBX.out rfl (fun u hu => by rw [List.mem_singleton.1 hu]; rfl) HKO.out hik hnb (by omega)).mono ?_
      rintro e w5 ⟨A5, c5, rfl, ho5, hg5, ha5⟩
      obtain ⟨ks', EK⟩ : ∃ l, l = keys.take i ++ [key] ++ keys.drop i := ⟨_, rfl⟩
      have hkl : ks'.length = keys.length + 1 := by rw [EK]; exact ins_len _ _ _ hik
      have HK5 := Lib.hid (HQ4.out.key (o := .cells #[.string key] 9) (K' := .slice A5 (keys.length + 1) c5) (ks' := ks') (w2 := w5) (by rw [hkl, EK, ← keys_ins]; exact ho5) hg5 ha5)
      have HEK := Lib.hid EK
      clear ho5 hg5 ha5 EK cO fO cX fX cR fR HOA HBX
      obtain ⟨cO, fO⟩ := blk_rules HK5.out.1
      go_upto_region 7 with fail
      obtain ⟨w6, e6⟩ : ∃ W : World, W = w5.setCell ⟨bx, 3, none⟩ (.slice A5 (keys.length + 1) c5) := ⟨_, rfl⟩
      have HQ6 := Lib.hid (show QInv w bx _ _ _ ks' list.length _ w6 from by rw [e6]; exact HK5.out.2)
      rw [← e6]
      clear e6 cO fO HK5 HQ4
      obtain ⟨cO, fO⟩ := blk_rules HQ6.out.bO
      obtain ⟨cX, fX⟩ := blk_rules HQ6.out.bX
      have hblt6 := HQ6.out.bO.lt
      have HOA := Lib.hid (World.ownsRow.alloc HQ6.out.rl (.cells #[.int .i64 x0, .int .i64 x1, .string x2, .slice X3 m3 p3, .slice X4 m4 p4] 32))
      have HBX := Lib.hid (Blk.new w6 32 [.int .i64 x0, .int .i64 x1, .string x2, .slice X3 m3 p3, .slice X4 m4 p4])
      have hnb6 : (Value.slice T3 list.length q3).ownBlock ≠ some w6.heap.size := fun e => by have := (HQ6.out.rl.lt _ e).2; omega
      go_wp2_with fail
      refine (insRowV T3 list.length q3 i w6.heap.size ul [.int .i64 x0, .int .i64 x1, .string x2, .slice X3 m3 p3, .slice X4 m4 p4] _ (w.heap.size + 3) (by have := HQ6.out.bel.size; simp; omega) HOA.out HBX.out rfl HXONE.out HLO.out hil hnb6 (by omega)).mono ?_
      rintro e w7 ⟨A7, c7, rfl, ho7, hg7, ha7⟩
      have HK7 := Lib.hid (HQ6.out.val (o := .cells #[.int .i64 x0, .int .i64 x1, .string x2, .slice X3 m3 p3, .slice X4 m4 p4] 32) (w2 := w7) ho7 hg7 ha7)
      clear ho7 hg7 ha7 cO fO cX fX HOA HBX
      obtain ⟨cO, fO⟩ := blk_rules HK7.out.1
      go_upto_region 8 with fail
      obtain ⟨w8, e8⟩ : ∃ W : World, W = w7.setCell ⟨bx, 4, none⟩ (.slice A7 (list.length + 1) c7) := ⟨_, rfl⟩
      have HQ8 := Lib.hid (show QInv w bx _ _ _ ks' (list.length + 1) _ w8 from by rw [e8]; exact HK7.out.2)
      rw [← e8]
      clear e8 cO fO HK7 HQ6
      obtain ⟨cO, fO⟩ := blk_rules HQ8.out.bO
      obtain ⟨cR, fR⟩ := blk_rules HQ8.out.bR
      have hbr : bx ≠ w.heap.size + 1 + 1 := by omega
      go_wp2
      refine bodyPost_ret (v := .agg #[.int .i64 6, .int .i64 0, .string ⟨#[]⟩, .slice A5 (keys.length + 1) c5, .slice A7 (list.length + 1) c7]) (by simp [results, Tryz.results82, go_sem, cR]) rfl ?_
      exact HQ8.out.result (vs := list.take i ++ [x] ++ list.drop i) (ins_len _ _ _ hil).symm (rdv_put HPT.out.1 HX.out HPT.out.2) hB (by rw [hkl, ins_len _ _ _ hil, HLEN.out]) (by rw [HEK.out]; exact HMISS.out.2) (fun s hs => by
        rw [HEK.out] at hs
        rcases List.mem_append.1 hs with hs | hs
        · rcases List.mem_append.1 hs with hs | hs
          · exact HSZ.out s (List.mem_of_mem_take hs)
          · rw [List.mem_singleton.1 hs]; exact hkey
        · exact HSZ.out s (List.mem_of_mem_drop hs)) (fun e w' => ∃ vs, e = .returned (.agg vs.toArray) ∧ (∀ W', Sub B G W' → (∀ b, w.heap.size ≤ b → b < w'.heap.size → W'.heap[b]? = w'.heap[b]?) → W'.heap.size = w'.heap.size → RDv W' W'.heap.size (valDs (ofPairs (putP (keys.zip list) key x))) vs) ∧ Below w.heap.size w w') (fun vs W h1 h2 => ⟨vs, rfl, h1, h2⟩)
  · obtain ⟨bx, ebx⟩ : ∃ b : Nat, b = w1.heap.size := ⟨_, rfl⟩
    obtain ⟨Wf, ef⟩ : ∃ W : World, W = (((((w3.setCell ⟨w1.heap.size, 0, none⟩ (.int .i64 6)).setCell ⟨w1.heap.size, 1, none⟩ (.int .i64 0)).setCell ⟨w1.heap.size, 2, none⟩ (.string ⟨#[]⟩)).setCell ⟨w1.heap.size, 3, none⟩ (.slice T2 keys.length q2)).setCell ⟨w1.heap.size, 4, none⟩ (.slice T3 list.length q3)) := ⟨_, rfl⟩
    have HQ := Lib.hid (show QInv w bx [.int .i64 x0, .int .i64 x1, .string x2, .slice X3 m3 p3, .slice X4 m4 p4] (.slice T2 keys.length q2) (.slice T3 list.length q3) keys list.length ul Wf from by rw [ef, ebx]; exact q_store hz1 HB1.out HX1.out HR1.out HB3.out (owns_below HO2.out HB23.out) (owns_down HO3.out HB2.out.size) HXA3.out (Nat.le_refl _) HKA.out (fun e => by have := (HO3.out.lt _ e).1; have := HXA.out.lt; omega) (fun q e1 e2 => by have := (HO2.out.lt _ e1).2; have := (HO3.out.lt _ e2).1; omega))
    rw [← ef, ← ebx]
    clear ef ebx cX fX kA kB kC kD kE kF kG kH kI gA gF gG gR HO2 HO3 HB23
    obtain ⟨cO, fO⟩ := blk_rules HQ.out.bO
    go_wp2_with fail
    refine (bin_calls (w.heap.size + 3) T2 q2 keys key _ HQ.out.rk HST.out (by omega)).mono ?_
    rintro e w4 ⟨i, b, rfl, hbi, q, rfl⟩
    have HQ4 := Lib.hid (HQ.out.drewN q)
    obtain ⟨w4, e4⟩ : ∃ W : World, W = Wf.drewN q := ⟨_, rfl⟩
    rw [← e4] at HQ4 ⊢
    clear cO fO e4 HQ
    obtain ⟨cO, fO⟩ := blk_rules HQ4.out.bO
    obtain ⟨cX, fX⟩ := blk_rules HQ4.out.bX
    obtain ⟨cR, fR⟩ := blk_rules HQ4.out.bR
    have hlow := HQ4.out.low
    have hblt := HQ4.out.bO.lt
    cases b with
    | true =>
      have HHIT := Lib.hid (hbi.hit (x := x) HLEN.out)
      have hil : i < list.length := by have := HHIT.out.1; have := HLEN.out; omega
      obtain ⟨g, rfl⟩ : ∃ g, T3 = some ⟨g, 0, none⟩ := by
        obtain ⟨_, ⟨_, h0⟩ | ⟨g, cap, cur, e1, _⟩⟩ := HQ4.out.rl
        · omega
        · injection e1 with e1
          exact ⟨g, e1⟩
      have HPT := Lib.hid (rdv_part HVL.out i (by omega))
      have HPT2 := Lib.hid (rdv_part HVL.out (i + 1) (by omega))
      have hul : ul.length = list.length * 5 := HQ4.out.rl.1
      obtain ⟨y0, hy0⟩ : ∃ y, ul[i * 5]? = some y := ⟨_, List.getElem?_eq_getElem (by omega)⟩
      obtain ⟨y1, hy1⟩ : ∃ y, ul[i * 5 + 1]? = some y := ⟨_, List.getElem?_eq_getElem (by omega)⟩
      obtain ⟨y2, hy2⟩ : ∃ y, ul[i * 5 + 2]? = some y := ⟨_, List.getElem?_eq_getElem (by omega)⟩
      obtain ⟨y3, hy3⟩ : ∃ y, ul[i * 5 + 3]? = some y := ⟨_, List.getElem?_eq_getElem (by omega)⟩
      obtain ⟨y4, hy4⟩ : ∃ y, ul[i * 5 + 4]? = some y := ⟨_, List.getElem?_eq_getElem (by omega)⟩
      have HCE := Lib.hid (owns_cells HQ4.out.rl)
      have z0 := HCE.out.1 _ _ hy0
      have z1 := HCE.out.1 _ _ hy1
      have z2 := HCE.out.1 _ _ hy2
      have z3 := HCE.out.1 _ _ hy3
      have z4 := HCE.out.1 _ _ hy4
      have fg := HCE.out.2
      have hgb : bx ≠ g := fun e => HQ4.out.nl (by rw [e]; rfl)
      have hgw := (HQ4.out.rl.lt g rfl).1
      have j0 : (0 : Int) ≤ (i : Int) := by omega
      have j1 : (i : Int) < (list.length : Int) := by omega
      clear hy0 hy1 hy2 hy3 hy4 hul hbi
      go_upto_region 5 with fail
      obtain ⟨w5, e5⟩ : ∃ W : World, W = (((((w4.setCell ⟨g, i * 5, none⟩ (.int .i64 x0)).setCell ⟨g, i * 5 + 1, none⟩ (.int .i64 x1)).setCell ⟨g, i * 5 + 2, none⟩ (.string x2)).setCell ⟨g, i * 5 + 3, none⟩ (.slice X3 m3 p3)).setCell ⟨g, i * 5 + 4, none⟩ (.slice X4 m4 p4)) := ⟨_, rfl⟩
      have HQ5 := Lib.hid (show QInv w bx _ _ _ keys list.length _ w5 from by rw [e5]; exact HQ4.out.hit (xs := [.int .i64 x0, .int .i64 x1, .string x2, .slice X3 m3 p3, .slice X4 m4 p4]) rfl hil)
      rw [← e5]
      clear e5 cO fO cX fX cR fR z0 z1 z2 z3 z4 fg HCE
      obtain ⟨cO, fO⟩ := blk_rules HQ5.out.bO
      obtain ⟨cR, fR⟩ := blk_rules HQ5.out.bR
      have hbr : bx ≠ w.heap.size + 1 + 1 := by omega
      go_wp2
      refine bodyPost_ret (v := .agg #[.int .i64 6, .int .i64 0, .string ⟨#[]⟩, .slice T2 keys.length q2, .slice (some ⟨g, 0, none⟩) list.length q3]) (by simp [results, Tryz.results82, go_sem, cR]) rfl ?_
      exact HQ5.out.result (vs := list.take i ++ [x] ++ list.drop (i + 1)) (by simp; omega) (rdv_put HPT.out.1 HX.out HPT2.out.2) hB (by have := HLEN.out; simp; omega) HHIT.out.2 HSZ.out (fun e w' => ∃ vs, e = .returned (.agg vs.toArray) ∧ (∀ W', Sub B G W' → (∀ b, w.heap.size ≤ b → b < w'.heap.size → W'.heap[b]? = w'.heap[b]?) → W'.heap.size = w'.heap.size → RDv W' W'.heap.size (valDs (ofPairs (putP (keys.zip list) key x))) vs) ∧ Below w.heap.size w w') (fun vs W h1 h2 => ⟨vs, rfl, h1, h2⟩)
    | false =>
      have HMISS := Lib.hid (hbi.miss (x := x) HLEN.out)
      have hik : i ≤ keys.length := HMISS.out.1
      have hil : i ≤ list.length := by have := HLEN.out; omega
      have HPT := Lib.hid (rdv_part HVL.out i hil)
      have HOA := Lib.hid (World.ownsRow.alloc HQ4.out.rk (.cells #[.string key] 9))
      have HBX := Lib.hid (Blk.new w4 9 [.string key])
      have hnb : (Value.slice T2 keys.length q2).ownBlock ≠ some w4.heap.size := fun e => by have := (HQ4.out.rk.lt _ e).2; omega
      clear hbi
      go_wp2_with fail
      refine (insRowS T2 keys.length q2 i w4.heap.size (keys.map Value.string) [.string key] _ (w.heap.size + 3) (by have := HQ4.out.bel.size; simp; omega) HOA.out HBX.out rfl (fun u hu => by rw [List.mem_singleton.1 hu]; rfl) HKO.out hik hnb (by omega)).mono ?_
      rintro e w5 ⟨A5, c5, rfl, ho5, hg5, ha5⟩
      obtain ⟨ks', EK⟩ : ∃ l, l = keys.take i ++ [key] ++ keys.drop i := ⟨_, rfl⟩
      have hkl : ks'.length = keys.length + 1 := by rw [EK]; exact ins_len _ _ _ hik
      have HK5 := Lib.hid (HQ4.out.key (o := .cells #[.string key] 9) (K' := .slice A5 (keys.length + 1) c5) (ks' := ks') (w2 := w5) (by rw [hkl, EK, ← keys_ins]; exact ho5) hg5 ha5)
      have HEK := Lib.hid EK
      clear ho5 hg5 ha5 EK cO fO cX fX cR fR HOA HBX
      obtain ⟨cO, fO⟩ := blk_rules HK5.out.1
      go_upto_region 7 with fail
      obtain ⟨w6, e6⟩ : ∃ W : World, W = w5.setCell ⟨bx, 3, none⟩ (.slice A5 (keys.length + 1) c5) := ⟨_, rfl⟩
      have HQ6 := Lib.hid (show QInv w bx _ _ _ ks' list.length _ w6 from by rw [e6]; exact HK5.out.2)
      rw [← e6]
      clear e6 cO fO HK5 HQ4
      obtain ⟨cO, fO⟩ := blk_rules HQ6.out.bO
      obtain ⟨cX, fX⟩ := blk_rules HQ6.out.bX
      have hblt6 := HQ6.out.bO.lt
      have HOA := Lib.hid (World.ownsRow.alloc HQ6.out.rl (.cells #[.int .i64 x0, .int .i64 x1, .string x2, .slice X3 m3 p3, .slice X4 m4 p4] 32))
      have HBX := Lib.hid (Blk.new w6 32 [.int .i64 x0, .int .i64 x1, .string x2, .slice X3 m3 p3, .slice X4 m4 p4])
      have hnb6 : (Value.slice T3 list.length q3).ownBlock ≠ some w6.heap.size := fun e => by have := (HQ6.out.rl.lt _ e).2; omega
      go_wp2_with fail
      refine (insRowV T3 list.length q3 i w6.heap.size ul [.int .i64 x0, .int .i64 x1, .string x2, .slice X3 m3 p3, .slice X4 m4 p4] _ (w.heap.size + 3) (by have := HQ6.out.bel.size; simp; omega) HOA.out HBX.out rfl HXONE.out HLO.out hil hnb6 (by omega)).mono ?_
      rintro e w7 ⟨A7, c7, rfl, ho7, hg7, ha7⟩
      have HK7 := Lib.hid (HQ6.out.val (o := .cells #[.int .i64 x0, .int .i64 x1, .string x2, .slice X3 m3 p3, .slice X4 m4 p4] 32) (w2 := w7) ho7 hg7 ha7)
      clear ho7 hg7 ha7 cO fO cX fX HOA HBX
      obtain ⟨cO, fO⟩ := blk_rules HK7.out.1
      go_upto_region 8 with fail
      obtain ⟨w8, e8⟩ : ∃ W : World, W = w7.setCell ⟨bx, 4, none⟩ (.slice A7 (list.length + 1) c7) := ⟨_, rfl⟩
      have HQ8 := Lib.hid (show QInv w bx _ _ _ ks' (list.length + 1) _ w8 from by rw [e8]; exact HK7.out.2)
      rw [← e8]
      clear e8 cO fO HK7 HQ6
      obtain ⟨cO, fO⟩ := blk_rules HQ8.out.bO
      obtain ⟨cR, fR⟩ := blk_rules HQ8.out.bR
      have hbr : bx ≠ w.heap.size + 1 + 1 := by omega
      go_wp2
      refine bodyPost_ret (v := .agg #[.int .i64 6, .int .i64 0, .string ⟨#[]⟩, .slice A5 (keys.length + 1) c5, .slice A7 (list.length + 1) c7]) (by simp [results, Tryz.results82, go_sem, cR]) rfl ?_
      exact HQ8.out.result (vs := list.take i ++ [x] ++ list.drop i) (ins_len _ _ _ hil).symm (rdv_put HPT.out.1 HX.out HPT.out.2) hB (by rw [hkl, ins_len _ _ _ hil, HLEN.out]) (by rw [HEK.out]; exact HMISS.out.2) (fun s hs => by
        rw [HEK.out] at hs
        rcases List.mem_append.1 hs with hs | hs
        · rcases List.mem_append.1 hs with hs | hs
          · exact HSZ.out s (List.mem_of_mem_take hs)
          · rw [List.mem_singleton.1 hs]; exact hkey
        · exact HSZ.out s (List.mem_of_mem_drop hs)) (fun e w' => ∃ vs, e = .returned (.agg vs.toArray) ∧ (∀ W', Sub B G W' → (∀ b, w.heap.size ≤ b → b < w'.heap.size → W'.heap[b]? = w'.heap[b]?) → W'.heap.size = w'.heap.size → RDv W' W'.heap.size (valDs (ofPairs (putP (keys.zip list) key x))) vs) ∧ Below w.heap.size w w') (fun vs W h1 h2 => ⟨vs, rfl, h1, h2⟩)
end Go.Proofs.YtppfgepoegicgaaGreatDoor
