/- Slim's walks: rows of filters that are read, plain words. -/
import Derived.Test.YtppfgepoegicgaaGreatDoorGi
import Derived.Test.YtppfgepoegicgaaGreatDoorZCopyF
import Derived.Test.YtppfgepoegicgaaGreatDoorGj
import Derived.Test.YtppfgepoegicgaaGreatDoorGk
namespace Go.Proofs.YtppfgepoegicgaaGreatDoor
open Go Go.RowKit

theorem fds_len : ∀ l : List Filt, (filtsDs l).length = l.length * 9
  | [] => rfl
  | x :: r => by simp only [filtsDs, List.length_append, filtDs_length, List.length_cons, fds_len r]; omega
theorem getD_le (m : Int) (h0 : 0 ≤ m) : ∀ (l : List Int) (i : Nat), (∀ x ∈ l, x ≤ m) → l.getD i 0 ≤ m
  | [], _, _ => by simpa using h0
  | x :: _, 0, h => by simpa using h x List.mem_cons_self
  | _ :: r, i + 1, h => by simpa using getD_le m h0 r i fun y hy => h y (List.mem_cons_of_mem _ hy)
theorem kidsOf_le (k : Int) : kidsOf k ≤ 3 := by
  unfold kidsOf
  split
  · decide
  · exact getD_le 3 (by decide) _ _ (by decide)
theorem small_filt : ∀ (x : Filt) (d : Nat), FForm d x → SmallDs (filtDs x) := Filt.ind fun kind n s v kids ih d h => by
  obtain ⟨h1, h2, h3⟩ := (fform_iff (fform_pos h)).1 h
  obtain ⟨a1, a2, a3, a4, a5⟩ := h1
  have hl : kids.length ≤ 60 := by
    have := kidsOf_le kind
    omega
  have hall : ∀ l : List Filt, (∀ x ∈ l, SmallDs (filtDs x)) → SmallDs (filtsDs l) := fun l => by
    induction l with
    | nil => intro _; trivial
    | cons y r ihl => exact fun hy => smallDs_append.2 ⟨hy y List.mem_cons_self, ihl fun z hz => hy z (List.mem_cons_of_mem _ hz)⟩
  simp only [filtDs, SmallDs]
  refine ⟨trivial, trivial, ?_, smallDs_append.2 ⟨small_of_ok a5, ?_⟩⟩
  · have := a3.2
    show s.size ≤ 1048576
    omega
  · exact ⟨⟨by omega, hall kids fun y hy => ih y hy _ (h2 y hy)⟩, trivial⟩
/-- The parts, made shorter. -/
noncomputable def mids (kind : Int) (kids : List Filt) : List Filt := turnK kind (slimFs kids) kids
theorem mids_length (kind : Int) (kids : List Filt) : (mids kind kids).length = kids.length := by rw [mids, turnK_length, slimFs_length]
theorem slimF_mk (kind n : Int) (s : ByteArray) (v : Val) (kids : List Filt) : slimF (.mk kind n s v kids) = slimK (.mk kind n s v (mids kind kids)) (mids kind kids) := by rw [slimF, mids]
theorem mids_at {kind : Int} {kids : List Filt} {k : Nat} {x : Filt} (h : kids[k]? = some x) : (mids kind kids)[k]? = some (if kind = 20 ∧ k = 0 ∧ ev tabLooks (slimF x) = false then x else slimF x) := by
  have hs : (slimFs kids)[k]? = some (slimF x) := by rw [slimFs_map, List.getElem?_map, h]; rfl
  unfold mids turnK
  by_cases h20 : kind = 20
  · rw [if_pos h20]
    cases kids with
    | nil => simp at h
    | cons x0 r =>
      simp only [slimFs]
      cases k with
      | zero =>
        simp only [List.getElem?_cons_zero, Option.some.injEq] at h
        subst h
        simp only [List.getElem?_cons_zero, h20, true_and]
        cases ev tabLooks (slimF x0) <;> simp
      | succ k =>
        refine Eq.trans ?_ (congrArg some (if_neg (fun e => by have := e.2.1; omega)).symm)
        simpa [slimFs] using hs
  · rw [if_neg h20, if_neg (fun e => h20 e.1)]
    exact hs
theorem drop_at {α : Type} {l : List α} {k : Nat} {x : α} (h : l.drop k = x :: l.drop (k + 1)) : l[k]? = some x := by
  have := congrArg (fun l => l[0]?) h
  simpa [List.getElem?_drop] using this
theorem take_at {α : Type} {l : List α} {k : Nat} {x : α} (h : l[k]? = some x) : l.take (k + 1) = l.take k ++ [x] := by rw [List.take_add_one, h]; rfl
/-- The filter with its parts made shorter is a filter, its parts are. -/
theorem mids_form {d : Nat} {kind n : Int} {s : ByteArray} {v : Val} {kids : List Filt} (h : FForm d (.mk kind n s v kids)) : FForm d (.mk kind n s v (mids kind kids)) ∧ ∀ x ∈ mids kind kids, FForm (d - 1) x := by
  obtain ⟨h1, h2, h3⟩ := (fform_iff (fform_pos h)).1 h
  exact mid_form h fun x hx => slimF_form x _ (h2 x hx)
theorem slimK_two {kind n na nb : Int} {s sa sb : ByteArray} {v va vb : Val} {la lb : List Filt} (hkind : kind = 9 ∨ kind = 10 ∨ kind = 11) : (∀ u, twoV kind va vb = some u → slimK (.mk kind n s v [.mk 2 na sa va la, .mk 2 nb sb vb lb]) [.mk 2 na sa va la, .mk 2 nb sb vb lb] = fLit u) ∧ (twoV kind va vb = none → slimK (.mk kind n s v [.mk 2 na sa va la, .mk 2 nb sb vb lb]) [.mk 2 na sa va la, .mk 2 nb sb vb lb] = fBad) := by
  have hk6 : ¬ kind = 6 := by omega
  have hk7 : ¬ kind = 7 := by omega
  have hk8 : ¬ kind = 8 := by omega
  constructor
  · intro u h
    simp only [slimK, fKind, fVal, List.getD_cons_zero, List.getD_cons_succ]
    rw [if_neg hk6, if_neg hk7, if_neg hk8, if_pos hkind, if_pos (by decide), h]
  · intro h
    simp only [slimK, fKind, fVal, List.getD_cons_zero, List.getD_cons_succ]
    rw [if_neg hk6, if_neg hk7, if_neg hk8, if_pos hkind, if_pos (by decide), h]
theorem slimK_else {n : Int} {s : ByteArray} {v : Val} {a b : Filt} (h : fKind a = 18 ∨ fKind a = 19) : slimK (.mk 16 n s v [a, b]) [a, b] = b := by
  simp only [slimK, List.getD_cons_zero, List.getD_cons_succ]
  rw [show fKind (.mk 16 n s v [a, b]) = 16 from rfl]
  simp [h]
theorem slimK_else2 {n : Int} {s : ByteArray} {v : Val} {a b : Filt} (h : ¬ fKind a = 18) (h2 : ¬ fKind a = 19) : slimK (.mk 16 n s v [a, b]) [a, b] = .mk 16 n s v [a, b] := by
  have e : ¬ (fKind a = 18 ∨ fKind a = 19) := fun e => e.elim h h2
  simp only [slimK, List.getD_cons_zero, List.getD_cons_succ]
  rw [show fKind (.mk 16 n s v [a, b]) = 16 from rfl]
  simp [e]
theorem slimK_none {kind n : Int} {s : ByteArray} {v : Val} {M : List Filt} (h6 : ¬ kind = 6) (h7 : ¬ kind = 7) (h8 : ¬ kind = 8) (h9 : ¬ kind = 9) (h10 : ¬ kind = 10) (h11 : ¬ kind = 11) (h17 : ¬ kind = 17) (h16 : ¬ kind = 16) : slimK (.mk kind n s v M) M = .mk kind n s v M := by
  simp only [slimK]
  rw [show fKind (.mk kind n s v M) = kind from rfl, if_neg h6, if_neg h7, if_neg h8, if_neg (by omega), if_neg h17, if_neg h16]
theorem rdf_mk {w : World} {B : Nat} {kind n : Int} {s : ByteArray} {v : Val} {kids : List Filt} {vs : List Value} {c8 : Value} (hs : s.size ≤ 9223372036854775807) (hv : RDv w B (valDs v) vs) (hk : RD w B (.row 9 kids.length (filtsDs kids)) c8) : RDv w B (filtDs (.mk kind n s v kids)) (.int .i64 kind :: .int .i64 n :: .string s :: (vs ++ [c8])) := by
  rw [filtDs]
  exact ⟨_, _, rfl, rfl, _, _, rfl, rfl, _, _, rfl, ⟨rfl, hs⟩, RDv.append_iff.2 ⟨vs, [c8], rfl, hv, _, _, rfl, hk, rfl⟩⟩
theorem rd_nil' (w : World) (B sz : Nat) : RD w B (.row sz 0 []) (.slice none 0 0) := ⟨_, _, [], rfl, Nat.zero_le _, by simp, Reads.none_ _, rfl⟩
theorem rdf_bad (w : World) (B : Nat) : RDv w B (filtDs fBad) [.int .i64 19, .int .i64 0, .string ⟨#[]⟩, .int .i64 0, .int .i64 0, .string ⟨#[]⟩, .slice none 0 0, .slice none 0 0, .slice none 0 0] :=
  rdf_mk (vs := [.int .i64 0, .int .i64 0, .string ⟨#[]⟩, .slice none 0 0, .slice none 0 0]) (by decide) ⟨_, _, rfl, rfl, _, _, rfl, rfl, _, _, rfl, ⟨rfl, by decide⟩, _, _, rfl, rd_nil' _ _ _, _, _, rfl, rd_nil' _ _ _, rfl⟩ (rd_nil' _ _ _)
theorem rdf_lit {w : World} {B : Nat} {v : Val} {vs : List Value} (hv : RDv w B (valDs v) vs) : RDv w B (filtDs (fLit v)) (.int .i64 2 :: .int .i64 0 :: .string ⟨#[]⟩ :: (vs ++ [.slice none 0 0])) := rdf_mk (by decide) hv (rd_nil' _ _ _)
section
variable {S S' : Nat → Prop} {w w' : World}
theorem rt_snoc {l : List Filt} {y : Filt} {us zs : List Value} (h : RT S w (filtsDs l) us) (hy : RT S w (filtDs y) zs) : RT S w (filtsDs (l ++ [y])) (us ++ zs) := by
  unfold RT
  rw [filtsDs_append]
  exact RDv.append_iff.2 ⟨us, zs, rfl, h, by simp only [filtsDs, List.append_nil]; exact hy⟩
theorem rt_row {base n c : Nat} {e : TypeId} {A : Option Addr} {us : List Value} {l : List Filt} (ho : w.ownsRow base e 9 (.slice A n c) n us) (hS : ∀ q, (Value.slice A n c).ownBlock = some q → S q) (h : RT S w (filtsDs l) us) : RD (thin S w) w.heap.size (.row 9 n (filtsDs l)) (.slice A n c) := by
  have h2 : (thin S w).ownsRow base e 9 (.slice A n c) n us := by
    obtain ⟨a1, a2⟩ := ho
    refine ⟨a1, ?_⟩
    rcases a2 with a2 | ⟨g, cap, cur, e1, e2, e3, r⟩
    · exact .inl a2
    · exact .inr ⟨g, cap, cur, e1, e2, (thin_in (hS g (by rw [e1]; rfl))).trans e3, r⟩
  have h3 := rd_of_owns h2 (by rw [thin_size]; exact h)
  rwa [thin_size] at h3
theorem rt_osl {n : Nat} {c : Value} {us : List Value} {fp : List Nat} {l : List Filt} (ho : OSl w 9 c n us fp) (hS : ∀ q ∈ fp, S q) (h : RT S w (filtsDs l) us) : RD (thin S w) w.heap.size (.row 9 n (filtsDs l)) c := by
  have h2 : OSl (thin S w) 9 c n us fp := ho.keep fun b hb => thin_in (hS b hb)
  obtain ⟨A, cap, rfl, h3, h4, h5⟩ := h2.reads ho.lt
  rcases h3 with h3 | h3
  · exact ⟨_, _, us, rfl, h3, h4, h5, h⟩
  · exact ⟨_, _, us, rfl, by omega, h4, h5, h⟩
/-- An element of a row that is read of S. -/
theorem rt_at {B n c k : Nat} {A : Option Addr} {l : List Filt} (h : RD (thin S w) B (.row 9 n (filtsDs l)) (.slice A n c)) (hn : n = l.length) (hk : k < n) :
    ∃ ad y c0 c1 c2 c3 c4 c5 c6 c7 c8, A = some ad ∧ RDv (thin S w) B (filtDs y) [c0, c1, c2, c3, c4, c5, c6, c7, c8] ∧ l[k]? = some y ∧
    w.cell? (ad.add (k * 9)) = some c0 ∧ w.cell? ⟨(ad.add (k * 9)).block, (ad.add (k * 9)).off + 1, none⟩ = some c1 ∧ w.cell? ⟨(ad.add (k * 9)).block, (ad.add (k * 9)).off + 2, none⟩ = some c2 ∧ w.cell? ⟨(ad.add (k * 9)).block, (ad.add (k * 9)).off + 3, none⟩ = some c3 ∧ w.cell? ⟨(ad.add (k * 9)).block, (ad.add (k * 9)).off + 4, none⟩ = some c4 ∧ w.cell? ⟨(ad.add (k * 9)).block, (ad.add (k * 9)).off + 5, none⟩ = some c5 ∧ w.cell? ⟨(ad.add (k * 9)).block, (ad.add (k * 9)).off + 6, none⟩ = some c6 ∧ w.cell? ⟨(ad.add (k * 9)).block, (ad.add (k * 9)).off + 7, none⟩ = some c7 ∧ w.cell? ⟨(ad.add (k * 9)).block, (ad.add (k * 9)).off + 8, none⟩ = some c8 := by
  obtain ⟨ad, y, c0, c1, c2, c3, c4, c5, c6, c7, c8, rfl, hb, hy, _, hd, z0, z1, z2, z3, z4, z5, z6, z7, z8⟩ := row9_at h hn hk
  have t : ∀ p u, (thin S w).cell? p = some u → w.cell? p = some u := fun p u hp => (thin_cell (thin_out hp)).symm.trans hp
  exact ⟨ad, y, c0, c1, c2, c3, c4, c5, c6, c7, c8, rfl, hy, drop_at hd.out, t _ _ z0, t _ _ z1, t _ _ z2, t _ _ z3, t _ _ z4, t _ _ z5, t _ _ z6, t _ _ z7, t _ _ z8⟩
end
end Go.Proofs.YtppfgepoegicgaaGreatDoor
