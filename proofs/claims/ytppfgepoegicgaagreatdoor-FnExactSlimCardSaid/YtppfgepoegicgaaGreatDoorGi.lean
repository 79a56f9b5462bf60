/- Slim: what it answers, in plain words. -/
import Derived.Test.YtppfgepoegicgaaGreatDoorZFOkDef
import Derived.Test.YtppfgepoegicgaaGreatDoorGc
namespace Go.Proofs.YtppfgepoegicgaaGreatDoor
open Go Go.RowKit

/-! ### how two trees stand -/
def cmpI (a b : Int) : Int := if a < b then -1 else if b < a then 1 else 0
def cmpS (a b : ByteArray) : Int := if Op.bytesLess a.toList b.toList = true then -1 else if Op.bytesLess b.toList a.toList = true then 1 else 0
def orI (a b : Int) : Int := if a = 0 then b else a
def ordS : List ByteArray → List ByteArray → Int
  | [], [] => 0
  | [], _ :: _ => -1
  | _ :: _, [] => 1
  | a :: x, b :: y => orI (cmpS a b) (ordS x y)
mutual
def ordV : Val → Val → Int
  | .mk k1 n1 s1 ks1 l1, .mk k2 n2 s2 ks2 l2 => orI (cmpI k1 k2) (orI (cmpI n1 n2) (orI (cmpS s1 s2) (orI (ordS ks1 ks2) (ordVs l1 l2))))
def ordVs : List Val → List Val → Int
  | [], [] => 0
  | [], _ :: _ => -1
  | _ :: _, [] => 1
  | a :: x, b :: y => orI (ordV a b) (ordVs x y)
end

/-! ### two trees made one -/
def vKind : Val → Int
  | .mk k _ _ _ _ => k
def vKeys : Val → List ByteArray
  | .mk _ _ _ ks _ => ks
def vList : Val → List Val
  | .mk _ _ _ _ l => l
def putP : List (ByteArray × Val) → ByteArray → Val → List (ByteArray × Val)
  | [], k, x => [(k, x)]
  | (k', x') :: r, k, x => if Op.bytesLess k'.toList k.toList = true then (k', x') :: putP r k x else if k' = k then (k, x) :: r else (k, x) :: (k', x') :: r
def putAll : List (ByteArray × Val) → List (ByteArray × Val) → List (ByteArray × Val)
  | l, [] => l
  | l, (k, x) :: r => putAll (putP l k x) r
/-- The parts of a map, each with its key. -/
def vPairs (v : Val) : List (ByteArray × Val) := (vKeys v).zip (vList v)
def ofPairs (l : List (ByteArray × Val)) : Val := .mk 6 0 ⟨#[]⟩ (l.map (·.1)) (l.map (·.2))
/-- Of two trees that are ok and of one kind: what they make, ok or not; none where the kind makes nothing. -/
def addRaw (a b : Val) : Option Val :=
  match a, b with
  | .mk k1 n1 s1 _ l1, .mk _ n2 s2 _ l2 =>
    if k1 = 3 then some (.mk 3 (n1 + n2) ⟨#[]⟩ [] []) else if k1 = 4 then some (.mk 4 0 (s1 ++ s2) [] []) else if k1 = 5 then some (.mk 5 0 ⟨#[]⟩ [] (l1 ++ l2)) else if k1 = 6 then some (ofPairs (putAll (vPairs a) (vPairs b))) else none
open Classical in
noncomputable def toldV (r : Option Val) : Option Val :=
  match r with
  | none => none
  | some v => if ValOk v then some v else none
noncomputable def addV (a b : Val) : Option Val :=
  if vKind a = 0 then some b else if vKind b = 0 then some a else if vKind a ≠ vKind b then none else toldV (addRaw a b)
def truthV (b : Bool) : Val := .mk (if b then 2 else 1) 0 ⟨#[]⟩ [] []
open Classical in
noncomputable def twoV (kind : Int) (a b : Val) : Option Val :=
  if kind = 9 then addV a b else if kind = 10 then some (truthV (decide (ordV a b < 0))) else some (truthV (decide (a = b)))

/-! ### a filter made shorter -/
def fKind : Filt → Int
  | .mk k _ _ _ _ => k
def fVal : Filt → Val
  | .mk _ _ _ v _ => v
def fBad : Filt := .mk 19 0 ⟨#[]⟩ zeroVal []
def fLit (v : Val) : Filt := .mk 2 0 ⟨#[]⟩ v []
def onV (v : Val) : Prop := vKind v ≠ 0 ∧ vKind v ≠ 1
open Classical in
/-- What a filter becomes whose parts have been made shorter. -/
noncomputable def slimK (f : Filt) (kids : List Filt) : Filt :=
  let a := kids.getD 0 fBad
  let b := kids.getD 1 fBad
  let c := kids.getD 2 fBad
  let k := fKind f
  if k = 6 then (if fKind a = 1 then b else if fKind b = 1 ∨ fKind a = 18 ∨ fKind a = 19 then a else f)
  else if k = 7 then (if fKind a = 18 then b else if fKind b = 18 ∨ fKind a = 19 then a else f)
  else if k = 8 then (if fKind a = 18 ∨ fKind a = 19 then a else if fKind a = 2 then (if onV (fVal a) then b else c) else f)
  else if k = 9 ∨ k = 10 ∨ k = 11 then (if fKind a = 2 ∧ fKind b = 2 then (match twoV k (fVal a) (fVal b) with | some v => fLit v | none => fBad) else f)
  else if k = 17 then (if ev tabSure a = true then a else f)
  else if k = 16 then (if fKind a = 18 ∨ fKind a = 19 then b else f)
  else f
/-- The first part of a turn stays as it was where, made shorter, it does more than look. -/
def turnK (kind : Int) (ys kids : List Filt) : List Filt :=
  if kind = 20 then (match ys, kids with
    | y :: ys', x :: _ => (if ev tabLooks y = true then y else x) :: ys'
    | ys, _ => ys) else ys
mutual
noncomputable def slimF : Filt → Filt
  | .mk kind n s v kids => slimK (.mk kind n s v (turnK kind (slimFs kids) kids)) (turnK kind (slimFs kids) kids)
noncomputable def slimFs : List Filt → List Filt
  | [] => []
  | x :: r => slimF x :: slimFs r
end
theorem slimFs_length : ∀ l : List Filt, (slimFs l).length = l.length
  | [] => rfl
  | _ :: r => by simp [slimFs, slimFs_length r]
theorem turnK_length (kind : Int) (ys kids : List Filt) : (turnK kind ys kids).length = ys.length := by
  unfold turnK
  split
  · split <;> simp
  · rfl
theorem slimFs_map : ∀ l : List Filt, slimFs l = l.map slimF
  | [] => rfl
  | _ :: r => by simp [slimFs, slimFs_map r]

/-! ### it stays a filter -/
theorem fform_up : ∀ (d : Nat) (x : Filt), FForm d x → FForm (d + 1) x
  | 0, _, h => h.elim
  | d + 1, .mk kind n s v kids, h => by
    obtain ⟨h1, h2, h3⟩ := h
    exact ⟨h1, fun y hy => fform_up d y (h2 y hy), h3⟩
end Go.Proofs.YtppfgepoegicgaaGreatDoor
namespace Go.Proofs.YtppfgepoegicgaaGreatDoor
open Go Go.RowKit

theorem zero_ok : ValOk zeroVal := by
  refine ⟨⟨?_, fun v h => by cases h⟩, by simp [zeroVal, valCnt, valsCnt]⟩
  simp [Head, Clean, KeysOk, textOk_nil]
theorem truth_ok (b : Bool) : ValOk (truthV b) := by
  refine ⟨⟨?_, fun v h => by cases h⟩, by simp [truthV, valCnt, valsCnt]⟩
  cases b <;> simp [Head, Clean, KeysOk, textOk_nil]
theorem toldV_ok {r : Option Val} {v : Val} (h : toldV r = some v) : ValOk v := by
  unfold toldV at h
  split at h
  · cases h
  · split at h
    · next h1 => injection h with h; rw [← h]; exact h1
    · cases h
theorem twoV_ok {k : Int} {a b v : Val} (ha : ValOk a) (hb : ValOk b) (h : twoV k a b = some v) : ValOk v := by
  unfold twoV at h
  split at h
  · unfold addV at h
    split at h
    · injection h with h; rw [← h]; exact hb
    · split at h
      · injection h with h; rw [← h]; exact ha
      · split at h
        · cases h
        · exact toldV_ok h
  · split at h
    · injection h with h; rw [← h]; exact truth_ok _
    · injection h with h; rw [← h]; exact truth_ok _
theorem bad_form {d : Nat} (hd : d ≠ 0) : FForm d fBad := by
  obtain ⟨m, rfl⟩ : ∃ m, d = m + 1 := ⟨d - 1, by omega⟩
  exact ⟨⟨by decide, ⟨.inr rfl, .inr rfl, .inr rfl⟩, textOk_nil, by omega, zero_ok⟩, (fun x h => by cases h), (fun h => by cases h)⟩
theorem lit_form {d : Nat} (hd : d ≠ 0) {v : Val} (h : ValOk v) : FForm d (fLit v) := by
  obtain ⟨m, rfl⟩ : ∃ m, d = m + 1 := ⟨d - 1, by omega⟩
  exact ⟨⟨by decide, ⟨.inr rfl, .inr rfl, .inl rfl⟩, textOk_nil, by omega, h⟩, (fun x h => by cases h), (fun h => by cases h)⟩
theorem fform_val {d : Nat} {x : Filt} (h : FForm d x) : ValOk (fVal x) := by
  obtain ⟨m, rfl⟩ : ∃ m, d = m + 1 := ⟨d - 1, by have := fform_pos h; omega⟩
  obtain ⟨_, _, _, v, _⟩ := x
  exact h.1.2.2.2.2
theorem slimK_form {d : Nat} {f : Filt} {kids : List Filt} (hf : FForm d f) (hk : ∀ x ∈ kids, FForm d x) : FForm d (slimK f kids) := by
  have hd := fform_pos hf
  have hg : ∀ i, FForm d (kids.getD i fBad) := fun i => by
    rw [List.getD_eq_getElem?_getD]
    rcases h : kids[i]? with _ | y
    · exact bad_form hd
    · exact hk y (List.mem_of_getElem? h)
  have h0 := hg 0
  have h1 := hg 1
  have h2 := hg 2
  unfold slimK
  simp only []
  split
  · split
    · exact h1
    · split
      · exact h0
      · exact hf
  · split
    · split
      · exact h1
      · split
        · exact h0
        · exact hf
    · split
      · split
        · exact h0
        · split
          · split
            · exact h1
            · exact h2
          · exact hf
      · split
        · split
          · split
            · next v hv => exact lit_form hd (twoV_ok (fform_val h0) (fform_val h1) hv)
            · exact bad_form hd
          · exact hf
        · split
          · split
            · exact h0
            · exact hf
          · split
            · split
              · exact h1
              · exact hf
            · exact hf
theorem turnK_mem {kind : Int} {ys kids : List Filt} {y : Filt} (h : y ∈ turnK kind ys kids) : y ∈ ys ∨ y ∈ kids := by
  unfold turnK at h
  split at h
  · split at h
    · next y' ys' x _ =>
      rcases List.mem_cons.1 h with rfl | h
      · split
        · exact .inl List.mem_cons_self
        · exact .inr List.mem_cons_self
      · exact .inl (List.mem_cons_of_mem _ h)
    · exact .inl h
  · exact .inl h
/-- The filter with its parts made shorter. -/
theorem mid_form {d : Nat} {kind n : Int} {s : ByteArray} {v : Val} {kids : List Filt} (h : FForm d (.mk kind n s v kids)) (hk : ∀ x ∈ kids, FForm (d - 1) (slimF x)) :
    FForm d (.mk kind n s v (turnK kind (slimFs kids) kids)) ∧ ∀ x ∈ turnK kind (slimFs kids) kids, FForm (d - 1) x := by
  obtain ⟨h1, h2, h3⟩ := (fform_iff (fform_pos h)).1 h
  have hm : ∀ x ∈ turnK kind (slimFs kids) kids, FForm (d - 1) x := fun x hx => by
    rcases turnK_mem hx with hx | hx
    · rw [slimFs_map] at hx
      obtain ⟨y, hy, rfl⟩ := List.mem_map.1 hx
      exact hk y hy
    · exact h2 x hx
  refine ⟨(fform_iff (fform_pos h)).2 ⟨?_, hm, fun e => ?_⟩, hm⟩
  · obtain ⟨a1, a2⟩ := h1
    exact ⟨by rw [turnK_length, slimFs_length]; exact a1, a2⟩
  · have h4 := h3 e
    subst e
    match kids, h4 with
    | x :: r, h4 =>
      simp only [turnK, slimFs, if_true, evAt]
      split
      · next h5 => exact h5
      · simpa [evAt] using h4
theorem slimF_form : ∀ (x : Filt) (d : Nat), FForm d x → FForm d (slimF x) := Filt.ind fun kind n s v kids ih d h => by
  obtain ⟨h1, h2, h3⟩ := (fform_iff (fform_pos h)).1 h
  obtain ⟨m1, m2⟩ := mid_form h fun x hx => ih x hx _ (h2 x hx)
  obtain ⟨m, rfl⟩ : ∃ m, d = m + 1 := ⟨d - 1, by have := fform_pos h; omega⟩
  rw [slimF]
  exact slimK_form m1 fun x hx => fform_up _ _ (m2 x hx)
end Go.Proofs.YtppfgepoegicgaaGreatDoor
