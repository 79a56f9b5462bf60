/- An asker of one's own is written anew, its row of trees being another one. -/
import Derived.Test.YtppfgepoegicgaaGi
import Derived.Test.YtppfgepoegicgaaGb
namespace Go.Proofs.Ytppfgepoegicgaa
open Go Go.RowKit
/-- OD.focus, the element's footprint being another one behind it. -/
theorem OD.focus2 {w : World} {sz n i : Nat} {ds0 es ds2 : List Dat} {A : Option Addr} {c : Nat} {fp : List Nat} (h : OD w (.row sz n (ds0 ++ (es ++ ds2))) (.slice A n c) fp) (h0 : ds0.length = i * sz) (he : es.length = sz) (hsz : 0 < sz) :
    ∃ g t us0 ue us2 sp f0 fe f2, A = some ⟨g, 0, none⟩ ∧ fp = g :: (f0 ++ (fe ++ f2)) ∧ n ≤ c ∧ Blk w g t (us0 ++ (ue ++ (us2 ++ sp))) ∧ us0.length = i * sz ∧ ue.length = sz ∧ us2.length = ds2.length ∧ ODv w ds0 us0 f0 ∧ ODv w es ue fe ∧ ODv w ds2 us2 f2 ∧
      ∀ (w' : World) (es' : List Dat) (ue' : List Value) (fe' : List Nat), es'.length = sz → Blk w' g t (us0 ++ (ue' ++ (us2 ++ sp))) → ODv w' es' ue' fe' → (∀ b ∈ f0 ++ f2, w'.heap[b]? = w.heap[b]?) →
        OD w' (.row sz n (ds0 ++ (es' ++ ds2))) (.slice A n c) (g :: (f0 ++ (fe' ++ f2))) := by
  obtain ⟨us, fa, fb, rfl, hS, hV⟩ := h
  have hlen := hV.length_eq
  simp only [List.length_append] at hlen
  rcases hS with ⟨_, _, _, _, rfl, _⟩ | ⟨g, cap, t, cs, e, hn, hcap, h63, rfl, hB, hl, sp, rfl⟩
  · simp at hlen; omega
  obtain ⟨us0, ur, f0, fr, rfl, rfl, k0, kr⟩ := hV.split
  obtain ⟨ue, us2, fe, f2, rfl, rfl, ke, k2⟩ := kr.split
  have l0 := k0.length_eq
  have le := ke.length_eq
  have l2 := k2.length_eq
  injection e with e1 e2 e3
  subst e1 e3
  refine ⟨g, t, us0, ue, us2, sp, f0, fe, f2, rfl, rfl, hcap, by simpa using hB, by omega, by omega, l2, k0, ke, k2, fun w' es' ue' fe' hes hB' ke' hk => ?_⟩
  have le' := ke'.length_eq
  refine ⟨us0 ++ (ue' ++ us2), [g], f0 ++ (fe' ++ f2), rfl, .inr ⟨g, c, t, us0 ++ (ue' ++ (us2 ++ sp)), rfl, hn, hcap, h63, rfl, hB', ?_, sp, by simp⟩, ?_⟩
  · simp only [List.length_append] at hl ⊢
    omega
  · exact ODv.append (ODv.keep _ _ _ (fun b hb => hk b (List.mem_append_left _ hb)) k0) (ODv.append ke' (ODv.keep _ _ _ (fun b hb => hk b (List.mem_append_right _ hb)) k2))
theorem askersDs_length : ∀ l : List Asker, (askersDs l).length = l.length * 4
  | [] => rfl
  | x :: r => by simp only [askersDs, List.length_append, askerDs_length, askersDs_length r, List.length_cons]; omega
theorem keptsDs_length : ∀ l : List Kept, (keptsDs l).length = l.length * 6
  | [] => rfl
  | x :: r => by simp only [keptsDs, List.length_append, keptDs_length, keptsDs_length r, List.length_cons]; omega
theorem askersDs_set {l : List Asker} {i : Nat} (hi : i < l.length) (a' : Asker) : askersDs (l.set i a') = askersDs (l.take i) ++ (askerDs a' ++ askersDs (l.drop (i + 1))) := by
  rw [List.set_eq_take_append_cons_drop, if_pos hi, askersDs_append]
  rfl
theorem askersDs_at {l : List Asker} {i : Nat} {a : Asker} (hi : l[i]? = some a) : askersDs l = askersDs (l.take i) ++ (askerDs a ++ askersDs (l.drop (i + 1))) := by
  obtain ⟨h, rfl⟩ := List.getElem?_eq_some_iff.1 hi
  rw [← askersDs_set h, List.set_getElem_self]
theorem keptsDs_at {l : List Kept} {i : Nat} {a : Kept} (hi : l[i]? = some a) : keptsDs l = keptsDs (l.take i) ++ (keptDs a ++ keptsDs (l.drop (i + 1))) := by
  obtain ⟨h, rfl⟩ := List.getElem?_eq_some_iff.1 hi
  have h2 := List.take_append_drop i l
  rw [List.drop_eq_getElem_cons h] at h2
  conv => lhs; rw [← h2]
  rw [keptsDs_append]
  rfl
/-- The asker at i, of one's own: opened, and how its row is closed behind a write. -/
theorem asker_swap {w : World} {l : List Asker} {i n : Nat} {a : Asker} (hi : l[i]? = some a) {A : Option Addr} {c : Nat} {fp : List Nat} (h : OD w (.row 4 n (askersDs l)) (.slice A n c) fp) (hnd : fp.Nodup) :
    ∃ g t us0 us2 T ct fe, A = some ⟨g, 0, none⟩ ∧ us0.length = i * 4 ∧ Blk w g t (us0 ++ ([.string a.name, .int .i64 a.most, .int .i64 a.fuel, .slice T a.trees.length ct] ++ us2)) ∧ OD w (.row 6 a.trees.length (keptsDs a.trees)) (.slice T a.trees.length ct) fe ∧ (∀ b ∈ g :: fe, b ∈ fp) ∧ fe.Nodup ∧ g ∉ fe ∧ n ≤ c ∧ a.name.size ≤ 9223372036854775807 ∧
      ∀ (W : World) (a' : Asker) (ue' : List Value) (f' : List Nat), Blk W g t (us0 ++ (ue' ++ us2)) → ODv W (askerDs a') ue' f' → f'.Nodup → (∀ b ∈ f', b ∈ fe ∨ w.heap.size ≤ b) → (∀ b, b < w.heap.size → b ∉ fe → b ≠ g → W.heap[b]? = w.heap[b]?) →
        ∃ fp', OD W (.row 4 n (askersDs (l.set i a'))) (.slice A n c) fp' ∧ fp'.Nodup ∧ ∀ b ∈ fp', b ∈ fp ∨ w.heap.size ≤ b := by
  obtain ⟨hlt, _⟩ := List.getElem?_eq_some_iff.1 hi
  rw [askersDs_at hi] at h
  have hlo := OD.lt _ _ _ h
  obtain ⟨g, t, us0, ue, us2, sp, f0, fe, f2, rfl, rfl, hnc, hB, hl0, hle, hl2, k0, ke, k2, hcl⟩ := h.focus2 (i := i) (by rw [askersDs_length, List.length_take, Nat.min_eq_left (by omega)]) (askerDs_length a) (by omega)
  obtain ⟨_, _, f1, f3, rfl, rfl, ⟨rfl, hs, rfl⟩, _, _, _, _, rfl, rfl, ⟨rfl, rfl⟩, _, _, _, _, rfl, rfl, ⟨rfl, rfl⟩, u3, _, f9, _, rfl, rfl, ho, rfl, rfl⟩ := ke
  obtain ⟨n1, n2, n3⟩ := nodup_parts hnd
  obtain ⟨us, fa, fb, e9, hS, hV⟩ := ho
  obtain ⟨T, ct, rfl⟩ : ∃ T ct, u3 = .slice T a.trees.length ct := by
    rcases hS with ⟨T, ct, rfl, _⟩ | ⟨g, cap, t, cs, rfl, _⟩
    · exact ⟨_, _, rfl⟩
    · exact ⟨_, _, rfl⟩
  simp only [List.nil_append, List.append_nil] at *
  refine ⟨g, t, us0, us2 ++ sp, T, ct, f9, rfl, hl0, hB, ⟨us, fa, fb, e9, hS, hV⟩, fun b hb => ?_, n2, n1, hnc, hs, fun W a' ue' f' hB' hO' hn' hf' hk => ?_⟩
  · rcases List.mem_cons.1 hb with rfl | hb
    · simp
    · simp [hb]
  · have hk2 : ∀ b ∈ f0 ++ f2, W.heap[b]? = w.heap[b]? := fun b hb => hk b (hlo b (by rcases List.mem_append.1 hb with hb | hb <;> simp [hb])) (n3 b hb).1 (n3 b hb).2
    have hO := hcl W (askerDs a') ue' f' rfl hB' hO' hk2
    rw [← askersDs_set hlt] at hO
    refine ⟨_, hO, ?_, ?_⟩
    · have hfar : ∀ b ∈ f', b ≠ g ∧ b ∉ f0 ∧ b ∉ f2 := fun b hb => by
        rcases hf' b hb with h | h
        · refine ⟨fun e => n1 (e ▸ h), fun h2 => (n3 b (List.mem_append_left _ h2)).1 h, fun h2 => (n3 b (List.mem_append_right _ h2)).1 h⟩
        · refine ⟨fun e => ?_, fun h2 => ?_, fun h2 => ?_⟩
          · have := hlo g (by simp); omega
          · have := hlo b (by simp [h2]); omega
          · have := hlo b (by simp [h2]); omega
      obtain ⟨m1, m2⟩ := List.nodup_cons.1 hnd
      obtain ⟨p1, p2, p3⟩ := List.nodup_append.1 m2
      obtain ⟨q1, q2, q3⟩ := List.nodup_append.1 p2
      refine List.nodup_cons.2 ⟨fun hm => ?_, List.nodup_append.2 ⟨p1, List.nodup_append.2 ⟨hn', q2, fun x hx y hy e => (hfar x hx).2.2 (e ▸ hy)⟩, fun x hx y hy e => ?_⟩⟩
      · rcases List.mem_append.1 hm with hm | hm
        · exact m1 (by simp [hm])
        · rcases List.mem_append.1 hm with hm | hm
          · exact (hfar g hm).1 rfl
          · exact m1 (by simp [hm])
      · subst e
        rcases List.mem_append.1 hy with hy | hy
        · exact (hfar x hy).2.1 hx
        · exact p3 x hx x (by simp [hy]) rfl
    · intro b hb
      rcases List.mem_cons.1 hb with rfl | hb
      · exact .inl (by simp)
      · rcases List.mem_append.1 hb with hb | hb
        · exact .inl (by simp [hb])
        · rcases List.mem_append.1 hb with hb | hb
          · rcases hf' b hb with h | h
            · exact .inl (by simp [h])
            · exact .inr h
          · exact .inl (by simp [hb])
/-- A row that was made anew out of cells that one owns. -/
theorem row_own {w W : World} {ds : List Dat} {us : List Value} {f : List Nat} {base sz n : Nat} {e : TypeId} {v : Value} (h : ODv w ds us f) (hk : ∀ b ∈ f, W.heap[b]? = w.heap[b]?) (ho : W.ownsRow base e sz v n us) (hlt : ∀ b ∈ f, b < base) (hnd : f.Nodup) :
    ∃ f', OD W (.row sz n ds) v f' ∧ f'.Nodup ∧ ∀ b ∈ f', b ∈ f ∨ base ≤ b := by
  obtain ⟨f0, h1, h2, h3⟩ := owns_osl ho
  have hl := ho.lt
  refine ⟨f0 ++ f, ⟨us, f0, f, rfl, h1, ODv.keep _ _ _ hk h⟩, List.nodup_append.2 ⟨h3, hnd, fun a ha b hb e => ?_⟩, fun b hb => ?_⟩
  · have := (hl a (h2 a ha)).1
    have := hlt b hb
    omega
  · rcases List.mem_append.1 hb with hb | hb
    · exact .inr (hl b (h2 b hb)).1
    · exact .inl hb
/-- A tree is left out. -/
theorem kept_out {w : World} {l : List Kept} {t n : Nat} (hn : n = l.length) (ht : t < l.length) {T : Option Addr} {ct : Nat} {fe : List Nat} (h : OD w (.row 6 n (keptsDs l)) (.slice T n ct) fe) (hnd : fe.Nodup) :
    ∃ g ty us0 ue us2 sp f, T = some ⟨g, 0, none⟩ ∧ n ≤ ct ∧ Blk w g ty (us0 ++ (ue ++ (us2 ++ sp))) ∧ us0.length = t * 6 ∧ ue.length = 6 ∧ us2.length = (n - t - 1) * 6 ∧ ODv w (keptsDs (l.eraseIdx t)) (us0 ++ us2) f ∧ f.Nodup ∧ (∀ b ∈ f, b ∈ fe ∧ b ≠ g) ∧ g ∈ fe := by
  subst hn
  rw [keptsDs_at (List.getElem?_eq_getElem ht)] at h
  obtain ⟨g, ty, us0, ue, us2, sp, f0, fk, f2, rfl, rfl, hnc, hB, hl0, hle, hl2, k0, ke, k2, _⟩ := h.focus2 (i := t) (by rw [keptsDs_length, List.length_take, Nat.min_eq_left (by omega)]) (keptDs_length _) (by omega)
  obtain ⟨n1, n2, n3⟩ := nodup_parts hnd
  obtain ⟨m1, m2⟩ := List.nodup_cons.1 hnd
  obtain ⟨p1, p2, p3⟩ := List.nodup_append.1 m2
  obtain ⟨q1, q2, q3⟩ := List.nodup_append.1 p2
  refine ⟨g, ty, us0, ue, us2, sp, f0 ++ f2, rfl, hnc, hB, hl0, hle, by rw [hl2, keptsDs_length, List.length_drop]; omega, ?_, List.nodup_append.2 ⟨p1, q2, fun x hx y hy e => p3 x hx y (by simp [hy]) e⟩, fun b hb => ⟨?_, (n3 b hb).2⟩, by simp⟩
  · rw [List.eraseIdx_eq_take_drop_succ, keptsDs_append]
    exact ODv.append k0 k2
  · rcases List.mem_append.1 hb with hb | hb <;> simp [hb]
end Go.Proofs.Ytppfgepoegicgaa
