/- Appends that must grow, the permits that are granted in order: plain laws; slices.Clip. -/
import Derived.Test.YtnfoemgiebplmaaMarks
namespace Go.Proofs.Ytnfoemgiebplmaa
open Go.ChangeShapes Go.WideShapes Go.ChangeAt Go.RowKit
set_option linter.unusedVariables false
set_option linter.unusedSimpArgs false

/-- An append onto a slice without room. -/
theorem run_grow {P : Program} {w : World} {t ty e : TypeId} {s bytes : Nat} (hE : ElemTy P t e s bytes) {b : Addr} {n cap m c : Nat} {ad : Addr} {olds news : List Value} (hlo : olds.length = n * s) (holds : ∀ j u, olds[j]? = some u → w.cell? (b.add j) = some u)
    (hl : news.length = m * s) (hnews : ∀ j u, news[j]? = some u → w.cell? (ad.add j) = some u) (hg : cap < n + m) (h63 : n + m ≤ maxLen) (hbytes : (n + m) * bytes ≤ 140737488355328) :
    ∃ cap' w', (Builtin.append_ #[t, t] ty #[.slice (some b) n cap, .slice (some ad) m c]).run P w = .ok (.slice (some ⟨w.heap.size, 0, none⟩) (n + m) cap') w' ∧ Own w' w.heap.size e s (.slice (some ⟨w.heap.size, 0, none⟩) (n + m) cap') (n + m) (olds ++ news) ∧ Below w.heap.size w w' := by
  obtain ⟨ht, i, z, hi, hz, hsize, hby, hzs⟩ := hE
  have hsmall : n + m ≤ 9223372036854775807 := by simp only [maxLen] at h63; omega
  have hr := run_append_grow (P := P) w t ty e i z ht hi hz b n cap olds (by rw [hsize]; exact hlo) holds ad m c news (by rw [hsize]; exact hl) hnews hg (by omega) (by rw [hby]; exact growslice_fits (by omega) hbytes)
  have hge := grownCap_ge w (n + m) cap e
  have hle := grownCap_le_maxLen w (n + m) cap e h63
  refine ⟨_, _, hr, ⟨by rw [List.length_append, hlo, hl, Nat.add_mul], _, olds.toArray ++ news.toArray ++ Builtin.zeroCells z.cells (grownCap w (n + m) cap e - (n + m)), rfl, Blk.new w.drew _ _, hge, hle, ?_, ?_⟩, ?_⟩
  · simp only [Array.size_append, List.size_toArray, size_zeroCells, hzs, hlo, hl, ← Nat.add_mul]
    congr 1
    omega
  · rw [Array.toList_append, Array.toList_append]
    rw [List.take_append_of_le_length (by simp [hlo, hl, Nat.add_mul])]
    exact List.take_of_length_le (by simp [hlo, hl, Nat.add_mul])
  · exact (below_drewN (Below.refl w.heap.size w) 1).alloc (by simp) _

/-- Which permits are granted among the first k. -/
def grantTo (K : List Nat → Bool) : Nat → List Nat
  | 0 => []
  | k + 1 => if K (grantTo K k ++ [k]) then grantTo K k ++ [k] else grantTo K k
theorem grantTo_lt (K : List Nat → Bool) : ∀ k, (∀ i, i ∈ grantTo K k → i < k) ∧ (grantTo K k).length ≤ k
  | 0 => ⟨fun i hi => absurd hi (List.not_mem_nil), Nat.le_refl _⟩
  | k + 1 => by
    obtain ⟨h1, h2⟩ := grantTo_lt K k
    unfold grantTo
    split
    · refine ⟨fun i hi => ?_, by simp; omega⟩
      rcases List.mem_append.1 hi with h | h
      · have := h1 i h; omega
      · simp at h; omega
    · exact ⟨fun i hi => by have := h1 i hi; omega, by omega⟩
/-- The permits of a list. -/
def pickP (Q : Nat → Pm) (L : List Nat) : Nat → Pm := fun i => Q (L.getD i 0)
def grK (g : Gr) (n : Nat) (P : Nat → Wt) (Q : Nat → Pm) (L : List Nat) : Bool := keptB g n P L.length (pickP Q L)
theorem pickP_in {g : Gr} {m : Nat} {Q : Nat → Pm} (h : cellsIn g m Q) {L : List Nat} (hL : ∀ i, i ∈ L → i < m) : cellsIn g L.length (pickP Q L) := fun i hi => by
  unfold pickP
  rw [show L.getD i 0 = L[i] by simp [List.getD_eq_getElem?_getD, List.getElem?_eq_getElem hi]]
  exact h _ (hL _ (List.getElem_mem hi))
theorem pickP_pls (Q : Nat → Pm) (L : List Nat) (k : Nat) : pls (L ++ [k]).length (pickP Q (L ++ [k])) = pls L.length (pickP Q L) ++ (Q k).cells.toList := by
  rw [List.length_append, List.length_singleton, pls_succ]
  congr 1
  · exact pls_congr fun i hi => by unfold pickP; simp [List.getD_eq_getElem?_getD, List.getElem?_append_left hi]
  · unfold pickP; simp [List.getD_eq_getElem?_getD]
theorem PSl.cells {w : World} {b o n c : Nat} {P : Nat → Pm} (h : PSl w (.slice (some ⟨b, o, none⟩) n c) n P) : ∀ j u, (pls n P)[j]? = some u → w.cell? ((⟨b, o, none⟩ : Addr).add j) = some u := by
  obtain ⟨a, cap, he, h1, h2, h3⟩ := h
  injection he with e1 e2 e3
  intro j u hu
  have hj : j < n * 3 := by have := (List.getElem?_eq_some_iff.1 hu).1; rwa [pls_length] at this
  rcases h3 with h3 | ⟨b', o', hb, hlt, hc⟩
  · subst h3; omega
  · rw [hb] at e1
    injection e1 with e1
    injection e1 with e1 e4
    subst e1; subst e4
    have := hc (j / 3) (j % 3) (by omega) (by omega)
    rw [show o + j / 3 * 3 + j % 3 = o + j by omega] at this
    have hadd : (⟨b, o, none⟩ : Addr).add j = ⟨b, o + j, none⟩ := by unfold Addr.add; split <;> simp_all
    rw [hadd, this, ← pls_get n P (j / 3) (j % 3) (by omega) (by omega), show j / 3 * 3 + j % 3 = j by omega]
    exact hu
attribute [local irreducible] Calls

set_option maxRecDepth 100000 in
set_option maxHeartbeats 400000 in
theorem clip_any (a : Option Addr) (n c : Nat) (hn : n ≤ c) (hc : c ≤ maxLen) (w : World) :
    Calls Try.prog 135 #[.slice a n c] w fun e w' => e = .returned (.slice a n n) ∧ w' = w := by
  unfold maxLen at hc
  have h1 : (0 : Int) ≤ n := by omega
  have h2 : (n : Int) ≤ c := by omega
  have h3 : (n : Int) ≤ n := by omega
  go_enter Try.func135, Try.ntmps135
  go_wp2_with fail
  go_ret
  exact ⟨by simp, rfl⟩
end Go.Proofs.Ytnfoemgiebplmaa
