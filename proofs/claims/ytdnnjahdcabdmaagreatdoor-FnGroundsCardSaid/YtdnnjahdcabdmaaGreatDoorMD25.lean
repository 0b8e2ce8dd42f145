import Derived.Test.YtdnnjahdcabdmaaGreatDoorMD24
import Derived.Test.YtdnnjahdcabdmaaGreatDoorMD04
import Derived.IntWalk
import Derived.OwnWalk
import Derived.Deep.Strs
import Derived.Test.YtdnnjahdcabdmaaGreatDoorMD22
import Derived.Test.YtdnnjahdcabdmaaGreatDoorMD07
import Derived.Test.YtdnnjahdcabdmaaGreatDoorMD12
/- Whether permits are kept; AreKept: the walks. -/
namespace Go.Proofs.YtdnnjahdcabdmaaGreatDoor
open Go.ChangeShapes Go.WideShapes Go.ChangeAt Go.RowKit
set_option linter.unusedVariables false
set_option linter.unusedSimpArgs false
attribute [local irreducible] Calls

theorem validO_watch {g : Gr} {n : Nat} {P : Nat → Wt} (h : validO g n P = true) : watchIn n P := fun i hi => by
  unfold validO at h
  simp only [Bool.and_eq_true, decide_eq_true_eq, Bool.not_eq_true'] at h
  have := anyTo_false.1 h.2.2 i hi
  unfold badW at this
  simp only [Bool.or_eq_false_iff, Bool.not_eq_false'] at this
  obtain ⟨c, h1, h2, _⟩ := isCI_parts this.1
  exact ⟨c, h1, h2⟩
def keptB (g : Gr) (n : Nat) (P : Nat → Wt) (m : Nat) (Q : Nat → Pm) : Bool := decide ((withT Q m 0 g).2 = 0) && decide (firstI (lowW (withT Q m 0 g).1) P n < 0)
def akT (g : Gr) (n : Nat) (P : Nat → Wt) (m : Nat) (Q : Nat → Pm) : Bool × Int := if validP g n P m Q then (keptB g n P m Q, 0) else (false, 1)

set_option maxRecDepth 100000 in
set_option maxHeartbeats 400000 in
theorem kept_any (g : Gr) (b : Nat) (v u : Value) (n m : Nat) (P : Nat → Wt) (Q : Nat → Pm) (hg : g.ok) (hvg : validG g = true) (hQ : cellsIn g m Q) (hP : watchIn n P) (w : World) (hb : GAt w b g) (hcS : w.cell? ⟨b, 195, none⟩ = some v) (hv : WSl w v n P) (hu : PSl w u m Q) :
    Calls Tryz.prog 57 #[.pointer (some ⟨b, 0, none⟩), u] w fun e w' => e = .returned (.bool (keptB g n P m Q)) ∧ Below w.heap.size w w' := by
  have hwi := with_any g b u m Q hg hvg hQ w hb hu
  obtain ⟨a, c, rfl, hform⟩ := id hu
  clear hform
  obtain ⟨V, hV⟩ : ∃ V, V = keptB g n P m Q := ⟨_, rfl⟩
  rw [← hV]
  unfold keptB at hV
  generalize withT Q m 0 g = T at *
  obtain ⟨T1, T2⟩ := T
  have lb := hb.lt
  have HF := Lib.hid hV
  clear hV
  go_enter Tryz.func57, Tryz.ntmps57
  go_upto_region 2 with (first | (go_at_call 52; refine hwi.mono ?_; rintro e w3 ⟨rfl, hb3⟩) | (refine wpList_alloc_as rfl rfl zero66z ?_) | (refine wpList_store_last rfl rfl rfl rfl rfl (by rw [Gr.size]; kernel_rfl) (by rw [Gr.size, Gr.size]) (List.all_eq_true.2 (Gr.one _)) ?_))
  have hbel := hb3.alloc hb3.size (.cells T1.cells 30)
  have hN := Blk.new w3 T1.cells 30
  generalize w3.alloc (.cells T1.cells 30) = W at *
  generalize w3.heap.size = x at *
  have cS := (hbel.cell (p := ⟨b, 195, none⟩) lb).trans hcS
  have hbl := below_any T1 b x v n P hP W (Nat.lt_of_lt_of_le lb hbel.size) cS (hv.below hbel) hN.gat
  generalize firstI (lowW T1) P n = r at *
  by_cases h0 : T2 = 0
  · subst h0
    go_wp2_with (go_at_call 55; refine hbl.mono ?_; rintro e w5 ⟨rfl, hb5⟩)
    go_ret
    exact ⟨bool_eq (by rw [HF.out]; simp), hbel.trans (hb5.mono hbel.size)⟩
  · have h1 : (T2 == 0) = false := by simpa using h0
    have HF2 : Hid (V = false) := Lib.hid (by rw [HF.out]; simp [h0])
    clear h0
    go_wp2_with fail
    go_ret
    exact ⟨bool_eq (by rw [HF2.out]), hbel⟩

set_option maxRecDepth 100000 in
set_option maxHeartbeats 400000 in
theorem areKept_any (g : Gr) (v u : Value) (n m : Nat) (P : Nat → Wt) (Q : Nat → Pm) (hg : g.ok) (hP : ∀ i, i < n → (P i).ok) (hQ : ∀ i, i < m → (Q i).ok) (w : World) (hv : WSl w v n P) (hu : PSl w u m Q) :
    Calls Tryz.prog 15 #[.agg (ofc g v), u] w fun e w' => e = .returned (.tuple #[.bool (akT g n P m Q).1, .int .i64 (akT g n P m Q).2]) ∧ Below w.heap.size w w' := by
  obtain ⟨R, hR⟩ : ∃ R, R = (akT g n P m Q).1 := ⟨_, rfl⟩
  obtain ⟨V, hV⟩ : ∃ V, V = (akT g n P m Q).2 := ⟨_, rfl⟩
  rw [← hR, ← hV]
  unfold akT at hR hV
  obtain ⟨a, c, rfl, hform⟩ := id hu
  clear hform
  go_enter Tryz.func15, Tryz.ntmps15
  go_upto_region 1 with (refine wpList_box_as rfl rfl rfl ?_)
  have hA := Blk.new w (ofc g v) 33
  have hbel := below1 w (.cells (ofc g v) 33)
  generalize w.alloc (.cells (ofc g v) 33) = W at *
  have lA := hA.lt
  have hu := hu.below hbel
  have hv := hv.below hbel
  have hvp := validPermits_any g v _ n m P Q hg hP hQ W hv hu
  cases hvd : validP g n P m Q <;> rw [hvd] at hvp hR hV
  · have HF := Lib.hid (And.intro hR hV)
    clear hR hV hvd
    go_wp2_with (first | (refine wpList_load_blk rfl rfl rfl row76 hA (ofc_size _ _) ?_) | (go_at_call 18; refine hvp.mono ?_; rintro e w2 ⟨rfl, hb2⟩))
    go_ret2
    exact ⟨by rw [HF.out.1, HF.out.2]; rfl, hbel.trans (hb2.mono hbel.size)⟩
  · have HF := Lib.hid (And.intro hR hV)
    obtain ⟨hvg, hvo, hci, _, _⟩ := validP_use hvd
    have hke := fun w' (h1 : Blk w' w.heap.size (ofc g v) 33) h2 (h3 : PSl w' (.slice a m c) m Q) => kept_any g w.heap.size v _ n m P Q hg hvg hci (validO_watch hvo) w' h1.ogat ((h1.cell _).trans (ofc_last _ _)) h2 h3
    clear hR hV hvd
    generalize keptB g n P m Q = K at *
    go_wp2_with (first | (refine wpList_load_blk rfl rfl rfl row76 hA (ofc_size _ _) ?_) | (go_at_call 18; refine hvp.mono ?_; rintro e w2 ⟨rfl, hb2⟩; have hA2 := hA.below hb2 lA) | (go_at_call 57; refine (hke _ hA2 (hv.below hb2) (hu.below hb2)).mono ?_; rintro e w3 ⟨rfl, hb3⟩))
    have hbel2 := hbel.trans (hb2.mono hbel.size)
    go_ret2
    exact ⟨by rw [HF.out.1, HF.out.2]; rfl, hbel2.trans (hb3.mono hbel2.size)⟩

end Go.Proofs.YtdnnjahdcabdmaaGreatDoor
/- The permits' rates, scaled; marks that a caller leaves in a list: the walks that FnExactScaledPermits needs. -/
namespace Go.Proofs.YtdnnjahdcabdmaaGreatDoor
open Go.ChangeShapes Go.WideShapes Go.ChangeAt Go.RowKit
set_option linter.unusedVariables false

theorem Own.setCell {w : World} {g : Nat} {e : TypeId} {s : Nat} {v : Value} {n : Nat} {xs : List Value} (h : Own w g e s v n xs) (j : Nat) (u : Value) : Own (w.setCell ⟨g, j, none⟩ u) g e s v n (xs.set j u) := by
  obtain ⟨h1, cap, cur, rfl, hb, h2, h3, h4, h5⟩ := h
  refine ⟨by simpa using h1, cap, _, rfl, hb.setCell j u, h2, h3, by simpa using h4, ?_⟩
  have hle : n * s ≤ cur.size := by rw [h4]; exact Nat.mul_le_mul_right s h2
  rw [Array.toList_setIfInBounds, ← h5]
  apply List.ext_getElem?
  intro i
  simp only [List.getElem?_take, List.getElem?_set, List.length_take, Array.length_toList]
  by_cases hi : i < n * s
  · by_cases hj : j = i
    · subst hj; simp [hi, show j < cur.size by omega]; omega
    · simp [hi, hj]
  · by_cases hj : j = i
    · subst hj; simp [hi]; omega
    · simp [hi, hj]
theorem own_full {w : World} {g : Nat} {e : TypeId} {s n : Nat} {xs : List Value} (h : Own w g e s (.slice (some ⟨g, 0, none⟩) n n) n xs) : Blk w g xs.toArray e := by
  obtain ⟨h1, cap, cur, hv, hb, h2, h3, h4, h5⟩ := h
  have hc : cap = n := by injection hv with _ _ h; exact h.symm
  subst hc
  rw [← h5, List.take_of_length_le (by simp [h4])]
  exact hb

/-- P with another permit at i. -/
def updP (P : Nat → Pm) (i : Nat) (p : Pm) : Nat → Pm := fun j => if j = i then p else P j
theorem updP_same (P : Nat → Pm) (i : Nat) (p : Pm) : updP P i p i = p := by simp [updP]
theorem updP_other (P : Nat → Pm) (i : Nat) (p : Pm) (j : Nat) (h : j ≠ i) : updP P i p j = P j := by simp [updP, h]
theorem pls_set (n : Nat) (P : Nat → Pm) (i c : Nat) (u : Value) (p : Pm) (hi : i < n) (hc : c < 3) (hp : (P i).cells.toList.set c u = p.cells.toList) : (pls n P).set (i * 3 + c) u = pls n (updP P i p) := by
  apply List.ext_getElem?
  intro j
  by_cases hj : j < n * 3
  · obtain ⟨k, d, hd, rfl⟩ : ∃ k d, d < 3 ∧ j = k * 3 + d := ⟨j / 3, j % 3, Nat.mod_lt _ (by decide), by omega⟩
    have hk : k < n := by omega
    rw [pls_get n _ k d hk hd, List.getElem?_set, pls_length]
    by_cases hki : k = i
    · subst hki
      rw [updP_same]
      have := congrArg (fun l : List Value => l[d]?) hp
      simp only [List.getElem?_set, Array.getElem?_toList, Array.length_toList, Pm.cells_size] at this
      rw [← this]
      by_cases hcd : c = d
      · subst hcd; simp [hc, hj]
      · rw [if_neg (by omega), if_neg hcd, pls_get n P k d hk hd]
    · rw [updP_other P i p k hki, if_neg (by omega), pls_get n P k d hk hd]
  · rw [List.getElem?_eq_none (by simp [pls_length]; omega), List.getElem?_eq_none (by simp [pls_length]; omega)]

/-- Nothing but block g has turned. -/
structure Only (g : Nat) (w w' : World) : Prop where
  os : w'.os = w.os
  tape : w'.tape = w.tape
  output : w'.output = w.output
  size : w'.heap.size = w.heap.size
  block : ∀ b, b ≠ g → w'.heap[b]? = w.heap[b]?
theorem Only.refl (g : Nat) (w : World) : Only g w w := ⟨rfl, rfl, rfl, rfl, fun _ _ => rfl⟩
theorem Only.setCell {g : Nat} {w w' : World} (h : Only g w w') (j : Nat) (u : Value) : Only g w (w'.setCell ⟨g, j, none⟩ u) :=
  ⟨h.os, h.tape, h.output, by rw [← h.size]; simp [World.setCell], fun b hb => (heap_setCell_other w' ⟨g, j, none⟩ b u hb).trans (h.block b hb)⟩
theorem Only.drew {g : Nat} {w w' : World} (h : Only g w w') : Only g w w'.drew := ⟨h.os, h.tape, h.output, h.size, h.block⟩
theorem Only.drewN {g : Nat} {w w' : World} (h : Only g w w') (k : Nat) : Only g w (w'.drewN k) := ⟨h.os, h.tape, h.output, h.size, h.block⟩
theorem below_only {B g : Nat} {w0 w w' : World} (h : Below B w0 w) (ho : Only g w w') (hg : B ≤ g) : Below B w0 w' :=
  ⟨ho.os.trans h.os, ho.tape.trans h.tape, ho.output.trans h.output, by rw [ho.size]; exact h.size, fun b hb => (ho.block b (by omega)).trans (h.block b hb)⟩

/-- A list of permits that a call has made, or none. -/
def Res (w : World) (g : Nat) (v : Value) (n : Nat) (P : Nat → Pm) : Prop := (n = 0 ∧ ∃ a cap, v = .slice a 0 cap ∧ cap ≤ maxLen) ∨ Own w g 59 3 v n (pls n P)
theorem Res.psl {w : World} {g : Nat} {v : Value} {n : Nat} {P : Nat → Pm} (h : Res w g v n P) : PSl w v n P := by
  rcases h with ⟨rfl, a, cap, rfl, h⟩ | h
  · exact ⟨a, cap, rfl, Nat.zero_le _, h, .inl rfl⟩
  · exact h.psl
theorem Res.below {w w' : World} {g : Nat} {v : Value} {n : Nat} {P : Nat → Pm} (h : Res w g v n P) (hb : Below w.heap.size w w') : Res w' g v n P := by
  rcases h with h | h
  · exact .inl h
  · exact .inr (h.below hb h.lt)
theorem Res.only {w w' : World} {g k : Nat} {v : Value} {n : Nat} {P : Nat → Pm} (h : Res w g v n P) (hb : Only k w w') (hk : n = 0 ∨ g ≠ k) : Res w' g v n P := by
  rcases h with h | h
  · exact .inl h
  · rcases hk with rfl | hk
    · obtain ⟨cap, rfl, _, hc⟩ := h.form
      exact .inl ⟨rfl, _, cap, rfl, hc⟩
    · exact .inr (h.move (hb.block g hk))
theorem Res.ne {w : World} {g : Nat} {v : Value} {n : Nat} {P : Nat → Pm} (h : Res w g v n P) {k : Nat} (hk : w.heap.size ≤ k) : n = 0 ∨ g ≠ k := by
  rcases h with h | h
  · exact .inl h.1
  · have := h.lt; exact .inr (by omega)

/-- The marks that a list's cells get, from m on. -/
def markP (m : Int) (i : Nat) : Pm := ⟨IntKind.i8.wrap (m + 3 * i), IntKind.i8.wrap (m + 3 * i + 1), IntKind.i16.wrap (m + 3 * i + 2)⟩
/-- .. after k rounds. -/
def marked (m : Int) (P : Nat → Pm) (k : Nat) : Nat → Pm := fun i => if i < k then markP m i else P i

/-- The rate of a permit, scaled. -/
def scl (pc : Int) (p : Pm) : Pm := ⟨p.own, p.cel, p.rat * pc / 100⟩
def scaledTo (pc : Int) (P : Nat → Pm) (k : Nat) : Nat → Pm := fun i => if i < k then scl pc (P i) else P i
theorem elPm' : ElemTy Tryz.prog 35 59 3 4 := elPm

/-- What both functions return: how many permits, which, and the code. -/
def scN (n : Nat) (P : Nat → Pm) (pc : Int) : Nat := if ratesAre n P && (decide (0 ≤ pc) && decide (pc ≤ 100)) then n else 0
def scC (n : Nat) (P : Nat → Pm) (pc : Int) : Int := if ratesAre n P then (if decide (0 ≤ pc) && decide (pc ≤ 100) then 0 else 2) else 1
theorem rates_bd {n : Nat} {P : Nat → Pm} (h : ratesAre n P = true) : n ≤ 6 ∧ ∀ i, i < n → 0 ≤ (P i).rat ∧ (P i).rat ≤ 400 := by
  simp [ratesAre] at h
  refine ⟨h.1, fun i hi => ?_⟩
  have h2 := anyTo_false.1 h.2 i hi
  simp [badRate] at h2
  omega

end Go.Proofs.YtdnnjahdcabdmaaGreatDoor
/- LevelsWith, in the program and in the reference; lists that a call has made, or none. -/
namespace Go.Proofs.YtdnnjahdcabdmaaGreatDoor
open Go.ChangeShapes Go.WideShapes Go.ChangeAt Go.RowKit
set_option linter.unusedVariables false
set_option linter.unusedSimpArgs false
attribute [local irreducible] Calls

/-- A list of single cells that a call has made, or none. -/
def Rs (e : TypeId) (w : World) (g : Nat) (v : Value) (n : Nat) (xs : List Value) : Prop := (n = 0 ∧ ∃ a cap, v = .slice a 0 cap ∧ cap ≤ maxLen) ∨ Own w g e 1 v n xs
theorem Rs.form {e : TypeId} {w : World} {g : Nat} {v : Value} {n : Nat} {xs : List Value} (h : Rs e w g v n xs) : ∃ a cap, v = .slice a n cap ∧ n ≤ cap ∧ cap ≤ maxLen ∧ (n = 0 ∨ (a = some ⟨g, 0, none⟩ ∧ g < w.heap.size ∧ ∀ j, j < n → w.cell? ⟨g, j, none⟩ = xs[j]?)) := by
  rcases h with ⟨rfl, a, cap, rfl, h⟩ | h
  · exact ⟨a, cap, rfl, Nat.zero_le _, h, .inl rfl⟩
  · obtain ⟨cap, rfl, h1, h2⟩ := h.form
    exact ⟨_, cap, rfl, h1, h2, .inr ⟨rfl, h.lt, fun j hj => h.cell j (by omega)⟩⟩
theorem Rs.below {e : TypeId} {w w' : World} {g : Nat} {v : Value} {n : Nat} {xs : List Value} (h : Rs e w g v n xs) (hb : Below w.heap.size w w') : Rs e w' g v n xs := by
  rcases h with h | h
  · exact .inl h
  · exact .inr (h.below hb h.lt)
theorem Rs.only {e : TypeId} {w w' : World} {g k : Nat} {v : Value} {n : Nat} {xs : List Value} (h : Rs e w g v n xs) (hb : Only k w w') (hk : n = 0 ∨ g ≠ k) : Rs e w' g v n xs := by
  rcases h with h | h
  · exact .inl h
  · rcases hk with rfl | hk
    · obtain ⟨cap, rfl, _, hc⟩ := h.form
      exact .inl ⟨rfl, _, cap, rfl, hc⟩
    · exact .inr (h.move (hb.block g hk))
theorem Rs.ne {e : TypeId} {w : World} {g : Nat} {v : Value} {n : Nat} {xs : List Value} (h : Rs e w g v n xs) {k : Nat} (hk : w.heap.size ≤ k) : n = 0 ∨ g ≠ k := by
  rcases h with h | h
  · exact .inl h.1
  · have := h.lt; exact .inr (by omega)
theorem elFl : ElemTy Tryz.prog 42 25 1 4 := elem_of (z := .float .f32 0) Tryz.underlying42 (by kernel_rfl) rfl

def lvF (G : Gr) (P : Nat → Wt) (i : Nat) : Nat := G.hea (P i).cel.toNat
def lvN (g : Gr) (n : Nat) (P : Nat → Wt) (m : Nat) (Q : Nat → Pm) : Nat := if (gwT g n P m Q).2 = 0 then n else 0
theorem gwT_watch' {g : Gr} {n m : Nat} {P : Nat → Wt} {Q : Nat → Pm} (h : (gwT g n P m Q).2 = 0) : watchIn n P ∧ n ≤ 6 := by
  unfold gwT at h
  cases hv : validP g n P m Q
  · rw [hv] at h; simp at h
  · have h0 := (validP_use hv).2.1
    refine ⟨validO_watch h0, ?_⟩
    unfold validO at h0
    simp only [Bool.and_eq_true, decide_eq_true_eq] at h0
    exact h0.2.1

set_option maxRecDepth 100000 in
set_option maxHeartbeats 400000 in
theorem levelsWith_any (g : Gr) (v u : Value) (n m : Nat) (P : Nat → Wt) (Q : Nat → Pm) (hg : g.ok) (hP : ∀ i, i < n → (P i).ok) (hQ : ∀ i, i < m → (Q i).ok) (w : World) (hv : WSl w v n P) (hu : PSl w u m Q) :
    Calls Tryz.prog 12 #[.agg (ofc g v), u] w fun e w' => ∃ x r, e = .returned (.tuple #[x, .int .i64 (gwT g n P m Q).2]) ∧ w.heap.size ≤ r ∧ Rs 25 w' r x (lvN g n P m Q) (fls (lvN g n P m Q) (lvF (gwT g n P m Q).1 P)) ∧ Below w.heap.size w w' := by
  have hwa : (gwT g n P m Q).2 = 0 → watchIn n P ∧ n ≤ 6 := fun h => gwT_watch' h
  have hgw := fun w' h1 (h2 : PSl w' u m Q) => groundWith_any g v u n m P Q hg hP hQ w' h1 h2
  obtain ⟨N, hN⟩ : ∃ N, N = lvN g n P m Q := ⟨_, rfl⟩
  rw [← hN]
  unfold lvN at hN
  generalize gwT g n P m Q = Y at *
  obtain ⟨T1, T2⟩ := Y
  simp only at hN hwa hgw ⊢
  obtain ⟨a', c1', rfl, hform'⟩ := id hu
  clear hform'
  obtain ⟨a, c', rfl, hc1, hc2, hcell⟩ := id hv
  unfold maxLen at hc2
  have HC := Lib.hid hcell
  clear hcell
  have bn : (n : Int) ≤ 9223372036854775807 := by omega
  go_enter Tryz.func12, Tryz.ntmps12
  go_upto_region 1 with (refine wpList_box_as rfl rfl rfl ?_)
  have hA := Blk.new w (ofc g (.slice a n c')) 33
  have hbel := below1 w (.cells (ofc g (.slice a n c')) 33)
  generalize w.alloc (.cells (ofc g (.slice a n c')) 33) = W at *
  have lA := hA.lt
  have hgw := hgw W (hv.below hbel) (hu.below hbel)
  go_upto_region 2 with (first | (refine wpList_load_blk rfl rfl rfl row76 hA (ofc_size _ _) ?_) | (go_at_call 10; refine hgw.mono ?_; rintro e w3 ⟨rfl, hb3⟩) | (refine wpList_alloc_as rfl rfl zero66z ?_) | (refine wpList_store_last rfl rfl rfl rfl rfl (by rw [Gr.size]; kernel_rfl) (by rw [Gr.size, Gr.size]) (List.all_eq_true.2 (Gr.one _)) ?_))
  have hbel := hbel.trans (hb3.mono hbel.size)
  have hbel := hbel.alloc hbel.size (.cells T1.cells 30)
  have hA := (hA.below hb3 lA).alloc (.cells T1.cells 30)
  have hX := Blk.new w3 T1.cells 30
  have lx : w.heap.size < w3.heap.size := Nat.lt_of_lt_of_le lA hb3.size
  generalize w3.alloc (.cells T1.cells 30) = W2 at *
  generalize w3.heap.size = x at *
  clear hb3 lA
  have lA := hA.lt
  have lX := hX.lt
  by_cases h0 : T2 = 0
  · subst h0
    obtain ⟨hP, hn6⟩ := hwa rfl
    rw [if_pos rfl] at hN
    subst hN
    go_upto_region 5 with fail
    have hE : Own (W2.alloc (.cells #[] 25)) W2.heap.size 25 1 (.slice (some ⟨W2.heap.size, 0, none⟩) 0 0) 0 (fls 0 (lvF T1 P)) := own_blk (Blk.new _ _ _) rfl (by decide) (fls_zero _).symm
    have hA := hA.alloc (.cells #[] 25)
    have hX := hX.alloc (.cells #[] 25)
    have hbelE := hbel.alloc hbel.size (.cells #[] 25)
    have hr2 : w.heap.size ≤ W2.heap.size := hbel.size
    have hxr : x < W2.heap.size := lX
    generalize W2.alloc (.cells #[] 25) = W3 at *
    generalize W2.heap.size = r0 at *
    clear hbel lA lX hgw hQ hu hc1
    have cS0 := (hA.cell 195).trans (ofc_last _ _)
    go_upto_region 6 with fail
    clear cS0
    go_loopw [8, 24] (fun y i wr => ∃ (k r : Nat), k ≤ N ∧ i = .int .i64 k ∧ Own wr r 25 1 y k (fls k (lvF T1 P)) ∧ w.heap.size < r ∧ r ≠ x ∧ Blk wr w.heap.size (ofc g (.slice a N c')) 33 ∧ Blk wr x T1.cells 30 ∧ Below w.heap.size w wr) (fun _ i _ => N - (intOf i).toNat)
    case atStart => exact ⟨0, r0, by omega, rfl, hE, by omega, by omega, hA, hX, hbelE⟩
    case round =>
      clear hE hA hX hbelE
      obtain ⟨k, r, hk, rfl, hE, hr0, hrx, hA, hX, hbel⟩ := hrel
      have cS := (hA.cell 195).trans (ofc_last _ _)
      have lA := hA.lt
      have lX := hX.lt
      have lE := hE.lt
      by_cases hlt : k < N
      · obtain ⟨b', o, rfl, hb', hcell⟩ := HC.out.resolve_left (by omega)
        obtain ⟨c, hc, hc64⟩ := hP k hlt
        have m0 : wr.cell? ⟨b', o + k * 2, none⟩ = some (.int .i8 c) := (hbel.cell (p := ⟨b', _, none⟩) hb').trans ((hcell k 0 hlt (by omega)).trans ((P k).get0.trans (by rw [hc])))
        have m1 : wr.cell? ⟨b', o + k * 2 + 1, none⟩ = some (.float .f32 (P k).lim) := (hbel.cell (p := ⟨b', _, none⟩) hb').trans ((hcell k 1 hlt (by omega)).trans (P k).get1)
        have HL : Hid (lvF T1 P k = T1.hea c) := Lib.hid (by unfold lvF; rw [hc]; rfl)
        clear hcell
        have bj : (0 : Int) ≤ k := by omega
        have bm : (k : Int) < N := by omega
        have bk : (0 : Int) ≤ c := by omega
        have bl : (c : Int) < 64 := by omega
        go_upto_region 8 with fail
        have hY := Blk.new wr #[.int .i8 c, .float .f32 (P k).lim] 55
        have hAB := hA.alloc (.cells #[.int .i8 c, .float .f32 (P k).lim] 55)
        have hXB := hX.alloc (.cells #[.int .i8 c, .float .f32 (P k).lim] 55)
        have hEB := hE.alloc (.cells #[.int .i8 c, .float .f32 (P k).lim] 55)
        have hbelB := hbel.alloc hbel.size (.cells #[.int .i8 c, .float .f32 (P k).lim] 55)
        generalize wr.alloc (.cells #[.int .i8 c, .float .f32 (P k).lim] 55) = WB at *
        generalize wr.heap.size = y at *
        clear hA hX hE hbel m0 m1 cS
        have lA := hAB.lt
        have lX := hXB.lt
        have lE := hEB.lt
        have x0 : WB.cell? ⟨y, 0, none⟩ = some (.int .i8 c) := hY.cell 0
        have x1 : WB.cell? ⟨x, 130 + c, none⟩ = some (.float .f32 (T1.hea c)) := hXB.gat.getH c hc64
        go_wp2_with (at_builtin; refine wpList_app elFl rfl rfl rfl rfl Nat.one_pos (hEB.alloc _) (Blk.new _ _ _) rfl ?_ ?_ ?_ ?_; (· intro u hu; simp at hu; subst hu; rfl); (· unfold maxLen; omega); (· omega); intro v1 w1 g1' hown1 hgr1 hg1)
        go_roundw
        case rel =>
          have hb1 := (hbelB.alloc hbelB.size (.cells #[.float .f32 (T1.hea c)] 25)).grown hgr1 (by simp; omega) (fun k hk => by injection hk with hk; omega)
          rw [show (#[Value.float .f32 (T1.hea c)] : Array Value).toList = [.float .f32 (T1.hea c)] from rfl, fls_snoc] at hown1
          rw [fls_congr (g := lvF T1 P) (fun j hj => by
            unfold Go.Proofs.YtdnnjahdcabdmaaGreatDoor.upd
            by_cases hjk : j = k
            · subst hjk; simp only [if_true]; exact HL.out.symm
            · simp only [hjk, if_false])] at hown1
          have nA := (hAB.alloc (.cells #[.float .f32 (T1.hea c)] 25)).grown hgr1 (by simp; omega)
          have nX := (hXB.alloc (.cells #[.float .f32 (T1.hea c)] 25)).grown hgr1 (by simp; omega)
          exact ⟨k + 1, g1', by omega, by go_num, hown1, by simp at hg1; omega, by simp at hg1; omega, nA, nX, hb1⟩
        case measure => simp [intOf]; omega
      · obtain rfl : k = N := by omega
        go_wp2_with fail
        go_ret2
        exact ⟨_, r, rfl, by omega, .inr hE, hbel⟩
  · have h1 : (T2 != 0) = true := by simpa using h0
    rw [if_neg h0] at hN
    subst hN
    clear h0
    go_wp2_with fail
    go_ret2
    exact ⟨_, x, rfl, by omega, .inl ⟨rfl, _, _, rfl, by decide⟩, hbel⟩

end Go.Proofs.YtdnnjahdcabdmaaGreatDoor
/- Permits that a caller hands in, opened. -/
namespace Go.Proofs.YtdnnjahdcabdmaaGreatDoor
open Go.ChangeShapes Go.WideShapes Go.ChangeAt Go.RowKit
set_option linter.unusedVariables false
theorem lt_of_cell {w : World} {a : Addr} {v : Value} (h : w.cell? a = some v) : a.block < w.heap.size := by
  unfold World.cell? at h
  by_cases hb : a.block < w.heap.size
  · exact hb
  · rw [Array.getElem?_eq_none (by omega)] at h; simp at h
section
variable {H : Type} {enc : TypeId × Value → H} {W : World} {r : Reach} {b0 : Nat}
end
end Go.Proofs.YtdnnjahdcabdmaaGreatDoor
/- The law over ValidOffice: the walk through the law's own function; offices that a caller hands in, opened. -/
namespace Go.Proofs.YtdnnjahdcabdmaaGreatDoor
open Go.ChangeShapes Go.WideShapes Go.ChangeAt Go.RowKit
set_option linter.unusedVariables false
set_option linter.unusedSimpArgs false
attribute [local irreducible] Calls

end Go.Proofs.YtdnnjahdcabdmaaGreatDoor
/- Marks that a law writes into lists and offices, and lists of floats compared: the walks through the law's helpers. -/
namespace Go.Proofs.YtdnnjahdcabdmaaGreatDoor
open Go.ChangeShapes Go.WideShapes Go.ChangeAt Go.RowKit
set_option linter.unusedVariables false
set_option linter.unusedSimpArgs false
attribute [local irreducible] Calls

theorem settT_valid {within : Nat} : ∀ (l : Nat) (n : Int) (G : Gr), (settT within l n G).2.2 = 0 → validG (settT within l n G).1 = true
  | 0, _, _, h => by simp [settT] at h
  | l + 1, n, G, h => by
    unfold settT at h ⊢
    cases hv : validG (sweepG G)
    · rw [hv] at h; simp at h
    · rw [hv] at h
      simp only [if_true] at h ⊢
      cases hf : fle (chg G (sweepG G)) within
      · rw [hf] at h
        simp only [if_false, Bool.false_eq_true] at h ⊢
        exact settT_valid l _ _ h
      · simp only [if_true]; exact hv
theorem withT_valid {Q : Nat → Pm} : ∀ (l i : Nat) (G : Gr), (withT Q l i G).2 = 0 → validG (withT Q l i G).1 = true
  | 0, _, G, h => settT_valid 1000 0 G h
  | l + 1, i, G, h => by
    unfold withT at h ⊢
    cases hv : validG (lessG G (Q i))
    · rw [hv] at h; simp at h
    · rw [hv] at h
      simp only [if_true] at h ⊢
      exact withT_valid l _ _ h
theorem plainW {G : Gr} (h : validG G = true) (k : Nat) (hk : k < 64) : isN .f32 (G.hea k) = false := fieldIs_num (fun _ => plain_num) (validG_parts h).2.2.2.2.1 k hk
theorem lv_num {g : Gr} {n m : Nat} {P : Nat → Wt} {Q : Nat → Pm} : ∀ i, i < lvN g n P m Q → isN .f32 (lvF (gwT g n P m Q).1 P i) = false := fun i hi => by
  unfold lvN at hi
  by_cases h : (gwT g n P m Q).2 = 0
  · rw [if_pos h] at hi
    obtain ⟨c, hc, hc64⟩ := (gwT_watch' h).1 i hi
    have hv : validG (gwT g n P m Q).1 = true := by
      unfold gwT at h ⊢
      cases hp : validP g n P m Q
      · rw [hp] at h; simp at h
      · rw [hp] at h
        simp only [if_true] at h ⊢
        exact withT_valid _ _ _ h
    unfold lvF
    exact plainW hv _ (by rw [hc]; omega)
  · rw [if_neg h] at hi; omega
theorem isN_int (n : Int) : isN .f32 (floatOfInt .f32 n) = false := by
  unfold floatOfInt FloatKind.nearest FloatKind.encode Ieee.Format.write
  exact isN_nearest _ _ _
theorem fls_setL (n : Nat) (f : Nat → Nat) (k b : Nat) (hk : k < n) : (fls n f).set k (.float .f32 b) = fls n (upd f k b) := by
  have := congrArg Array.toList (fls_set n f k b hk)
  simpa using this

theorem Blk.only {w w' : World} {b g : Nat} {C : Array Value} {t : TypeId} (h : Blk w b C t) (ho : Only g w w') (hb : b ≠ g) : Blk w' b C t := (ho.block b hb).trans h
theorem Own.only {w w' : World} {b g : Nat} {e : TypeId} {s : Nat} {v : Value} {n : Nat} {xs : List Value} (h : Own w b e s v n xs) (ho : Only g w w') (hb : b ≠ g) : Own w' b e s v n xs := h.move (ho.block b hb)
theorem lvN_le {g : Gr} {n m : Nat} {P : Nat → Wt} {Q : Nat → Pm} : lvN g n P m Q ≤ n := by unfold lvN; split <;> omega
end Go.Proofs.YtdnnjahdcabdmaaGreatDoor
