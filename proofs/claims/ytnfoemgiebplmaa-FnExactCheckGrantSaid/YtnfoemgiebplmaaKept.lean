/- Whether permits are kept; AreKept: the walks. -/
import Derived.Test.YtnfoemgiebplmaaBelow
namespace Go.Proofs.Ytnfoemgiebplmaa
open Go.ChangeShapes Go.WideShapes Go.ChangeAt Go.RowKit
set_option linter.unusedVariables false
set_option linter.unusedSimpArgs false
attribute [local irreducible] Calls

theorem validO_watch {g : Gr} {n : Nat} {P : Nat → Wt} (h : validO g n P = true) : watchIn n P := fun i hi => by
  unfold validO at h
  simp only [Bool.and_eq_true, decide_eq_true_eq, Bool.not_eq_true'] at h
  have := anyTo_false.1 h.2.2 i hi
  unfold badW at this
  simp only [Bool.or_eq_false_iff, Bool.not_eq_false'] at this
  obtain ⟨c, h1, h2, _⟩ := isCI_parts this.1
  exact ⟨c, h1, h2⟩
def keptB (g : Gr) (n : Nat) (P : Nat → Wt) (m : Nat) (Q : Nat → Pm) : Bool := decide ((withT Q m 0 g).2 = 0) && decide (firstI (lowW (withT Q m 0 g).1) P n < 0)
def akT (g : Gr) (n : Nat) (P : Nat → Wt) (m : Nat) (Q : Nat → Pm) : Bool × Int := if validP g n P m Q then (keptB g n P m Q, 0) else (false, 1)

set_option maxRecDepth 100000 in
set_option maxHeartbeats 400000 in
theorem kept_any (g : Gr) (b : Nat) (v u : Value) (n m : Nat) (P : Nat → Wt) (Q : Nat → Pm) (hg : g.ok) (hvg : validG g = true) (hQ : cellsIn g m Q) (hP : watchIn n P) (w : World) (hb : GAt w b g) (hcS : w.cell? ⟨b, 195, none⟩ = some v) (hv : WSl w v n P) (hu : PSl w u m Q) :
    Calls Try.prog 93 #[.pointer (some ⟨b, 0, none⟩), u] w fun e w' => e = .returned (.bool (keptB g n P m Q)) ∧ Below w.heap.size w w' := by
  have hwi := with_any g b u m Q hg hvg hQ w hb hu
  obtain ⟨a, c, rfl, hform⟩ := id hu
  clear hform
  obtain ⟨V, hV⟩ : ∃ V, V = keptB g n P m Q := ⟨_, rfl⟩
  rw [← hV]
  unfold keptB at hV
  generalize withT Q m 0 g = T at *
  obtain ⟨T1, T2⟩ := T
  have lb := hb.lt
  have HF := Lib.hid hV
  clear hV
  go_enter Try.func93, Try.ntmps93
  go_upto_region 2 with (first | (go_at_call 86; refine hwi.mono ?_; rintro e w3 ⟨rfl, hb3⟩) | (refine wpList_alloc_as rfl rfl zero66z ?_) | (refine wpList_store_last rfl rfl rfl rfl rfl (by rw [Gr.size]; kernel_rfl) (by rw [Gr.size, Gr.size]) (List.all_eq_true.2 (Gr.one _)) ?_))
  have hbel := hb3.alloc hb3.size (.cells T1.cells 30)
  have hN := Blk.new w3 T1.cells 30
  generalize w3.alloc (.cells T1.cells 30) = W at *
  generalize w3.heap.size = x at *
  have cS := (hbel.cell (p := ⟨b, 195, none⟩) lb).trans hcS
  have hbl := below_any T1 b x v n P hP W (Nat.lt_of_lt_of_le lb hbel.size) cS (hv.below hbel) hN.gat
  generalize firstI (lowW T1) P n = r at *
  by_cases h0 : T2 = 0
  · subst h0
    go_wp2_with (go_at_call 91; refine hbl.mono ?_; rintro e w5 ⟨rfl, hb5⟩)
    go_ret
    exact ⟨bool_eq (by rw [HF.out]; simp), hbel.trans (hb5.mono hbel.size)⟩
  · have h1 : (T2 == 0) = false := by simpa using h0
    have HF2 : Hid (V = false) := Lib.hid (by rw [HF.out]; simp [h0])
    clear h0
    go_wp2_with fail
    go_ret
    exact ⟨bool_eq (by rw [HF2.out]), hbel⟩

set_option maxRecDepth 100000 in
set_option maxHeartbeats 400000 in
theorem l07Kept_any (g : Gr) (b : Nat) (v u : Value) (n m : Nat) (P : Nat → Wt) (Q : Nat → Pm) (hg : g.ok) (hvg : validG g = true) (hQ : cellsIn g m Q) (hP : watchIn n P) (w : World) (hb : GAt w b g) (hcS : w.cell? ⟨b, 195, none⟩ = some v) (hv : WSl w v n P) (hu : PSl w u m Q) :
    Calls Try.prog 92 #[.pointer (some ⟨b, 0, none⟩), u] w fun e w' => e = .returned (.bool (keptB g n P m Q)) ∧ Below w.heap.size w w' := by
  have hwi := l07Ground_any g b u m Q hg hvg hQ w hb hu
  obtain ⟨a, c, rfl, hform⟩ := id hu
  clear hform
  obtain ⟨V, hV⟩ : ∃ V, V = keptB g n P m Q := ⟨_, rfl⟩
  rw [← hV]
  unfold keptB at hV
  generalize withT Q m 0 g = T at *
  obtain ⟨T1, T2⟩ := T
  have lb := hb.lt
  have HF := Lib.hid hV
  clear hV
  go_enter Try.func92, Try.ntmps92
  go_upto_region 2 with (first | (go_at_call 82; refine hwi.mono ?_; rintro e w3 ⟨rfl, hb3⟩) | (refine wpList_alloc_as rfl rfl zero66z ?_) | (refine wpList_store_last rfl rfl rfl rfl rfl (by rw [Gr.size]; kernel_rfl) (by rw [Gr.size, Gr.size]) (List.all_eq_true.2 (Gr.one _)) ?_))
  have hbel := hb3.alloc hb3.size (.cells T1.cells 30)
  have hN := Blk.new w3 T1.cells 30
  generalize w3.alloc (.cells T1.cells 30) = W at *
  generalize w3.heap.size = x at *
  have cS := (hbel.cell (p := ⟨b, 195, none⟩) lb).trans hcS
  have hbl := l07Below_any T1 b x v n P hP W (Nat.lt_of_lt_of_le lb hbel.size) cS (hv.below hbel) hN.gat
  generalize firstI (lowW T1) P n = r at *
  by_cases h0 : T2 = 0
  · subst h0
    go_wp2_with (go_at_call 90; refine hbl.mono ?_; rintro e w5 ⟨rfl, q5, rfl⟩)
    go_ret
    exact ⟨bool_eq (by rw [HF.out]; simp), below_drewN hbel _⟩
  · have h1 : (T2 == 0) = false := by simpa using h0
    have HF2 : Hid (V = false) := Lib.hid (by rw [HF.out]; simp [h0])
    clear h0
    go_wp2_with fail
    go_ret
    exact ⟨bool_eq (by rw [HF2.out]), hbel⟩

set_option maxRecDepth 100000 in
set_option maxHeartbeats 400000 in
theorem areKept_any (g : Gr) (v u : Value) (n m : Nat) (P : Nat → Wt) (Q : Nat → Pm) (hg : g.ok) (hP : ∀ i, i < n → (P i).ok) (hQ : ∀ i, i < m → (Q i).ok) (w : World) (hv : WSl w v n P) (hu : PSl w u m Q) :
    Calls Try.prog 45 #[.agg (ofc g v), u] w fun e w' => e = .returned (.tuple #[.bool (akT g n P m Q).1, .int .i64 (akT g n P m Q).2]) ∧ Below w.heap.size w w' := by
  obtain ⟨R, hR⟩ : ∃ R, R = (akT g n P m Q).1 := ⟨_, rfl⟩
  obtain ⟨V, hV⟩ : ∃ V, V = (akT g n P m Q).2 := ⟨_, rfl⟩
  rw [← hR, ← hV]
  unfold akT at hR hV
  obtain ⟨a, c, rfl, hform⟩ := id hu
  clear hform
  go_enter Try.func45, Try.ntmps45
  go_upto_region 1 with (refine wpList_box_as rfl rfl rfl ?_)
  have hA := Blk.new w (ofc g v) 56
  have hbel := below1 w (.cells (ofc g v) 56)
  generalize w.alloc (.cells (ofc g v) 56) = W at *
  have lA := hA.lt
  have hu := hu.below hbel
  have hv := hv.below hbel
  have hvp := validPermits_any g v _ n m P Q hg hP hQ W hv hu
  cases hvd : validP g n P m Q <;> rw [hvd] at hvp hR hV
  · have HF := Lib.hid (And.intro hR hV)
    clear hR hV hvd
    go_wp2_with (first | (refine wpList_load_blk rfl rfl rfl row76 hA (ofc_size _ _) ?_) | (go_at_call 85; refine hvp.mono ?_; rintro e w2 ⟨rfl, hb2⟩))
    go_ret2
    exact ⟨by rw [HF.out.1, HF.out.2]; rfl, hbel.trans (hb2.mono hbel.size)⟩
  · have HF := Lib.hid (And.intro hR hV)
    obtain ⟨hvg, hvo, hci, _, _⟩ := validP_use hvd
    have hke := fun w' (h1 : Blk w' w.heap.size (ofc g v) 56) h2 (h3 : PSl w' (.slice a m c) m Q) => kept_any g w.heap.size v _ n m P Q hg hvg hci (validO_watch hvo) w' h1.ogat ((h1.cell _).trans (ofc_last _ _)) h2 h3
    clear hR hV hvd
    generalize keptB g n P m Q = K at *
    go_wp2_with (first | (refine wpList_load_blk rfl rfl rfl row76 hA (ofc_size _ _) ?_) | (go_at_call 85; refine hvp.mono ?_; rintro e w2 ⟨rfl, hb2⟩; have hA2 := hA.below hb2 lA) | (go_at_call 93; refine (hke _ hA2 (hv.below hb2) (hu.below hb2)).mono ?_; rintro e w3 ⟨rfl, hb3⟩))
    have hbel2 := hbel.trans (hb2.mono hbel.size)
    go_ret2
    exact ⟨by rw [HF.out.1, HF.out.2]; rfl, hbel2.trans (hb3.mono hbel2.size)⟩

set_option maxRecDepth 100000 in
set_option maxHeartbeats 400000 in
theorem specAreKept_any (g : Gr) (v u : Value) (n m : Nat) (P : Nat → Wt) (Q : Nat → Pm) (hg : g.ok) (hP : ∀ i, i < n → (P i).ok) (hQ : ∀ i, i < m → (Q i).ok) (w : World) (hv : WSl w v n P) (hu : PSl w u m Q) :
    Calls Try.prog 44 #[.agg (ofc g v), u] w fun e w' => e = .returned (.tuple #[.bool (akT g n P m Q).1, .int .i64 (akT g n P m Q).2]) ∧ Below w.heap.size w w' := by
  obtain ⟨R, hR⟩ : ∃ R, R = (akT g n P m Q).1 := ⟨_, rfl⟩
  obtain ⟨V, hV⟩ : ∃ V, V = (akT g n P m Q).2 := ⟨_, rfl⟩
  rw [← hR, ← hV]
  unfold akT at hR hV
  obtain ⟨a, c, rfl, hform⟩ := id hu
  clear hform
  go_enter Try.func44, Try.ntmps44
  go_upto_region 1 with (refine wpList_box_as rfl rfl rfl ?_)
  have hA := Blk.new w (ofc g v) 56
  have hbel := below1 w (.cells (ofc g v) 56)
  generalize w.alloc (.cells (ofc g v) 56) = W at *
  have lA := hA.lt
  have hu := hu.below hbel
  have hv := hv.below hbel
  have hvp := l07Fits_any g v _ n m P Q w.heap.size _ hg hP hQ W hA hv hu
  cases hvd : validP g n P m Q <;> rw [hvd] at hvp hR hV
  · have HF := Lib.hid (And.intro hR hV)
    clear hR hV hvd
    go_wp2_with (go_at_call 81; refine hvp.mono ?_; rintro e w2 ⟨rfl, hb2⟩)
    go_ret2
    exact ⟨by rw [HF.out.1, HF.out.2]; rfl, hbel.trans (hb2.mono hbel.size)⟩
  · have HF := Lib.hid (And.intro hR hV)
    obtain ⟨hvg, hvo, hci, _, _⟩ := validP_use hvd
    have hke := fun w' (h1 : Blk w' w.heap.size (ofc g v) 56) h2 (h3 : PSl w' (.slice a m c) m Q) => l07Kept_any g w.heap.size v _ n m P Q hg hvg hci (validO_watch hvo) w' h1.ogat ((h1.cell _).trans (ofc_last _ _)) h2 h3
    clear hR hV hvd
    generalize keptB g n P m Q = K at *
    go_wp2_with (first | (go_at_call 81; refine hvp.mono ?_; rintro e w2 ⟨rfl, hb2⟩; have hA2 := hA.below hb2 lA) | (go_at_call 92; refine (hke _ hA2 (hv.below hb2) (hu.below hb2)).mono ?_; rintro e w3 ⟨rfl, hb3⟩))
    have hbel2 := hbel.trans (hb2.mono hbel.size)
    go_ret2
    exact ⟨by rw [HF.out.1, HF.out.2]; rfl, hbel2.trans (hb3.mono hbel2.size)⟩
end Go.Proofs.Ytnfoemgiebplmaa
