/- LevelsWith, in the program and in the reference; lists that a call has made, or none. -/
import Derived.Test.YtnfoemgiebplmaaKept
import Derived.Test.YtnfoemgiebplmaaScaled
import Derived.OwnWalk
namespace Go.Proofs.Ytnfoemgiebplmaa
open Go.ChangeShapes Go.WideShapes Go.ChangeAt Go.RowKit
set_option linter.unusedVariables false
set_option linter.unusedSimpArgs false
attribute [local irreducible] Calls

/-- A list of single cells that a call has made, or none. -/
def Rs (e : TypeId) (w : World) (g : Nat) (v : Value) (n : Nat) (xs : List Value) : Prop := (n = 0 ∧ ∃ a cap, v = .slice a 0 cap ∧ cap ≤ maxLen) ∨ Own w g e 1 v n xs
theorem Rs.form {e : TypeId} {w : World} {g : Nat} {v : Value} {n : Nat} {xs : List Value} (h : Rs e w g v n xs) : ∃ a cap, v = .slice a n cap ∧ n ≤ cap ∧ cap ≤ maxLen ∧ (n = 0 ∨ (a = some ⟨g, 0, none⟩ ∧ g < w.heap.size ∧ ∀ j, j < n → w.cell? ⟨g, j, none⟩ = xs[j]?)) := by
  rcases h with ⟨rfl, a, cap, rfl, h⟩ | h
  · exact ⟨a, cap, rfl, Nat.zero_le _, h, .inl rfl⟩
  · obtain ⟨cap, rfl, h1, h2⟩ := h.form
    exact ⟨_, cap, rfl, h1, h2, .inr ⟨rfl, h.lt, fun j hj => h.cell j (by omega)⟩⟩
theorem Rs.below {e : TypeId} {w w' : World} {g : Nat} {v : Value} {n : Nat} {xs : List Value} (h : Rs e w g v n xs) (hb : Below w.heap.size w w') : Rs e w' g v n xs := by
  rcases h with h | h
  · exact .inl h
  · exact .inr (h.below hb h.lt)
theorem Rs.only {e : TypeId} {w w' : World} {g k : Nat} {v : Value} {n : Nat} {xs : List Value} (h : Rs e w g v n xs) (hb : Only k w w') (hk : n = 0 ∨ g ≠ k) : Rs e w' g v n xs := by
  rcases h with h | h
  · exact .inl h
  · rcases hk with rfl | hk
    · obtain ⟨cap, rfl, _, hc⟩ := h.form
      exact .inl ⟨rfl, _, cap, rfl, hc⟩
    · exact .inr (h.move (hb.block g hk))
theorem Rs.ne {e : TypeId} {w : World} {g : Nat} {v : Value} {n : Nat} {xs : List Value} (h : Rs e w g v n xs) {k : Nat} (hk : w.heap.size ≤ k) : n = 0 ∨ g ≠ k := by
  rcases h with h | h
  · exact .inl h.1
  · have := h.lt; exact .inr (by omega)
theorem elFl : ElemTy Try.prog 63 23 1 4 := elem_of (z := .float .f32 0) Try.underlying63 (by kernel_rfl) rfl

def lvF (G : Gr) (P : Nat → Wt) (i : Nat) : Nat := G.hea (P i).cel.toNat
def lvN (g : Gr) (n : Nat) (P : Nat → Wt) (m : Nat) (Q : Nat → Pm) : Nat := if (gwT g n P m Q).2 = 0 then n else 0
theorem gwT_watch' {g : Gr} {n m : Nat} {P : Nat → Wt} {Q : Nat → Pm} (h : (gwT g n P m Q).2 = 0) : watchIn n P ∧ n ≤ 6 := by
  unfold gwT at h
  cases hv : validP g n P m Q
  · rw [hv] at h; simp at h
  · have h0 := (validP_use hv).2.1
    refine ⟨validO_watch h0, ?_⟩
    unfold validO at h0
    simp only [Bool.and_eq_true, decide_eq_true_eq] at h0
    exact h0.2.1

set_option maxRecDepth 100000 in
set_option maxHeartbeats 400000 in
theorem levelsWith_any (g : Gr) (v u : Value) (n m : Nat) (P : Nat → Wt) (Q : Nat → Pm) (hg : g.ok) (hP : ∀ i, i < n → (P i).ok) (hQ : ∀ i, i < m → (Q i).ok) (w : World) (hv : WSl w v n P) (hu : PSl w u m Q) :
    Calls Try.prog 35 #[.agg (ofc g v), u] w fun e w' => ∃ x r, e = .returned (.tuple #[x, .int .i64 (gwT g n P m Q).2]) ∧ w.heap.size ≤ r ∧ Rs 23 w' r x (lvN g n P m Q) (fls (lvN g n P m Q) (lvF (gwT g n P m Q).1 P)) ∧ Below w.heap.size w w' := by
  have hwa : (gwT g n P m Q).2 = 0 → watchIn n P ∧ n ≤ 6 := fun h => gwT_watch' h
  have hgw := fun w' h1 (h2 : PSl w' u m Q) => groundWith_any g v u n m P Q hg hP hQ w' h1 h2
  obtain ⟨N, hN⟩ : ∃ N, N = lvN g n P m Q := ⟨_, rfl⟩
  rw [← hN]
  unfold lvN at hN
  generalize gwT g n P m Q = Y at *
  obtain ⟨T1, T2⟩ := Y
  simp only at hN hwa hgw ⊢
  obtain ⟨a', c1', rfl, hform'⟩ := id hu
  clear hform'
  obtain ⟨a, c', rfl, hc1, hc2, hcell⟩ := id hv
  unfold maxLen at hc2
  have HC := Lib.hid hcell
  clear hcell
  have bn : (n : Int) ≤ 9223372036854775807 := by omega
  go_enter Try.func35, Try.ntmps35
  go_upto_region 1 with (refine wpList_box_as rfl rfl rfl ?_)
  have hA := Blk.new w (ofc g (.slice a n c')) 56
  have hbel := below1 w (.cells (ofc g (.slice a n c')) 56)
  generalize w.alloc (.cells (ofc g (.slice a n c')) 56) = W at *
  have lA := hA.lt
  have hgw := hgw W (hv.below hbel) (hu.below hbel)
  go_upto_region 2 with (first | (refine wpList_load_blk rfl rfl rfl row76 hA (ofc_size _ _) ?_) | (go_at_call 31; refine hgw.mono ?_; rintro e w3 ⟨rfl, hb3⟩) | (refine wpList_alloc_as rfl rfl zero66z ?_) | (refine wpList_store_last rfl rfl rfl rfl rfl (by rw [Gr.size]; kernel_rfl) (by rw [Gr.size, Gr.size]) (List.all_eq_true.2 (Gr.one _)) ?_))
  have hbel := hbel.trans (hb3.mono hbel.size)
  have hbel := hbel.alloc hbel.size (.cells T1.cells 30)
  have hA := (hA.below hb3 lA).alloc (.cells T1.cells 30)
  have hX := Blk.new w3 T1.cells 30
  have lx : w.heap.size < w3.heap.size := Nat.lt_of_lt_of_le lA hb3.size
  generalize w3.alloc (.cells T1.cells 30) = W2 at *
  generalize w3.heap.size = x at *
  clear hb3 lA
  have lA := hA.lt
  have lX := hX.lt
  by_cases h0 : T2 = 0
  · subst h0
    obtain ⟨hP, hn6⟩ := hwa rfl
    rw [if_pos rfl] at hN
    subst hN
    go_upto_region 5 with fail
    have hE : Own (W2.alloc (.cells #[] 23)) W2.heap.size 23 1 (.slice (some ⟨W2.heap.size, 0, none⟩) 0 0) 0 (fls 0 (lvF T1 P)) := own_blk (Blk.new _ _ _) rfl (by decide) (fls_zero _).symm
    have hA := hA.alloc (.cells #[] 23)
    have hX := hX.alloc (.cells #[] 23)
    have hbelE := hbel.alloc hbel.size (.cells #[] 23)
    have hr2 : w.heap.size ≤ W2.heap.size := hbel.size
    have hxr : x < W2.heap.size := lX
    generalize W2.alloc (.cells #[] 23) = W3 at *
    generalize W2.heap.size = r0 at *
    clear hbel lA lX hgw hQ hu hc1
    have cS0 := (hA.cell 195).trans (ofc_last _ _)
    go_upto_region 6 with fail
    clear cS0
    go_loopw [8, 24] (fun y i wr => ∃ (k r : Nat), k ≤ N ∧ i = .int .i64 k ∧ Own wr r 23 1 y k (fls k (lvF T1 P)) ∧ w.heap.size < r ∧ r ≠ x ∧ Blk wr w.heap.size (ofc g (.slice a N c')) 56 ∧ Blk wr x T1.cells 30 ∧ Below w.heap.size w wr) (fun _ i _ => N - (intOf i).toNat)
    case atStart => exact ⟨0, r0, by omega, rfl, hE, by omega, by omega, hA, hX, hbelE⟩
    case round =>
      clear hE hA hX hbelE
      obtain ⟨k, r, hk, rfl, hE, hr0, hrx, hA, hX, hbel⟩ := hrel
      have cS := (hA.cell 195).trans (ofc_last _ _)
      have lA := hA.lt
      have lX := hX.lt
      have lE := hE.lt
      by_cases hlt : k < N
      · obtain ⟨b', o, rfl, hb', hcell⟩ := HC.out.resolve_left (by omega)
        obtain ⟨c, hc, hc64⟩ := hP k hlt
        have m0 : wr.cell? ⟨b', o + k * 2, none⟩ = some (.int .i8 c) := (hbel.cell (p := ⟨b', _, none⟩) hb').trans ((hcell k 0 hlt (by omega)).trans ((P k).get0.trans (by rw [hc])))
        have m1 : wr.cell? ⟨b', o + k * 2 + 1, none⟩ = some (.float .f32 (P k).lim) := (hbel.cell (p := ⟨b', _, none⟩) hb').trans ((hcell k 1 hlt (by omega)).trans (P k).get1)
        have HL : Hid (lvF T1 P k = T1.hea c) := Lib.hid (by unfold lvF; rw [hc]; rfl)
        clear hcell
        have bj : (0 : Int) ≤ k := by omega
        have bm : (k : Int) < N := by omega
        have bk : (0 : Int) ≤ c := by omega
        have bl : (c : Int) < 64 := by omega
        go_upto_region 8 with fail
        have hY := Blk.new wr #[.int .i8 c, .float .f32 (P k).lim] 125
        have hAB := hA.alloc (.cells #[.int .i8 c, .float .f32 (P k).lim] 125)
        have hXB := hX.alloc (.cells #[.int .i8 c, .float .f32 (P k).lim] 125)
        have hEB := hE.alloc (.cells #[.int .i8 c, .float .f32 (P k).lim] 125)
        have hbelB := hbel.alloc hbel.size (.cells #[.int .i8 c, .float .f32 (P k).lim] 125)
        generalize wr.alloc (.cells #[.int .i8 c, .float .f32 (P k).lim] 125) = WB at *
        generalize wr.heap.size = y at *
        clear hA hX hE hbel m0 m1 cS
        have lA := hAB.lt
        have lX := hXB.lt
        have lE := hEB.lt
        have x0 : WB.cell? ⟨y, 0, none⟩ = some (.int .i8 c) := hY.cell 0
        have x1 : WB.cell? ⟨x, 130 + c, none⟩ = some (.float .f32 (T1.hea c)) := hXB.gat.getH c hc64
        go_wp2_with (at_builtin; refine wpList_app elFl rfl rfl rfl rfl Nat.one_pos (hEB.alloc _) (Blk.new _ _ _) rfl ?_ ?_ ?_ ?_; (· intro u hu; simp at hu; subst hu; rfl); (· unfold maxLen; omega); (· omega); intro v1 w1 g1' hown1 hgr1 hg1)
        go_roundw
        case rel =>
          have hb1 := (hbelB.alloc hbelB.size (.cells #[.float .f32 (T1.hea c)] 23)).grown hgr1 (by simp; omega) (fun k hk => by injection hk with hk; omega)
          rw [show (#[Value.float .f32 (T1.hea c)] : Array Value).toList = [.float .f32 (T1.hea c)] from rfl, fls_snoc] at hown1
          rw [fls_congr (g := lvF T1 P) (fun j hj => by
            unfold Go.Proofs.Ytnfoemgiebplmaa.upd
            by_cases hjk : j = k
            · subst hjk; simp only [if_true]; exact HL.out.symm
            · simp only [hjk, if_false])] at hown1
          have nA := (hAB.alloc (.cells #[.float .f32 (T1.hea c)] 23)).grown hgr1 (by simp; omega)
          have nX := (hXB.alloc (.cells #[.float .f32 (T1.hea c)] 23)).grown hgr1 (by simp; omega)
          exact ⟨k + 1, g1', by omega, by go_num, hown1, by simp at hg1; omega, by simp at hg1; omega, nA, nX, hb1⟩
        case measure => simp [intOf]; omega
      · obtain rfl : k = N := by omega
        go_wp2_with fail
        go_ret2
        exact ⟨_, r, rfl, by omega, .inr hE, hbel⟩
  · have h1 : (T2 != 0) = true := by simpa using h0
    rw [if_neg h0] at hN
    subst hN
    clear h0
    go_wp2_with fail
    go_ret2
    exact ⟨_, x, rfl, by omega, .inl ⟨rfl, _, _, rfl, by decide⟩, hbel⟩

set_option maxRecDepth 100000 in
set_option maxHeartbeats 400000 in
theorem specLevelsWith_any (g : Gr) (v u : Value) (n m : Nat) (P : Nat → Wt) (Q : Nat → Pm) (hg : g.ok) (hP : ∀ i, i < n → (P i).ok) (hQ : ∀ i, i < m → (Q i).ok) (w : World) (hv : WSl w v n P) (hu : PSl w u m Q) :
    Calls Try.prog 34 #[.agg (ofc g v), u] w fun e w' => ∃ x r, e = .returned (.tuple #[x, .int .i64 (gwT g n P m Q).2]) ∧ w.heap.size ≤ r ∧ Rs 23 w' r x (lvN g n P m Q) (fls (lvN g n P m Q) (lvF (gwT g n P m Q).1 P)) ∧ Below w.heap.size w w' := by
  have hwa : (gwT g n P m Q).2 = 0 → watchIn n P ∧ n ≤ 6 := fun h => gwT_watch' h
  have hgw := fun w' h1 (h2 : PSl w' u m Q) => specGroundWith_any g v u n m P Q hg hP hQ w' h1 h2
  obtain ⟨N, hN⟩ : ∃ N, N = lvN g n P m Q := ⟨_, rfl⟩
  rw [← hN]
  unfold lvN at hN
  generalize gwT g n P m Q = Y at *
  obtain ⟨T1, T2⟩ := Y
  simp only at hN hwa hgw ⊢
  obtain ⟨a', c1', rfl, hform'⟩ := id hu
  clear hform'
  obtain ⟨a, c', rfl, hc1, hc2, hcell⟩ := id hv
  unfold maxLen at hc2
  have HC := Lib.hid hcell
  clear hcell
  have bn : (n : Int) ≤ 9223372036854775807 := by omega
  go_enter Try.func34, Try.ntmps34
  go_upto_region 1 with (refine wpList_box_as rfl rfl rfl ?_)
  have hA := Blk.new w (ofc g (.slice a n c')) 56
  have hbel := below1 w (.cells (ofc g (.slice a n c')) 56)
  generalize w.alloc (.cells (ofc g (.slice a n c')) 56) = W at *
  have lA := hA.lt
  have hgw := hgw W (hv.below hbel) (hu.below hbel)
  go_upto_region 2 with (first | (refine wpList_load_blk rfl rfl rfl row76 hA (ofc_size _ _) ?_) | (go_at_call 28; refine hgw.mono ?_; rintro e w3 ⟨rfl, hb3⟩) | (refine wpList_alloc_as rfl rfl zero66z ?_) | (refine wpList_store_last rfl rfl rfl rfl rfl (by rw [Gr.size]; kernel_rfl) (by rw [Gr.size, Gr.size]) (List.all_eq_true.2 (Gr.one _)) ?_))
  have hbel := hbel.trans (hb3.mono hbel.size)
  have hbel := hbel.alloc hbel.size (.cells T1.cells 30)
  have hA := (hA.below hb3 lA).alloc (.cells T1.cells 30)
  have hX := Blk.new w3 T1.cells 30
  have lx : w.heap.size < w3.heap.size := Nat.lt_of_lt_of_le lA hb3.size
  generalize w3.alloc (.cells T1.cells 30) = W2 at *
  generalize w3.heap.size = x at *
  clear hb3 lA
  have lA := hA.lt
  have lX := hX.lt
  by_cases h0 : T2 = 0
  · subst h0
    obtain ⟨hP, hn6⟩ := hwa rfl
    rw [if_pos rfl] at hN
    subst hN
    go_upto_region 6 with fail
    have hE : Own (W2.alloc (.cells #[] 23)) W2.heap.size 23 1 (.slice (some ⟨W2.heap.size, 0, none⟩) 0 0) 0 (fls 0 (lvF T1 P)) := own_blk (Blk.new _ _ _) rfl (by decide) (fls_zero _).symm
    have hA := hA.alloc (.cells #[] 23)
    have hX := hX.alloc (.cells #[] 23)
    have hbelE := hbel.alloc hbel.size (.cells #[] 23)
    have hr2 : w.heap.size ≤ W2.heap.size := hbel.size
    have hxr : x < W2.heap.size := lX
    generalize W2.alloc (.cells #[] 23) = W3 at *
    generalize W2.heap.size = r0 at *
    clear hbel lA lX hgw hQ hu hc1
    go_loopw [8, 9] (fun y i wr => ∃ (k r : Nat), k ≤ N ∧ i = .int .i64 k ∧ Own wr r 23 1 y k (fls k (lvF T1 P)) ∧ w.heap.size < r ∧ r ≠ x ∧ Blk wr w.heap.size (ofc g (.slice a N c')) 56 ∧ Blk wr x T1.cells 30 ∧ Below w.heap.size w wr) (fun _ i _ => N - (intOf i).toNat)
    case atStart => exact ⟨0, r0, by omega, rfl, hE, by omega, by omega, hA, hX, hbelE⟩
    case round =>
      clear hE hA hX hbelE
      obtain ⟨k, r, hk, rfl, hE, hr0, hrx, hA, hX, hbel⟩ := hrel
      have cS := (hA.cell 195).trans (ofc_last _ _)
      have lA := hA.lt
      have lX := hX.lt
      have lE := hE.lt
      by_cases hlt : k < N
      · obtain ⟨b', o, rfl, hb', hcell⟩ := HC.out.resolve_left (by omega)
        obtain ⟨c, hc, hc64⟩ := hP k hlt
        have m0 : wr.cell? ⟨b', o + k * 2, none⟩ = some (.int .i8 c) := (hbel.cell (p := ⟨b', _, none⟩) hb').trans ((hcell k 0 hlt (by omega)).trans ((P k).get0.trans (by rw [hc])))
        have m1 : wr.cell? ⟨b', o + k * 2 + 1, none⟩ = some (.float .f32 (P k).lim) := (hbel.cell (p := ⟨b', _, none⟩) hb').trans ((hcell k 1 hlt (by omega)).trans (P k).get1)
        have HL : Hid (lvF T1 P k = T1.hea c) := Lib.hid (by unfold lvF; rw [hc]; rfl)
        clear hcell
        have bj : (0 : Int) ≤ k := by omega
        have bm : (k : Int) < N := by omega
        have bk : (0 : Int) ≤ c := by omega
        have bl : (c : Int) < 64 := by omega
        have hAB := hA
        have hXB := hX
        have hEB := hE
        have hbelB := hbel
        have x1 : wr.cell? ⟨x, 130 + c, none⟩ = some (.float .f32 (T1.hea c)) := hXB.gat.getH c hc64
        go_wp2_with (at_builtin; refine wpList_app elFl rfl rfl rfl rfl Nat.one_pos (hEB.alloc _) (Blk.new _ _ _) rfl ?_ ?_ ?_ ?_; (· intro u hu; simp at hu; subst hu; rfl); (· unfold maxLen; omega); (· omega); intro v1 w1 g1' hown1 hgr1 hg1)
        go_roundw
        case rel =>
          have hb1 := (hbelB.alloc hbelB.size (.cells #[.float .f32 (T1.hea c)] 23)).grown hgr1 (by simp; omega) (fun k hk => by injection hk with hk; omega)
          rw [show (#[Value.float .f32 (T1.hea c)] : Array Value).toList = [.float .f32 (T1.hea c)] from rfl, fls_snoc] at hown1
          rw [fls_congr (g := lvF T1 P) (fun j hj => by
            unfold Go.Proofs.Ytnfoemgiebplmaa.upd
            by_cases hjk : j = k
            · subst hjk; simp only [if_true]; exact HL.out.symm
            · simp only [hjk, if_false])] at hown1
          have nA := (hAB.alloc (.cells #[.float .f32 (T1.hea c)] 23)).grown hgr1 (by simp; omega)
          have nX := (hXB.alloc (.cells #[.float .f32 (T1.hea c)] 23)).grown hgr1 (by simp; omega)
          exact ⟨k + 1, g1', by omega, by go_num, hown1, by simp at hg1; omega, by simp at hg1; omega, nA, nX, hb1⟩
        case measure => simp [intOf]; omega
      · obtain rfl : k = N := by omega
        go_wp2_with fail
        go_ret2
        exact ⟨_, r, rfl, by omega, .inr hE, hbel⟩
  · have h1 : (T2 != 0) = true := by simpa using h0
    rw [if_neg h0] at hN
    subst hN
    clear h0
    go_wp2_with fail
    go_ret2
    exact ⟨_, x, rfl, by omega, .inl ⟨rfl, _, _, rfl, by decide⟩, hbel.alloc hbel.size _⟩
end Go.Proofs.Ytnfoemgiebplmaa
