import Derived.Test.YtokdpmpgonafmaaGreatMG27
import Derived.Shelf.SlSortCmp.WholeK
import Derived.Ground.SlsfProg
import Derived.Shelf.SlSortCmp.NoneTotal
/- Lists compared as lists are ordered (slices.Compare), and choices by their lists. -/
namespace Go.Proofs.YtokdpmpgonafmaaGreat
open Go.ChangeShapes Go.WideShapes Go.ChangeAt Go.RowKit
set_option linter.unusedVariables false
set_option linter.unusedSimpArgs false
attribute [local irreducible] Calls
set_option maxRecDepth 100000 in
set_option maxHeartbeats 400000 in
theorem isNaNI_any (x : Int) (w : World) : Calls Tryz.prog 123 #[.int .i64 x] w fun e w' => e = .returned (.bool false) ∧ w' = w := by
  have hx : (x != x) = false := by simp
  go_enter Tryz.func123, Tryz.ntmps123
  go_wp2_with fail
  go_ret
  exact ⟨rfl, rfl⟩
def cmpI (x y : Int) : Int := if x < y then -1 else if y < x then 1 else 0
set_option maxRecDepth 100000 in
set_option maxHeartbeats 400000 in
theorem cmpI_any (x y : Int) (w : World) : Calls Tryz.prog 106 #[.int .i64 x, .int .i64 y] w fun e w' => e = .returned (.int .i64 (cmpI x y)) ∧ w' = w := by
  obtain ⟨V, hV⟩ : ∃ V, V = cmpI x y := ⟨_, rfl⟩
  rw [← hV]
  unfold cmpI at hV
  by_cases h1 : x < y
  · rw [if_pos h1] at hV
    subst hV
    go_enter Tryz.func106, Tryz.ntmps106
    go_wp2_with (go_at_call 123; refine (isNaNI_any _ _).mono ?_; rintro e w' ⟨rfl, hw⟩; rw [hw]; clear hw w')
    go_ret
    exact ⟨rfl, rfl⟩
  · rw [if_neg h1] at hV
    by_cases h2 : y < x
    · rw [if_pos h2] at hV
      subst hV
      go_enter Tryz.func106, Tryz.ntmps106
      go_wp2_with (go_at_call 123; refine (isNaNI_any _ _).mono ?_; rintro e w' ⟨rfl, hw⟩; rw [hw]; clear hw w')
      go_ret
      exact ⟨rfl, rfl⟩
    · rw [if_neg h2] at hV
      subst hV
      go_enter Tryz.func106, Tryz.ntmps106
      go_wp2_with (go_at_call 123; refine (isNaNI_any _ _).mono ?_; rintro e w' ⟨rfl, hw⟩; rw [hw]; clear hw w')
      go_ret
      exact ⟨rfl, rfl⟩
theorem cmpL_drop {L M : List Nat} {j x y : Nat} (hx : L[j]? = some x) (hy : M[j]? = some y) : cmpL (L.drop j) (M.drop j) = if x < y then -1 else if y < x then 1 else cmpL (L.drop (j + 1)) (M.drop (j + 1)) := by
  obtain ⟨h1, e1⟩ := List.getElem?_eq_some_iff.1 hx
  obtain ⟨h2, e2⟩ := List.getElem?_eq_some_iff.1 hy
  rw [List.drop_eq_getElem_cons h1, List.drop_eq_getElem_cons h2, e1, e2]
  rfl
theorem cmpL_long {L M : List Nat} {j x : Nat} (hx : L[j]? = some x) (hy : M.length ≤ j) : cmpL (L.drop j) (M.drop j) = 1 := by
  obtain ⟨h1, e1⟩ := List.getElem?_eq_some_iff.1 hx
  rw [List.drop_eq_getElem_cons h1, List.drop_eq_nil_of_le hy]
  rfl
theorem cmpL_end {L M : List Nat} : cmpL (L.drop L.length) (M.drop L.length) = if L.length < M.length then -1 else 0 := by
  rw [List.drop_length]
  by_cases h : L.length < M.length
  · rw [if_pos h, List.drop_eq_getElem_cons h]; rfl
  · rw [if_neg h, List.drop_eq_nil_of_le (by omega)]; rfl
/-- A list of numbers that lies at g. -/
def NumsAt (w : World) (g : Nat) (L : List Nat) : Prop := ∀ j k : Nat, L[j]? = some k → w.cell? ⟨g, j, none⟩ = some (.int .i64 k)
set_option maxRecDepth 100000 in
set_option maxHeartbeats 400000 in
theorem compareL_any (g1 g2 c1 c2 : Nat) (L M : List Nat) (hL : L.length ≤ 64) (hM : M.length ≤ 64) (w : World) (h1 : NumsAt w g1 L) (h2 : NumsAt w g2 M) :
    Calls Tryz.prog 89 #[.slice (some ⟨g1, 0, none⟩) L.length c1, .slice (some ⟨g2, 0, none⟩) M.length c2] w fun e w' => e = .returned (.int .i64 (cmpL L M)) ∧ w' = w := by
  obtain ⟨V, hV⟩ : ∃ V, V = cmpL L M := ⟨_, rfl⟩
  rw [← hV]
  have HV := Lib.hid hV
  have H1 := Lib.hid h1
  have H2 := Lib.hid h2
  clear hV h1 h2
  go_enter Tryz.func89, Tryz.ntmps89
  go_wp2_with fail
  go_loop [11] (fun i => ∃ j : Nat, j ≤ L.length ∧ i = .int .i64 j ∧ Hid (V = cmpL (L.drop j) (M.drop j))) (fun i => L.length - (intOf i).toNat)
  case atStart => exact ⟨0, by omega, rfl, Lib.hid HV.out⟩
  case round =>
    obtain ⟨j, hj, rfl, hq⟩ := hrel
    by_cases hlt : j < L.length
    · obtain ⟨x, hx⟩ : ∃ x, L[j]? = some x := ⟨_, List.getElem?_eq_getElem hlt⟩
      have e1 := H1.out j x hx
      have HX := Lib.hid hx
      clear hx
      have bj : (0 : Int) ≤ j := by omega
      have bl : (j : Int) < L.length := by omega
      by_cases hm : j < M.length
      · obtain ⟨y, hy⟩ : ∃ y, M[j]? = some y := ⟨_, List.getElem?_eq_getElem hm⟩
        have e2 := H2.out j y hy
        have bm : (j : Int) < M.length := by omega
        have bn : decide (j ≥ M.length) = false := by simp; omega
        have hd := cmpL_drop HX.out hy
        clear hy
        have hci := fun w' => cmpI_any x y w'
        unfold cmpI at hci
        by_cases hxy : x < y
        · rw [if_pos hxy] at hd
          rw [if_pos (show (x : Int) < y by omega)] at hci
          have HD := Lib.hid (hq.out.trans hd)
          clear hd hxy
          go_wp2_with (go_at_call 106; refine (hci _).mono ?_; rintro e w' ⟨rfl, hw⟩; rw [hw]; clear hw w')
          go_ret
          exact ⟨int_eq HD.out.symm, rfl⟩
        · rw [if_neg hxy] at hd
          rw [if_neg (show ¬ (x : Int) < y by omega)] at hci
          by_cases hyx : y < x
          · rw [if_pos hyx] at hd
            rw [if_pos (show (y : Int) < x by omega)] at hci
            have HD := Lib.hid (hq.out.trans hd)
            clear hd hxy hyx
            go_wp2_with (go_at_call 106; refine (hci _).mono ?_; rintro e w' ⟨rfl, hw⟩; rw [hw]; clear hw w')
            go_ret
            exact ⟨int_eq HD.out.symm, rfl⟩
          · rw [if_neg hyx] at hd
            rw [if_neg (show ¬ (y : Int) < x by omega)] at hci
            have HD := Lib.hid (hq.out.trans hd)
            clear hd hxy hyx
            go_wp2_with (go_at_call 106; refine (hci _).mono ?_; rintro e w' ⟨rfl, hw⟩; rw [hw]; clear hw w')
            go_round
            case rel => exact ⟨j + 1, by omega, by go_num, HD⟩
            case measure => simp [intOf]; omega
      · have bm : ¬ (j : Int) < M.length := by omega
        have bn : decide (j ≥ M.length) = true := by simp; omega
        have HD := Lib.hid (hq.out.trans (cmpL_long HX.out (by omega)))
        go_wp2_with fail
        go_ret
        exact ⟨int_eq HD.out.symm, rfl⟩
    · obtain rfl : j = L.length := by omega
      have hd := hq.out.trans cmpL_end
      by_cases hm : L.length < M.length
      · rw [if_pos hm] at hd
        have HD := Lib.hid hd
        clear hd
        go_wp2_with fail
        go_ret
        exact ⟨int_eq HD.out.symm, rfl⟩
      · rw [if_neg hm] at hd
        have HD := Lib.hid hd
        clear hd
        go_wp2_with fail
        go_ret
        exact ⟨int_eq HD.out.symm, rfl⟩
end Go.Proofs.YtokdpmpgonafmaaGreat
/- Choices sorted by their lists (slices.SortFunc over the program's closure). -/
namespace Go.Proofs.YtokdpmpgonafmaaGreat
open Go.ChangeShapes Go.WideShapes Go.ChangeAt Go.RowKit
set_option linter.unusedVariables false
set_option linter.unusedSimpArgs false
attribute [local irreducible] Calls
set_option maxRecDepth 100000 in
set_option maxHeartbeats 400000 in
/-- The closure of the sort: two blocks are laid. -/
theorem cmpCh_any (g1 g2 c1 c2 : Nat) (L M : List Nat) (s t : Int) (hL : L.length ≤ 64) (hM : M.length ≤ 64) (W : World) (l1 : g1 < W.heap.size) (l2 : g2 < W.heap.size) (h1 : NumsAt W g1 L) (h2 : NumsAt W g2 M) :
    Calls Tryz.prog 88 #[.agg #[.slice (some ⟨g1, 0, none⟩) L.length c1, .int .i64 s], .agg #[.slice (some ⟨g2, 0, none⟩) M.length c2, .int .i64 t]] W fun e w' => e = .returned (.int .i64 (cmpL L M)) ∧ ∃ q os', w' = Sort.grow (W.drewN q) os' := by
  have hcm : Calls Tryz.prog 89 #[.slice (some ⟨g1, 0, none⟩) L.length c1, .slice (some ⟨g2, 0, none⟩) M.length c2] ((W.alloc (.cells #[.slice (some ⟨g1, 0, none⟩) L.length c1, .int .i64 s] 81)).alloc (.cells #[.slice (some ⟨g2, 0, none⟩) M.length c2, .int .i64 t] 81)) _ :=
    compareL_any g1 g2 c1 c2 L M hL hM _ (fun j k hj => ((below2 W _ _).cell (p := ⟨g1, j, none⟩) l1).trans (h1 j k hj)) (fun j k hj => ((below2 W _ _).cell (p := ⟨g2, j, none⟩) l2).trans (h2 j k hj))
  clear h1 h2 l1 l2 hL hM
  generalize cmpL L M = V at *
  go_enter Tryz.func88, Tryz.ntmps88
  go_wp2_with (go_at_call 89; refine hcm.mono ?_; rintro e w' ⟨rfl, hw⟩; rw [hw]; clear hw w')
  go_ret
  exact ⟨rfl, 0, _, by rw [Sort.alloc_eq_grow, Sort.alloc_eq_grow, Sort.grow_grow]; rfl⟩
end Go.Proofs.YtokdpmpgonafmaaGreat
/- slices.SortFunc over choices: the library's own text, compared (written by the shelf's tool for this seat). -/
namespace Go.Proofs.YtokdpmpgonafmaaGreat
open Go.Shelf
def sortCh_ren : Go.Shelf.Ren := ⟨fun | 6 => 87 | 15 => 105 | 14 => 104 | 28 => 121 | 29 => 122 | 20 => 113 | 21 => 114 | 22 => 115 | 23 => 116 | 24 => 117 | 25 => 118 | 26 => 119 | 27 => 120 | 46 => 128 | 47 => 129 | 48 => 130 | 49 => 131 | 50 => 132 | 57 => 140 | n => n, fun | 22 => 109 | 24 => 81 | 25 => 133 | 3 => 3 | 39 => 103 | 0 => 0 | 53 => 168 | 55 => 25 | 4 => 4 | 46 => 161 | 45 => 160 | 50 => 165 | 5 => 5 | 9 => 9 | 66 => 173 | 70 => 176 | 76 => 183 | 77 => 184 | n => n, fun | n => n⟩
theorem sortCh : Go.Proofs.SlLaysF0.n6 Tryz.prog sortCh_ren := {
  mixed := by kernel_rfl
  f6 := ⟨Tryz.f87.name, by decide, Tryz.func87.trans (congrArg some (by kernel_rfl))⟩
  f14 := ⟨Tryz.f104.name, by decide, Tryz.func104.trans (congrArg some (by kernel_rfl))⟩
  f15 := Tryz.func105.trans (congrArg some (by kernel_rfl))
  f20 := ⟨Tryz.f113.name, by decide, Tryz.func113.trans (congrArg some (by kernel_rfl))⟩
  f21 := ⟨Tryz.f114.name, by decide, Tryz.func114.trans (congrArg some (by kernel_rfl))⟩
  f22 := ⟨Tryz.f115.name, by decide, Tryz.func115.trans (congrArg some (by kernel_rfl))⟩
  f23 := ⟨Tryz.f116.name, by decide, Tryz.func116.trans (congrArg some (by kernel_rfl))⟩
  f24 := ⟨Tryz.f117.name, by decide, Tryz.func117.trans (congrArg some (by kernel_rfl))⟩
  f25 := ⟨Tryz.f118.name, by decide, Tryz.func118.trans (congrArg some (by kernel_rfl))⟩
  f26 := ⟨Tryz.f119.name, by decide, Tryz.func119.trans (congrArg some (by kernel_rfl))⟩
  f27 := ⟨Tryz.f120.name, by decide, Tryz.func120.trans (congrArg some (by kernel_rfl))⟩
  f28 := Tryz.func121.trans (congrArg some (by kernel_rfl))
  f29 := Tryz.func122.trans (congrArg some (by kernel_rfl))
  f46 := ⟨Tryz.f128.name, by decide, Tryz.func128.trans (congrArg some (by kernel_rfl))⟩
  f47 := Tryz.func129.trans (congrArg some (by kernel_rfl))
  f48 := Tryz.func130.trans (congrArg some (by kernel_rfl))
  f49 := ⟨Tryz.f131.name, by decide, Tryz.func131.trans (congrArg some (by kernel_rfl))⟩
  f50 := ⟨Tryz.f132.name, by decide, Tryz.func132.trans (congrArg some (by kernel_rfl))⟩
  f57 := ⟨Tryz.f140.name, by decide, Tryz.func140.trans (congrArg some (by kernel_rfl))⟩
  t0 := Tryz.underlying0
  a0 := Tryz.isAgg0
  z0 := Tryz.sizeOf0
  v0 := Tryz.zeroValue0
  t3 := Tryz.underlying3
  a3 := Tryz.isAgg3
  z3 := Tryz.sizeOf3
  v3 := Tryz.zeroValue3
  t4 := Tryz.underlying4
  a4 := Tryz.isAgg4
  z4 := Tryz.sizeOf4
  v4 := Tryz.zeroValue4
  t5 := Tryz.underlying5
  a5 := Tryz.isAgg5
  z5 := Tryz.sizeOf5
  v5 := Tryz.zeroValue5
  t9 := Tryz.underlying9
  a9 := Tryz.isAgg9
  z9 := Tryz.sizeOf9
  v9 := Tryz.zeroValue9
  t22 := Tryz.underlying109
  a22 := Tryz.isAgg109
  z22 := Tryz.sizeOf109
  v22 := Tryz.zeroValue109
  t25 := Tryz.underlying133
  a25 := Tryz.isAgg133
  z25 := Tryz.sizeOf133
  v25 := Tryz.zeroValue133
  t39 := Tryz.underlying103
  a39 := Tryz.isAgg103
  z39 := Tryz.sizeOf103
  v39 := Tryz.zeroValue103
  t45 := Tryz.underlying160
  a45 := Tryz.isAgg160
  z45 := Tryz.sizeOf160
  v45 := Tryz.zeroValue160
  t46 := Tryz.underlying161
  a46 := Tryz.isAgg161
  z46 := Tryz.sizeOf161
  v46 := Tryz.zeroValue161
  t50 := Tryz.underlying165
  a50 := Tryz.isAgg165
  z50 := Tryz.sizeOf165
  v50 := Tryz.zeroValue165
  t53 := Tryz.underlying168
  a53 := Tryz.isAgg168
  z53 := Tryz.sizeOf168
  v53 := Tryz.zeroValue168
  t55 := Tryz.underlying25
  a55 := Tryz.isAgg25
  z55 := Tryz.sizeOf25
  v55 := Tryz.zeroValue25
  t66 := Tryz.underlying173
  a66 := Tryz.isAgg173
  z66 := Tryz.sizeOf173
  v66 := Tryz.zeroValue173
  t70 := Tryz.underlying176
  a70 := Tryz.isAgg176
  z70 := Tryz.sizeOf176
  v70 := Tryz.zeroValue176
  t76 := Tryz.underlying183
  a76 := Tryz.isAgg183
  z76 := Tryz.sizeOf183
  v76 := Tryz.zeroValue183
  t77 := Tryz.underlying184
  a77 := Tryz.isAgg184
  z77 := Tryz.sizeOf184
  v77 := Tryz.zeroValue184 }
end Go.Proofs.YtokdpmpgonafmaaGreat
/- Choices sorted by their lists: what the sort leaves. -/
namespace Go.Proofs.YtokdpmpgonafmaaGreat
open Go.ChangeShapes Go.WideShapes Go.ChangeAt Go.RowKit Go.Sort Go.Lib
set_option linter.unusedVariables false
set_option linter.unusedSimpArgs false
attribute [local irreducible] Calls

theorem rls_get (m : Nat) (Q : Nat → Pm) : ∀ (D : List Rec) (i c : Nat) (r : Rec), D[i]? = some r → c < 2 → (rls m Q D)[i * 2 + c]? = (encR m Q r)[c]?
  | [], i, c, r, h, _ => by simp at h
  | x :: D, 0, c, r, h, hc => by
    simp at h; subst h
    unfold rls
    rw [List.flatMap_cons, Nat.zero_mul, Nat.zero_add, List.getElem?_append_left (by simp [encR]; omega)]
  | x :: D, i + 1, c, r, h, hc => by
    have ih := rls_get m Q D i c r (by simpa using h) hc
    unfold rls at ih ⊢
    rw [List.flatMap_cons, List.getElem?_append_right (by simp [encR]; omega)]
    rw [← ih]
    congr 1
    simp [encR]; omega
theorem cmp_weak {α : Type} (f : α → List Nat) : SWO (ltOf fun x y => cmpL (f x) (f y)) where
  irrefl x := by
    unfold ltOf
    show decide (cmpL (f x) (f x) < 0) = false
    rw [cmpL_self]; rfl
  trans x y z h1 h2 := by
    unfold ltOf at *
    have a := cmpL_lt.1 (of_decide_eq_true h1)
    have b := cmpL_lt.1 (of_decide_eq_true h2)
    exact decide_eq_true (cmpL_lt.2 (List.lt_trans a b))
  ntrans x y z h1 h2 := by
    unfold ltOf at *
    have a : ¬ f x < f y := fun h => of_decide_eq_false h1 (cmpL_lt.2 h)
    have b : ¬ f y < f z := fun h => of_decide_eq_false h2 (cmpL_lt.2 h)
    refine decide_eq_false fun h => ?_
    have a' : f y ≤ f x := a
    have b' : f z ≤ f y := b
    have c : ¬ f x < f z := List.le_trans b' a'
    exact c (cmpL_lt.1 h)
/-- Where the choices D lie, one behind the other. -/
def RecsAt (w : World) (go m : Nat) (Q : Nat → Pm) (D : List Rec) : Prop := ∀ (i : Nat) (r : Rec), D[i]? = some r → w.cell? ⟨go, i * 2, none⟩ = some (r.val m) ∧ w.cell? ⟨go, i * 2 + 1, none⟩ = some (.int .i64 (sumOf Q (picks r.s m)))
/-- What the sort leaves: the same choices, sorted; no other block has changed. -/
def Sorted (w : World) (go m : Nat) (Q : Nat → Pm) (D : List Rec) (e : Ending) (w' : World) : Prop :=
  e = .returned (.tuple #[]) ∧ ∃ D' : List Rec, D'.Perm D ∧ (∀ (i j : Nat) (r s : Rec), i < j → D'[i]? = some r → D'[j]? = some s → ¬ cmpL (picks s.s m) (picks r.s m) < 0) ∧ RecsAt w' go m Q D' ∧ w'.os = w.os ∧ w'.tape = w.tape ∧ w'.output = w.output ∧ w.heap.size ≤ w'.heap.size ∧ ∀ b, b < w.heap.size → b ≠ go → w'.heap[b]? = w.heap[b]?
theorem Lies.nums {w : World} {m B : Nat} {r : Rec} (h : Lies w m B r) : NumsAt w r.g (picks r.s m) := fun j k hj => by
  have hl : j < (picks r.s m).length := by
    rcases Nat.lt_or_ge j (picks r.s m).length with h | h
    · exact h
    · rw [List.getElem?_eq_none h] at hj; cases hj
  rw [h.1.cell j (by omega)]
  exact ils_get _ _ _ hj
theorem extract_all {α : Type} (a : Array α) (n : Nat) (h : a.size = n) : a.extract 0 n = a := by subst h; exact Array.extract_size
theorem sortCh_any (m : Nat) (Q : Nat → Pm) (D : List Rec) (B go cap : Nat) (w : World) (hm : m ≤ 6) (hO : Own w go 81 2 (.slice (some ⟨go, 0, none⟩) D.length cap) D.length (rls m Q D)) (hL : ∀ r, r ∈ D → Lies w m B r) (hD : D.length ≤ 64) :
    Calls Tryz.prog 87 #[.slice (some ⟨go, 0, none⟩) D.length cap, .func (.func 88) #[] #[]] w (Sorted w go m Q D) := by
  by_cases h0 : D.length = 0
  · have hD0 : D = [] := List.length_eq_zero_iff.1 h0
    subst hD0
    have hcon := AnyF.slices_SortFunc_none sortCh (some ⟨go, 0, none⟩) cap (.func (.func 88) #[] #[]) w
    change Calls Tryz.prog 87 _ _ _ at hcon
    refine hcon.mono fun e w' ⟨he, hw⟩ => ?_
    subst hw
    exact ⟨he, [], List.Perm.refl _, fun i j r s _ h => by simp at h, fun i r h => by simp at h, rfl, rfl, rfl, Nat.le_refl _, fun _ _ _ => rfl⟩
  · have hn : 0 < D.length := by omega
    haveI : Inhabited (Fin D.length) := ⟨⟨0, hn⟩⟩
    have hds : (Array.ofFn (fun i : Fin D.length => i)).size = D.length := by simp
    have hgetd : ∀ t (h : t < D.length), (Array.ofFn (fun i : Fin D.length => i))[t]! = ⟨t, h⟩ := fun t h => by
      rw [getElem!_pos _ t (by simpa using h)]; simp
    have hH : HoldsK (fun i : Fin D.length => encR m Q D[i]) 2 w go 0 (Array.ofFn (fun i : Fin D.length => i)) := by
      intro j hj
      have hj2 : j < D.length * 2 := by simpa using hj
      have hjd : j / 2 < D.length := by omega
      refine ⟨?_, by rw [Nat.zero_add]; exact hO.free j⟩
      rw [Nat.zero_add, hO.cell j (by omega)]
      rw [get_flatK _ _ _ _ (by simpa using hj2), hgetd _ hjd]
      have h1 := rls_get m Q D (j / 2) (j % 2) D[j / 2] (by simp [hjd]) (Nat.mod_lt _ (by decide))
      rw [show j / 2 * 2 + j % 2 = j by omega] at h1
      rw [h1]
      have h2 : j % 2 < (encR m Q D[j / 2]).length := by simp [encR]; omega
      rw [List.getElem?_eq_getElem h2]
      have h3 := getElem!_pos (encR m Q D[j / 2]) (j % 2) h2
      exact congrArg some h3.symm
    have hne : ∀ r, r ∈ D → r.g ≠ go := fun r hr e => own_ne2 hO (hL r hr).1 (by decide) e.symm
    have hcmp : CmpLays Tryz.prog 88 #[] (fun i : Fin D.length => encR m Q D[i]) 2 (fun i j => cmpL (picks D[i].s m) (picks D[j].s m)) go 0 (Array.ofFn (fun i : Fin D.length => i)).size w := by
      intro mm os dk hs x y
      have hx : D[x] ∈ D := List.getElem_mem _
      have hy : D[y] ∈ D := List.getElem_mem _
      have hsz := size_sortWorldK_c (fun i : Fin D.length => encR m Q D[i]) 2 w go 0 mm dk os
      have lx := (hL _ hx).1.lt
      have ly := (hL _ hy).1.lt
      exact cmpCh_any D[x].g D[y].g D[x].cap D[y].cap (picks D[x].s m) (picks D[y].s m) (sumOf Q (picks D[x].s m)) (sumOf Q (picks D[y].s m)) (by have := picks_length D[x].s m; omega) (by have := picks_length D[y].s m; omega) _ (by omega) (by omega)
        (fun j k hj => (cell?_sortWorldK_other _ _ w go 0 mm dk os ⟨D[x].g, j, none⟩ (hne _ hx) lx).trans ((hL _ hx).nums j k hj))
        (fun j k hj => (cell?_sortWorldK_other _ _ w go 0 mm dk os ⟨D[y].g, j, none⟩ (hne _ hy) ly).trans ((hL _ hy).nums j k hj))
    have eg : ∀ args w, (callFunc 88 args).run Tryz.prog w = .ok (.enter 88 args) w := enters_of Tryz.func88 (by kernel_rfl) rfl
    have hcon := AnyQ.slices_SortFunc sortCh 2 Tryz.isAgg81 Tryz.sizeOf81 (fun i : Fin D.length => encR m Q D[i]) (fun _ => rfl) (fun x v hv => by simp [encR, Rec.val] at hv; rcases hv with rfl | rfl <;> rfl) (fun i j => cmpL (picks D[i].s m) (picks D[j].s m)) (cmp_weak fun i : Fin D.length => picks D[i].s m) 88 #[] go 0 cap (Array.ofFn (fun i : Fin D.length => i)) w eg hcmp hH hO.lt (by rw [hds]; omega)
    rw [hds] at hcon
    change Calls Tryz.prog 87 _ _ _ at hcon
    refine hcon.mono fun e w' ⟨he, d', q, os, hp, hs, hw⟩ => ?_
    obtain ⟨p1, p2, p3⟩ := hp
    have hsz' : d'.size = D.length := by rw [p1, hds]
    have hH' := holdsK_sortWorldK_c (fun i : Fin D.length => encR m Q D[i]) 2 w go 0 _ d' q os hH hO.lt p1
    rw [← hw] at hH'
    have hget : ∀ (i : Nat) (r : Rec), (d'.toList.map fun x : Fin D.length => D[x])[i]? = some r → ∃ h : i < d'.size, r = D[d'[i]] := fun i r h => by
      rw [List.getElem?_map] at h
      cases hq : d'.toList[i]? with
      | none => rw [hq] at h; cases h
      | some y =>
        rw [hq] at h
        have hi : i < d'.size := by
          rcases Nat.lt_or_ge i d'.size with h' | h'
          · exact h'
          · rw [List.getElem?_eq_none (by simpa using h')] at hq; cases hq
        have hy : y = d'[i] := by
          have : d'.toList[i]? = some d'[i] := by simp [hi]
          rw [this] at hq; exact (Option.some.inj hq).symm
        refine ⟨hi, ?_⟩
        subst hy; exact (Option.some.inj h).symm
    refine ⟨he, d'.toList.map fun x => D[x], ?_, fun i j r s hij hr hs' => ?_, fun i r hr => ?_, ?_⟩
    · have h1 : (d'.extract 0 D.length).toList = d'.toList := by rw [extract_all d' _ hsz']
      have h2 : ((Array.ofFn (fun i : Fin D.length => i)).extract 0 D.length).toList = List.ofFn (fun i : Fin D.length => i) := by
        rw [extract_all _ _ hds]; simp
      rw [h1, h2] at p3
      have h3 := p3.map (fun x : Fin D.length => D[x])
      have h4 : (List.ofFn (fun i : Fin D.length => i)).map (fun x : Fin D.length => D[x]) = D := by
        apply List.ext_getElem
        · simp
        · intro i h1 h2; simp
      rw [h4] at h3
      exact h3
    · obtain ⟨h1, e1⟩ := hget i r hr
      obtain ⟨h2, e2⟩ := hget j s hs'
      have := hs i j (Nat.zero_le _) hij (by omega)
      rw [getElem!_pos d' i h1, getElem!_pos d' j h2] at this
      rw [e1, e2]
      exact of_decide_eq_false this
    · obtain ⟨h1, e1⟩ := hget i r hr
      have hfl : ∀ c, c < 2 → w'.cell? ⟨go, i * 2 + c, none⟩ = some ((encR m Q r)[c]!) := fun c hc => by
        have h5 := (hH' (i * 2 + c) (by rw [size_flatK]; omega)).1
        rw [Nat.zero_add, get_flatK _ _ _ _ (by omega)] at h5
        rw [show (i * 2 + c) / 2 = i by omega, show (i * 2 + c) % 2 = c by omega, getElem!_pos d' i h1, ← e1] at h5
        exact h5
      exact ⟨hfl 0 (by omega), hfl 1 (by omega)⟩
    · have hblk : ∀ b, b < w.heap.size → b ≠ go → w'.heap[b]? = w.heap[b]? := fun b hb hne => by
        rw [hw]
        unfold sortWorldK
        rw [heap_grow_old _ _ (by rw [size_putRowK]; exact hb)]
        simp [putRowK, putRow, mapBlock, Sort.ahead, Array.getElem?_modify, Ne.symm hne]
      refine ⟨by rw [hw]; rfl, by rw [hw]; rfl, by rw [hw]; rfl, by rw [hw]; exact size_sortWorldK_c _ _ _ _ _ _ _ _, hblk⟩
end Go.Proofs.YtokdpmpgonafmaaGreat
