import Derived.Test.YtdnnjahdcabdmaaGreatDoorMO34
import Derived.Test.YtdnnjahdcabdmaaGreatDoorMO18
import Derived.Test.YtdnnjahdcabdmaaGreatDoorMO21
import Derived.Test.YtdnnjahdcabdmaaGreatDoorMO22
import Derived.Test.YtdnnjahdcabdmaaGreatDoorMO23
import Derived.Test.YtdnnjahdcabdmaaGreatDoorMO28
import Derived.Test.YtdnnjahdcabdmaaGreatDoorMO30
import Derived.DeepKeys
import Derived.Laws.StructEq
/- Permits drawn from bytes (A2Permits). -/
namespace Go.Proofs.YtdnnjahdcabdmaaGreatDoor
open Go.ChangeShapes Go.WideShapes Go.ChangeAt Go.RowKit
set_option linter.unusedVariables false
set_option linter.unusedSimpArgs false
attribute [local irreducible] Calls
/-- What A2Permits gives: few permits that the ground bears. -/
def GaveL (w : World) (g : Gr) (e : Ending) (w' : World) : Prop := ∃ (x : Value) (r m : Nat) (Q : Nat → Pm), m ≤ 3 ∧ e = .returned x ∧ w.heap.size ≤ r ∧ (∀ i, i < m → (Q i).ok ∧ badPG g (Q i) = false) ∧ Own w' r 59 3 x m (pls m Q) ∧ Below w.heap.size w w'
set_option maxRecDepth 100000 in
set_option maxHeartbeats 1000000 in
theorem a2Permits_any (v : Value) (n : Nat) (g : Gr) (u : Value) (hW : 1 ≤ g.wide ∧ g.wide ≤ 4) (hH : 1 ≤ g.high ∧ g.high ≤ 4) (w : World) (hv : Bytes w w.heap.size v n) :
    Calls Tryz.prog 7 #[v, .agg (ofc g u)] w (GaveL w g) := by
  go_enter Tryz.func7, Tryz.ntmps7
  go_upto_region 1 with (refine wpList_box_as rfl rfl rfl ?_)
  have hO := Blk.new w (ofc g u) 33
  have hbel := below1 w (.cells (ofc g u) 33)
  have hv1 : Bytes (w.alloc (.cells (ofc g u) 33)) (w.alloc (.cells (ofc g u) 33)).heap.size v n := by
    obtain ⟨a, c, h1, h2, h3⟩ := hv.move (w' := w.alloc (.cells (ofc g u) 33)) (fun r hr => heap_alloc_old w _ hr)
    refine ⟨a, c, h1, h2, fun j hj => ?_⟩
    obtain ⟨r, o, x, g1, g2, g3⟩ := h3 j hj
    exact ⟨r, o, x, g1, by simp; omega, g3⟩
  generalize w.alloc (.cells (ofc g u) 33) = W at *
  have lO := hO.lt
  have hs := src_new hv1
  have hfr := l00From_any v n W hv1
  have hbs : Below w.heap.size w (W.alloc (.cells #[v, .int .i64 0, .int .u64 0] 149)) := hbel.alloc (by omega) _
  have hO := hO.alloc (.cells #[v, .int .i64 0, .int .u64 0] 149)
  generalize W.alloc (.cells #[v, .int .i64 0, .int .u64 0] 149) = W1 at *
  generalize W.heap.size = b at *
  have lb := hs.lt
  clear hv hv1 hbel
  go_upto_region 3 with (go_at_call 43; refine hfr.mono ?_; rintro e w1 ⟨rfl, hw⟩; subst hw)
  have hs2 : Src (w1.alloc (.cells #[] 59)) b 0 := hs.move fun r hr => heap_alloc_old w1 _ (by omega)
  have hG : Own (w1.alloc (.cells #[] 59)) w1.heap.size 59 3 (.slice (some ⟨w1.heap.size, 0, none⟩) 0 0) 0 (pls 0 (fun _ => ⟨0, 0, 0⟩)) := own_blk (Blk.new _ _ _) rfl (by decide) (by rw [pls_zero])
  have hbs := hbs.alloc hbs.size (.cells #[] 59)
  have hO := hO.alloc (.cells #[] 59)
  generalize w1.alloc (.cells #[] 59) = W2 at *
  generalize w1.heap.size = q at *
  have lq : b < q := lb
  have hown : Below w.heap.size w W2 := hbs
  have hp := fun (n : Int) (j : Nat) (h1 : 1 ≤ n) (h2 : n ≤ 1099511627776) (hj : j < 900000) (w' : World) (hs : Src w' b j) => pick_any b j n (by omega) h1 h2 w' hs
  go_upto_region 4 with (go_at_call 44; refine (hp 4 0 (by decide) (by decide) (by omega) _ hs2).mono ?_; rintro e w3 ⟨x, ⟨x0, x1⟩, rfl, hs3, hg3⟩)
  have hG := hG.grown hg3 (fun e => by injection e; omega)
  have hO := hO.grown hg3 (fun e => by injection e; omega)
  have hbs := hbs.grown hg3 (by have := hbs.size; omega) (fun k e => by injection e; omega)
  obtain ⟨X, hX⟩ : ∃ X : Nat, (X : Int) = x := ⟨x.toNat, by omega⟩
  subst hX
  have hX3 : X ≤ 3 := by omega
  clear hs hs2 hg3 x0 x1 hfr
  go_loopw [6, 7] (fun y i wr => ∃ (j m gb : Nat) (Q : Nat → Pm), j + m ≤ 3 ∧ i = .int .i64 j ∧ Own wr gb 59 3 y m (pls m Q) ∧ (∀ i, i < m → (Q i).ok ∧ badPG g (Q i) = false) ∧ Src wr b (2 + 8 * m) ∧ Blk wr w.heap.size (ofc g u) 33 ∧ q ≤ gb ∧ Below w.heap.size w wr) (fun _ i _ => (intOf i).toNat)
  case atStart => exact ⟨X, 0, q, _, by omega, rfl, hG, fun i hi => by omega, hs3, hO, Nat.le_refl _, hbs⟩
  case round =>
    clear hG hs3 hO hbs hX3
    obtain ⟨j, m, gb, Q, hjm, rfl, hG, hQ, hsr, hO, hgb, hbs⟩ := hrel
    by_cases hlt : 0 < j
    · have bj : (0 : Int) < j := by omega
      have hdp := l07PermitDrawn_any b w.heap.size (2 + 8 * m) g u hW hH (by omega) wr hsr hO (by omega)
      have HQ := Lib.hid hQ
      clear hQ
      go_wp2_with (first | (go_at_call 45; refine hdp.mono ?_; rintro e w4 ⟨p, hpo, hpb, rfl, hs4, hg4⟩; rw [Pm.cells_eq]; have hG4 := hG.grown hg4 (fun e => by injection e; omega)) | (at_builtin; refine wpList_app elPm rfl rfl rfl rfl (by decide) (hG4.alloc _) (Blk.new _ _ _) rfl ?_ ?_ ?_ ?_; (· intro u hu; simp at hu; rcases hu with rfl | rfl | rfl <;> rfl); (· unfold maxLen; omega); (· omega); intro v1 w7 g2 hown1 hgr1 hg1))
      have e4 := hg4.size
      have ls := hsr.lt
      have lg := hG4.lt
      have eb := hbs.size
      go_roundw
      case rel =>
        refine ⟨j - 1, m + 1, g2, fun i => if i = m then p else Q i, by omega, by rw [show ((j : Int) - 1) = ((j - 1 : Nat) : Int) by omega], ?_, ?_, ?_, ?_, ?_, ?_⟩
        · rw [pls_succ, if_pos rfl, pls_congr (P' := Q) (fun i hi => if_neg (by omega)), Pm.cells_eq]
          exact hown1
        · intro i hi
          by_cases him : i = m
          · simp only [him, if_true]; exact ⟨hpo, hpb⟩
          · simp only [him, if_false]; exact HQ.out i (by omega)
        · exact hs4.move fun r hr => (hgr1.block r (by simp; omega) (fun e => by injection e; omega)).trans (heap_alloc_old w4 _ (by omega))
        · exact ((hO.grown hg4 (fun e => by injection e; omega)).alloc _).grown hgr1 (fun e => by injection e; omega)
        · rcases hg1 with h | h
          · omega
          · rw [h]; simp; omega
        · exact ((hbs.grown hg4 eb (fun k e => by injection e; omega)).alloc (by omega) _).grown hgr1 (by simp; omega) (fun k e => by injection e; omega)
      case measure => simp [intOf]; omega
    · obtain rfl : j = 0 := by omega
      go_wp2_with fail
      go_ret
      exact ⟨_, gb, m, Q, by omega, rfl, by omega, hQ, hG, hbs⟩
end Go.Proofs.YtdnnjahdcabdmaaGreatDoor
/- What is drawn of an office: its watches (l07Drawn). -/
namespace Go.Proofs.YtdnnjahdcabdmaaGreatDoor
open Go.ChangeShapes Go.WideShapes Go.ChangeAt Go.RowKit
set_option linter.unusedVariables false
set_option linter.unusedSimpArgs false
attribute [local irreducible] Calls
/-- A watch's limit: quarters, from minus six on. -/
def limOf (x : Nat) : Nat := (floatBits .quo .f32 (floatOfInt .f32 ((x : Int) - 24)) 1082130432).getD 0
theorem lim_all : ∀ x : Nat, x < 65 → (floatBits .quo .f32 (floatOfInt .f32 ((x : Int) - 24)) 1082130432).isSome = true ∧ plain (limOf x) = true := by
  have h : (List.range 65).all (fun (x : Nat) => (floatBits .quo .f32 (floatOfInt .f32 ((x : Int) - 24)) 1082130432).isSome && plain (limOf x)) = true := by kernel_rfl
  intro x hx
  have := List.all_eq_true.1 h x (List.mem_range.2 hx)
  simpa using this
theorem lim_is {x : Nat} (h : x < 65) : floatBits .quo .f32 (floatOfInt .f32 ((x : Int) - 24)) 1082130432 = some (limOf x) := by
  obtain ⟨r, hr⟩ := Option.isSome_iff_exists.1 (lim_all x h).1
  unfold limOf; rw [hr]; rfl
/-- What a drawn watch is. -/
def goodW (g : Gr) (p : Wt) : Prop := p.ok ∧ badW g p = false
theorem goodW_of {g : Gr} {y z : Int} {x : Nat} (hW : g.wide ≤ 4) (hH : g.high ≤ 4) (hy : 0 ≤ y ∧ y < g.wide) (hz : 0 ≤ z ∧ z < g.high) (hx : x < 65) : goodW g ⟨y + 8 * z, limOf x⟩ := by
  obtain ⟨m, hm⟩ : ∃ m : Nat, (m : Int) = y + 8 * z := ⟨(y + 8 * z).toNat, by omega⟩
  refine ⟨⟨by show -128 ≤ y + 8 * z; omega, by show y + 8 * z ≤ 127; omega⟩, ?_⟩
  unfold badW isCI isC
  rw [(lim_all x hx).2, ← hm]
  simp
  omega
/-- An office with such watches is in order. -/
theorem validO_of {g : Gr} {n : Nat} {P : Nat → Wt} (hg : validG g = true) (hn : n ≤ 3) (hP : ∀ i, i < n → goodW g (P i)) : validO g n P = true := by
  unfold validO
  rw [hg, Bool.true_and, Bool.and_eq_true]
  refine ⟨by simp; omega, ?_⟩
  rw [Bool.not_eq_true', anyTo_false]
  exact fun i hi => (hP i hi).2
theorem validP_of {g : Gr} {n m : Nat} {P : Nat → Wt} {Q : Nat → Pm} (h : validO g n P = true) (hm : m ≤ 3) (hQ : ∀ i, i < m → badPG g (Q i) = false) : validP g n P m Q = true := by
  unfold validP
  rw [h, Bool.true_and, Bool.and_eq_true]
  refine ⟨by simp; omega, ?_⟩
  rw [Bool.not_eq_true', anyTo_false]
  exact hQ
end Go.Proofs.YtdnnjahdcabdmaaGreatDoor
/- Plain laws of offices, for FnOffices: codes, watches, an idle permit, shares. No statement is proved here. -/
namespace Go.Proofs.YtdnnjahdcabdmaaGreatDoor
set_option linter.unusedVariables false
set_option linter.unusedSimpArgs false

theorem settT_code {within : Nat} : ∀ (l : Nat) (n : Int) (G : Gr), (settT within l n G).2.2 = 0 ∨ (settT within l n G).2.2 = 4 ∨ (settT within l n G).2.2 = 7
  | 0, _, _ => .inr (.inr rfl)
  | l + 1, n, G => by
    unfold settT
    split
    · split
      · exact .inl rfl
      · exact settT_code l _ _
    · exact .inr (.inl rfl)
theorem withT_code {Q : Nat → Pm} : ∀ (l i : Nat) (G : Gr), (withT Q l i G).2 = 0 ∨ (withT Q l i G).2 = 4 ∨ (withT Q l i G).2 = 7
  | 0, _, G => settT_code 1000 0 G
  | l + 1, i, G => by
    unfold withT
    split
    · exact withT_code l _ _
    · exact .inr (.inl rfl)
/-- A float that is finite where it is nothing. -/
theorem fin_of_zero {x : Nat} (h : feq x 0 = true) : x % 2147483648 < 2139095040 := by
  unfold feq at h
  have h : (Ieee.single.order x 0 == some .eq) = true := h
  unfold Ieee.Format.order at h
  cases hr : Ieee.single.read x with
  | nan s f => rw [hr] at h; cases h
  | infinity s =>
    rw [hr, show Ieee.single.read 0 = .number false 0 (-149) by decide] at h
    cases s <;> cases h
  | number s m e => exact fin_of_num hr
theorem hea_fin {G : Gr} (h : validG G = true) (k : Nat) (hk : k < 64) : G.hea k % 2147483648 < 2139095040 := by
  have h5 := (validG_parts h).2.2.2.2.1
  have hat := fieldIs_at h5 k hk
  cases hc : isC G k
  · exact fin_of_zero (hat.2 hc)
  · exact plain_fin (hat.1 hc)
theorem gai_fin {G : Gr} (h : validG G = true) (k : Nat) (hk : k < 64) : G.gai k % 2147483648 < 2139095040 := by
  have h5 := (validG_parts h).2.2.2.1
  have hat := fieldIs_at h5 k hk
  cases hc : isC G k
  · exact fin_of_zero (hat.2 hc)
  · exact plain_fin (hat.1 hc)
/-- All words of single precision are less than two to the thirty-second. -/
theorem write_lt (d : Ieee.Datum) : Ieee.single.write d < 4294967296 := by
  obtain ⟨hb, hi, hl, hs, hf⟩ := single_facts
  have hw : ∀ (s : Bool) (r : Nat), r ≤ 2147483647 → Ieee.single.word s r < 4294967296 := fun s r hr => by
    unfold Ieee.Format.word
    rw [hs]
    split <;> omega
  cases d with
  | number s m e =>
    show Ieee.single.nearest s m e < _
    unfold Ieee.Format.nearest
    split
    · exact hw _ _ (by omega)
    · exact hw _ _ (by rw [hi]; exact Nat.le_trans (Nat.min_le_right _ _) (by omega))
  | infinity s => exact hw _ _ (by rw [hi]; omega)
  | nan s f =>
    show Ieee.single.word s (Ieee.single.infRung + f % Ieee.single.binade) < _
    have := Nat.mod_lt f (show 0 < Ieee.single.binade by rw [hb]; omega)
    exact hw _ _ (by rw [hi]; rw [hb] at this ⊢; omega)
theorem cn_lt32 {x : Nat} (h : x < 4294967296) : cn x < 4294967296 := by
  unfold cn cnk
  split
  · decide
  · exact h
theorem sub_lt (x y : Nat) : fop .sub x y < 4294967296 := by
  unfold fop
  refine cn_lt32 ?_
  have e : floatBits .sub .f32 x y = ((Ieee.single.read x).sum (Ieee.single.read y).opposite).map Ieee.single.write := rfl
  rw [e]
  cases (Ieee.single.read x).sum (Ieee.single.read y).opposite with
  | none => decide
  | some d => exact write_lt d
theorem rate_zero : rate4 0 = 0 := by unfold rate4; decide +kernel
theorem less_idle {G : Gr} {c : Nat} (hv : validG G = true) (hl : G.gai c < 4294967296) (hc : c < 64) (o : Int) : lessG G ⟨o, c, 0⟩ = G := by
  unfold lessG lessX
  simp only [Int.toNat_natCast, rate_zero]
  rw [sub_zeroF hl (gai_fin hv c hc)]
  have : upd G.gai c (G.gai c) = G.gai := by
    funext i; unfold upd; split
    · rename_i h; rw [h]
    · rfl
  rw [this]
/-- A permit without a rate, last of a list, changes nothing. -/
theorem withT_idle {Q Q' : Nat → Pm} {c : Nat} (hc : c < 64) (o : Int) : ∀ (l i : Nat) (G : Gr), validG G = true → (∀ k, k < 64 → G.gai k < 4294967296) → (∀ j, i ≤ j → j < i + l → Q' j = Q j) → Q' (i + l) = ⟨o, c, 0⟩ → withT Q' (l + 1) i G = withT Q l i G
  | 0, i, G, hv, hl, _, hq => by
    unfold withT
    rw [show Q' i = ⟨o, c, 0⟩ from hq, less_idle hv (hl c hc) hc, if_pos hv]
    unfold withT
    rfl
  | l + 1, i, G, hv, hl, h, hq => by
    rw [show withT Q' (l + 1 + 1) i G = if validG (lessG G (Q' i)) then withT Q' (l + 1) (i + 1) (lessG G (Q' i)) else (zeroG, 4) from by conv => lhs; unfold withT, show withT Q (l + 1) i G = if validG (lessG G (Q i)) then withT Q l (i + 1) (lessG G (Q i)) else (zeroG, 4) from by conv => lhs; unfold withT, h i (by omega) (by omega)]
    cases hv' : validG (lessG G (Q i))
    · rfl
    · simp only [if_true]
      refine withT_idle hc o l (i + 1) _ hv' (fun k hk => ?_) (fun j h1 h2 => h j (by omega) (by omega)) (by rw [← hq]; congr 1; omega)
      unfold lessG upd
      simp only
      split
      · exact sub_lt _ _
      · exact hl k hk
/-- All that the law asks of the functions of permits. -/
structure OfFacts (g : Gr) (n : Nat) (P : Nat → Wt) (m : Nat) (Q : Nat → Pm) : Prop where
  code : (gwT g n P m Q).2 = 0 ∨ (gwT g n P m Q).2 = 4 ∨ (gwT g n P m Q).2 = 7
  lvn : (gwT g n P m Q).2 = 0 → lvN g n P m Q = n
  ak : akT g n P m Q = (decide ((gwT g n P m Q).2 = 0) && decide ((fbT g n P m Q).2.2 = 6), 0)
  fbc : (gwT g n P m Q).2 = 0 → (fbT g n P m Q).2.2 = 0 ∨ (fbT g n P m Q).2.2 = 6
  low : (gwT g n P m Q).2 = 0 → ∀ i, i < n → lowW (gwT g n P m Q).1 (P i) = true → (fbT g n P m Q).2.2 = 0 ∧ (fbT g n P m Q).1 ≤ i
  pos : (gwT g n P m Q).2 = 0 → (fbT g n P m Q).2.2 = 0 → 0 ≤ (fbT g n P m Q).1 ∧ (fbT g n P m Q).1 < n ∧ fgt (fbT g n P m Q).2.1 0 = true
  idle : ∀ c : Nat, c < 64 → isC g c = true → ∀ Q' : Nat → Pm, (∀ i, i < m → Q' i = Q i) → Q' m = ⟨0, c, 0⟩ → gwT g n P (m + 1) Q' = gwT g n P m Q
theorem lim_fin {g : Gr} {p : Wt} (h : goodW g p) : p.lim % 2147483648 < 2139095040 := by
  have h2 := h.2
  unfold badW at h2
  refine plain_fin ?_
  cases hp : plain p.lim
  · rw [hp] at h2; simp at h2
  · rfl
theorem of_facts {g : Gr} {n m : Nat} {P : Nat → Wt} {Q : Nat → Pm} (hg : IsDrawn g) (hf : ∀ k, k < 64 → g.gai k < 4294967296) (hn : n ≤ 3) (hP : ∀ i, i < n → goodW g (P i)) (hm : m ≤ 3) (hQ : ∀ i, i < m → badPG g (Q i) = false) : OfFacts g n P m Q := by
  have hV := validO_of hg.valid hn hP
  have hVP := validP_of hV hm hQ
  have hgw : gwT g n P m Q = withT Q m 0 g := by unfold gwT; rw [hVP]; rfl
  have hak : akT g n P m Q = (keptB g n P m Q, 0) := by unfold akT; rw [hVP]; rfl
  have hfi := firstI_lt (lowW (gwT g n P m Q).1) P n
  have hto := firstI_to (lowW (gwT g n P m Q).1) P n
  have hvalid : (gwT g n P m Q).2 = 0 → validG (gwT g n P m Q).1 = true := fun h => by rw [hgw] at h ⊢; exact withT_valid _ _ _ h
  refine ⟨by rw [hgw]; exact withT_code _ _ _, fun h => by unfold lvN; rw [if_pos h], ?_, ?_, ?_, ?_, ?_⟩
  · rw [hak]
    unfold keptB fbT
    rw [← hgw]
    by_cases h0 : (gwT g n P m Q).2 = 0
    · rw [if_pos h0]
      by_cases h1 : firstI (lowW (gwT g n P m Q).1) P n < 0
      · rw [if_pos h1]; simp [h0, h1]
      · rw [if_neg h1]; simp [h0, h1]
    · rw [if_neg h0]; simp [h0]
  · intro h0
    unfold fbT
    rw [if_pos h0]
    split
    · exact .inr rfl
    · exact .inl rfl
  · intro h0 i hi hl
    unfold fbT
    rw [if_pos h0]
    rcases hto with ⟨h1, h2⟩ | ⟨k, h1, h2, h3, h4⟩
    · rw [h2 i hi] at hl; cases hl
    · rw [h1, if_neg (by omega)]
      refine ⟨rfl, ?_⟩
      show ((k : Int)) ≤ i
      by_cases hik : i < k
      · rw [h4 i hik] at hl; cases hl
      · omega
  · intro h0 h1
    unfold fbT at h1 ⊢
    rw [if_pos h0] at h1 ⊢
    rcases hto with ⟨h2, h3⟩ | ⟨k, h2, h3, h4, h5⟩
    · rw [h2] at h1; simp at h1
    · rw [h2, if_neg (by omega)]
      refine ⟨by show (0 : Int) ≤ k; omega, by show (k : Int) < n; omega, ?_⟩
      show fgt (lackW (gwT g n P m Q).1 (P (k : Int).toNat)) 0 = true
      rw [Int.toNat_natCast]
      unfold lackW
      obtain ⟨c, hc, hc64⟩ := validO_watch hV k h3
      unfold lowW at h4
      rw [hc, Int.toNat_natCast] at h4 ⊢
      exact sub_posF (hea_fin (hvalid h0) c hc64) (lim_fin (hP k h3)) h4
  · intro c hc hcc Q' hq1 hq2
    have hVP' : validP g n P (m + 1) Q' = true := by
      unfold validP
      rw [hV, Bool.true_and, Bool.and_eq_true]
      refine ⟨by simp; omega, ?_⟩
      rw [Bool.not_eq_true', anyTo_false]
      intro i hi
      by_cases him : i < m
      · rw [hq1 i him]; exact hQ i him
      · obtain rfl : i = m := by omega
        rw [hq2]
        unfold badPG badOwner badRate isCI
        simp [hcc]; omega
    rw [hgw]
    unfold gwT
    rw [hVP']
    simp only [if_true]
    exact withT_idle hc 0 m 0 g hg.valid hf (fun j _ h2 => hq1 j (by omega)) (by rw [Nat.zero_add]; exact hq2)
theorem few_lt : ∀ x : Nat, x < 65 → fewOf x < 4294967296 := by decide +kernel
/-- A drawn ground's gains are words. -/
theorem IsDrawn.gai_lt {g : Gr} (h : IsDrawn g) (k : Nat) (hk : k < 64) : g.gai k < 4294967296 := by
  rcases h.gai k hk with h0 | ⟨_, x, hx, h0⟩
  · rw [h0]; decide
  · rw [h0]; exact few_lt x hx
/-! ### Shares. -/
def sumN (f : Nat → Int) : Nat → Int
  | 0 => 0
  | n + 1 => sumN f n + f n
theorem sumN_congr {f f' : Nat → Int} : ∀ {n : Nat}, (∀ i, i < n → f i = f' i) → sumN f n = sumN f' n
  | 0, _ => rfl
  | n + 1, h => by unfold sumN; rw [sumN_congr fun i hi => h i (by omega), h n (by omega)]
theorem sumN_upd {f : Nat → Int} {k : Nat} {x : Int} : ∀ {n : Nat}, k < n → sumN (fun j => if j = k then f j + x else f j) n = sumN f n + x
  | 0, h => by omega
  | n + 1, h => by
    unfold sumN
    by_cases e : k = n
    · subst e
      rw [if_pos rfl, sumN_congr (f' := f) fun i hi => if_neg (by omega)]
      omega
    · rw [if_neg (by omega), sumN_upd (by omega)]
      omega
theorem sum_shares {P : Nat → Pm} : ∀ (m : Nat), (∀ i, i < m → badOwner (P i) = false) → sumN (shTo P m) 8 = sumN (fun i => (P i).rat) m
  | 0, _ => by simp [sumN, shTo]
  | m + 1, h => by
    have ih := sum_shares m fun i hi => h i (by omega)
    have hb := h m (by omega)
    unfold badOwner at hb
    have hk : (P m).own.toNat < 8 := by simp at hb; omega
    have e : shTo P (m + 1) = fun j => if j = (P m).own.toNat then shTo P m j + (P m).rat else shTo P m j := by funext j; rfl
    rw [e, sumN_upd hk, ih]
    rfl
theorem sumN_bd {f : Nat → Int} {b : Int} : ∀ {n : Nat}, (∀ i, i < n → 0 ≤ f i ∧ f i ≤ b) → 0 ≤ sumN f n ∧ sumN f n ≤ b * n
  | 0, _ => by simp [sumN]
  | n + 1, h => by
    have ih := sumN_bd (n := n) (b := b) fun i hi => h i (by omega)
    have h1 := h n (by omega)
    unfold sumN
    rw [show b * ((n + 1 : Nat) : Int) = b * n + b by rw [Int.natCast_succ, Int.mul_add, Int.mul_one]]
    omega
theorem shares_of {m : Nat} {Q : Nat → Pm} (hm : m ≤ 3) (h : ∀ i, i < m → badRate (Q i) = false ∧ badOwner (Q i) = false) : sharesOf m Q = .tuple #[.agg (i64s 8 (shTo Q m)), .int .i64 0] := by
  unfold sharesOf ratesAre
  rw [(anyTo_false (q := badRate) (P := Q)).2 fun i hi => (h i hi).1, (anyTo_false (q := badOwner) (P := Q)).2 fun i hi => (h i hi).2]
  rw [decide_eq_true (show m ≤ 6 by omega)]
  rfl
/-- Drawn permits have a text. -/
theorem plainPt_of {g : Gr} {m : Nat} {Q : Nat → Pm} (hm : m ≤ 3) (hQ : ∀ i, i < m → badPG g (Q i) = false) : plainPt m Q = true := by
  unfold plainPt
  rw [decide_eq_true (show m ≤ 6 by omega), Bool.true_and, Bool.not_eq_true', anyTo_false]
  intro i hi
  have h := hQ i hi
  unfold badPG isCI at h
  unfold badAny badCell
  revert h
  cases badOwner (Q i) <;> cases badRate (Q i) <;> cases decide (0 ≤ (Q i).cel) <;> cases decide ((Q i).cel ≤ 63) <;> simp
end Go.Proofs.YtdnnjahdcabdmaaGreatDoor
/- Two lists of permits compared by the reference's A2SamePermits; a cell of a ground drawn by A2Cell. -/
namespace Go.Proofs.YtdnnjahdcabdmaaGreatDoor
open Go.ChangeShapes Go.WideShapes Go.ChangeAt Go.RowKit
set_option linter.unusedVariables false
set_option linter.unusedSimpArgs false
attribute [local irreducible] Calls

theorem wf_i8 {n : Int} (h : -128 ≤ n ∧ n ≤ 127) : (Lit.int .i8 n).wf = true := by
  have h1 : IntKind.i8.min = -128 := by decide
  have h2 : IntKind.i8.max = 127 := by decide
  show (decide (IntKind.i8.min ≤ n) && decide (n ≤ IntKind.i8.max)) = true
  rw [h1, h2]; simp; omega
theorem wf_i16 {n : Int} (h : -32768 ≤ n ∧ n ≤ 32767) : (Lit.int .i16 n).wf = true := by
  have h1 : IntKind.i16.min = -32768 := by decide
  have h2 : IntKind.i16.max = 32767 := by decide
  show (decide (IntKind.i16.min ≤ n) && decide (n ≤ IntKind.i16.max)) = true
  rw [h1, h2]; simp; omega
theorem lits_permit (p : Pm) (hp : p.ok) : Tryz.prog.keyLits 3 59 [.int .i8 p.own, .int .i8 p.cel, .int .i16 p.rat] = some [.int .i8 p.own, .int .i8 p.cel, .int .i16 p.rat] := by
  have h1 := wf_i8 hp.1
  have h2 := wf_i8 hp.2.1
  have h3 := wf_i16 hp.2.2
  have c1 : Tryz.prog.cellsOf 59 = 3 := by kernel_rfl
  have c2 : Tryz.prog.cellsOf 24 = 1 := by kernel_rfl
  have c3 : Tryz.prog.cellsOf 57 = 1 := by kernel_rfl
  have k1 : Tryz.prog.keyLits 2 24 [.int .i8 p.own] = some [.int .i8 p.own] := by
    unfold Program.keyLits; rw [Tryz.underlying24]; simp [h1]
  have k2 : Tryz.prog.keyLits 2 24 [.int .i8 p.cel] = some [.int .i8 p.cel] := by
    unfold Program.keyLits; rw [Tryz.underlying24]; simp [h2]
  have k3 : Tryz.prog.keyLits 2 57 [.int .i16 p.rat] = some [.int .i16 p.rat] := by
    unfold Program.keyLits; rw [Tryz.underlying57]; simp [h3]
  unfold Program.keyLits
  rw [Tryz.underlying59]
  simp [c1, c2, c3, k1, k2, k3, List.mapM_cons]
theorem formed_permit (p : Pm) : (Value.agg #[.int .i8 p.own, .int .i8 p.cel, .int .i16 p.rat]).formed Tryz.prog 59 = true := by kernel_rfl
theorem guard_permit (x y : Operand) (a b : Array Value) (w : World) : (eqGuard .neq 59 x y (.agg a) (.agg b)).run Tryz.prog w = .ok () w := run_eqGuard_agg _ _ _ _ _ _ _ (by kernel_rfl)
theorem neq_permit (p : Pm) (hp : p.ok) (w : World) : (binOp .neq 59 (.agg #[.int .i8 p.own, .int .i8 p.cel, .int .i16 p.rat]) (.agg #[.int .i8 p.own, .int .i8 p.cel, .int .i16 p.rat])).run Tryz.prog w = .ok (.bool false) w := by
  obtain ⟨r, h1, h2⟩ := run_equalIn_deep (P := Tryz.prog) 9997 3 59 (by kernel_rfl) w 3 3 _ _ _ _ (formed_permit p) (formed_permit p) (lits_permit p hp) (lits_permit p hp)
  have hr : r = true := h2.2 rfl
  subst hr
  simp only [binOp]
  simp only [Op.equal, Op.maxDepth, Sem.run_bind, h1]
  rfl
set_option maxRecDepth 100000 in
set_option maxHeartbeats 400000 in
theorem a2SamePermits_self (n : Nat) (P : Nat → Pm) (v u : Value) (w : World) (hP : ∀ i, i < n → (P i).ok) (hv : PSl w v n P) (hu : PSl w u n P) :
    Calls Tryz.prog 16 #[v, u] w fun e w' => e = .returned (.bool true) ∧ Below w.heap.size w w' := by
  obtain ⟨a, c, rfl, h1, h2, hcell⟩ := hv
  obtain ⟨a', c', rfl, h1', h2', hcell'⟩ := hu
  unfold maxLen at h2 h2'
  go_enter Tryz.func16, Tryz.ntmps16
  go_wp2_with fail
  go_loopw [5] (fun i wr => ∃ k : Nat, k ≤ n ∧ i = .int .i64 k ∧ Below w.heap.size w wr) (fun i _ => n - (intOf i).toNat)
  case atStart => exact ⟨0, by omega, rfl, Below.refl _ _⟩
  case round =>
    obtain ⟨k, hk, rfl, hbel⟩ := hrel
    have bk : (0 : Int) ≤ k := by omega
    by_cases hlt : k < n
    · have bl : (k : Int) < n := by omega
      obtain ⟨b, o, rfl, hb, hcell⟩ := hcell.resolve_left (by omega)
      obtain ⟨b', o', rfl, hb', hcell'⟩ := hcell'.resolve_left (by omega)
      have e0 : wr.cell? ⟨b, o + k * 3, none⟩ = some (.int .i8 (P k).own) := (hbel.cell (p := ⟨b, _, none⟩) hb).trans ((hcell k 0 hlt (by omega)).trans (P k).get0)
      have e1 : wr.cell? ⟨b, o + k * 3 + 1, none⟩ = some (.int .i8 (P k).cel) := (hbel.cell (p := ⟨b, _, none⟩) hb).trans ((hcell k 1 hlt (by omega)).trans (P k).get1)
      have e2 : wr.cell? ⟨b, o + k * 3 + 2, none⟩ = some (.int .i16 (P k).rat) := (hbel.cell (p := ⟨b, _, none⟩) hb).trans ((hcell k 2 hlt (by omega)).trans (P k).get2)
      have e0' : wr.cell? ⟨b', o' + k * 3, none⟩ = some (.int .i8 (P k).own) := (hbel.cell (p := ⟨b', _, none⟩) hb').trans ((hcell' k 0 hlt (by omega)).trans (P k).get0)
      have e1' : wr.cell? ⟨b', o' + k * 3 + 1, none⟩ = some (.int .i8 (P k).cel) := (hbel.cell (p := ⟨b', _, none⟩) hb').trans ((hcell' k 1 hlt (by omega)).trans (P k).get1)
      have e2' : wr.cell? ⟨b', o' + k * 3 + 2, none⟩ = some (.int .i16 (P k).rat) := (hbel.cell (p := ⟨b', _, none⟩) hb').trans ((hcell' k 2 hlt (by omega)).trans (P k).get2)
      clear hcell hcell'
      go_upto_region 6 with fail
      have r1 : ∀ w', Below wr.heap.size wr w' → w'.rangeAt b (o + k * 3) [.int .i8 (P k).own, .int .i8 (P k).cel, .int .i16 (P k).rat] := fun w' hw' j u hu => by
        rw [hw'.cell (p := ⟨b, _, none⟩) (by have := hbel.size; show b < _; omega)]
        match j, hu with
        | 0, hu => rw [← hu]; exact e0
        | 1, hu => rw [← hu]; exact e1
        | 2, hu => rw [← hu]; exact e2
      have r2 : ∀ w', Below wr.heap.size wr w' → w'.rangeAt b' (o' + k * 3) [.int .i8 (P k).own, .int .i8 (P k).cel, .int .i16 (P k).rat] := fun w' hw' j u hu => by
        rw [hw'.cell (p := ⟨b', _, none⟩) (by have := hbel.size; show b' < _; omega)]
        match j, hu with
        | 0, hu => rw [← hu]; exact e0'
        | 1, hu => rw [← hu]; exact e1'
        | 2, hu => rw [← hu]; exact e2'
      refine wp_region_below (by kernel_rfl) (by kernel_rfl) ?_
      refine quiet_move rfl rfl rfl rfl ?_
      refine quiet_move rfl rfl rfl rfl ?_
      refine quiet_index rfl rfl rfl rfl rfl Tryz.underlying35 size99 hlt ?_
      refine quiet_part rfl rfl rfl rfl row99 rfl r1 ?_
      refine quiet_move rfl rfl rfl rfl ?_
      refine quiet_move rfl rfl rfl rfl ?_
      refine quiet_index rfl rfl rfl rfl rfl Tryz.underlying35 size99 hlt ?_
      refine quiet_part rfl rfl rfl rfl row99 rfl r2 ?_
      refine quiet_run (v := .bool false) rfl rfl (fun w' => ?_) ?_
      · have h := neq_permit (P k) (hP k hlt) w'
        simp only [execOp, Sem.run_bind]
        rw [eval_slot (n := 20) (v := .agg #[.int .i8 (P k).own, .int .i8 (P k).cel, .int .i16 (P k).rat]) rfl, eval_slot (n := 24) (v := .agg #[.int .i8 (P k).own, .int .i8 (P k).cel, .int .i16 (P k).rat]) rfl, guard_permit, Result.andThen_ok, h]
        rfl
      refine wpQuiet_nil ?_
      intro w1 hw1
      simp only [List.set_cons_succ, List.set_cons_zero]
      go_wp2_with fail
      go_roundw
      case rel => exact ⟨k + 1, by omega, by go_num, hbel.trans (hw1.mono hbel.size)⟩
      case measure => simp [intOf]; omega
    · obtain rfl : k = n := by omega
      go_wp2_with fail
      go_ret
      exact ⟨rfl, hbel⟩
set_option maxRecDepth 100000 in
set_option maxHeartbeats 400000 in
theorem a2Cell_any (v : Value) (n : Nat) (g : Gr) (hW : 1 ≤ g.wide ∧ g.wide ≤ 8) (hH : 1 ≤ g.high ∧ g.high ≤ 8) (w : World) (hv : Bytes w w.heap.size v n) :
    Calls Tryz.prog 21 #[v, .agg g.cells] w fun e w' => ∃ c : Nat, c < 64 ∧ isC g c = true ∧ e = .returned (.int .i64 c) ∧ Below w.heap.size w w' := by
  go_enter Tryz.func21, Tryz.ntmps21
  go_upto_region 1 with (refine wpList_box_as rfl rfl rfl ?_)
  have hO := Blk.new w g.cells 30
  have hbel := below1 w (.cells g.cells 30)
  have hv1 : Bytes (w.alloc (.cells g.cells 30)) (w.alloc (.cells g.cells 30)).heap.size v n := by
    obtain ⟨a, c, h1, h2, h3⟩ := hv.move (w' := w.alloc (.cells g.cells 30)) (fun r hr => heap_alloc_old w _ hr)
    refine ⟨a, c, h1, h2, fun j hj => ?_⟩
    obtain ⟨r, o, x, g1, g2, g3⟩ := h3 j hj
    exact ⟨r, o, x, g1, by simp; omega, g3⟩
  generalize w.alloc (.cells g.cells 30) = W at *
  have lO := hO.lt
  have hs := src_new hv1
  have hfr := l00From_any v n W hv1
  have hbs : Below w.heap.size w (W.alloc (.cells #[v, .int .i64 0, .int .u64 0] 149)) := hbel.alloc (by omega) _
  have hO := hO.alloc (.cells #[v, .int .i64 0, .int .u64 0] 149)
  generalize W.alloc (.cells #[v, .int .i64 0, .int .u64 0] 149) = W1 at *
  generalize W.heap.size = b at *
  have lb := hs.lt
  clear hv hv1 hbel
  have hp := fun (n : Int) (j : Nat) (h1 : 1 ≤ n) (h2 : n ≤ 1099511627776) (hj : j < 900000) (w' : World) (hs : Src w' b j) => pick_any b j n (by omega) h1 h2 w' hs
  go_upto_region 2 with (go_at_call 43; refine hfr.mono ?_; rintro e w1 ⟨rfl, hw⟩; subst hw)
  have c0 := hO.gat.get0
  have u1 := IntWalk.i64_in g.wide (by omega)
  have u2 := IntWalk.i64_in g.high (by omega)
  have hpw := hp g.wide 0 (by omega) (by omega) (by omega) w1 hs
  go_upto_region 3 with (go_at_call 44; refine hpw.mono ?_; rintro e w3 ⟨x, ⟨x0, x1⟩, rfl, hs3, hg3⟩)
  have hO := hO.grown hg3 (fun e => by injection e; omega)
  have hbs := hbs.grown hg3 (by have := hbs.size; omega) (fun k e => by injection e; omega)
  have c1 := hO.gat.get1
  have hph := hp g.high 2 (by omega) (by omega) (by omega) w3 hs3
  clear hpw c0 hs hg3
  go_wp2_with (go_at_call 44; refine hph.mono ?_; rintro e w4 ⟨y, ⟨y0, y1⟩, rfl, hs4, hg4⟩)
  have hbs := hbs.grown hg4 (by have := hbs.size; omega) (fun k e => by injection e; omega)
  go_ret
  obtain ⟨c, hc⟩ : ∃ c : Nat, (c : Int) = x + 8 * y := ⟨(x + 8 * y).toNat, by omega⟩
  refine ⟨c, by omega, ?_, by rw [hc]; rfl, hbs⟩
  unfold isC
  rw [hc]
  simp
  omega
end Go.Proofs.YtdnnjahdcabdmaaGreatDoor
