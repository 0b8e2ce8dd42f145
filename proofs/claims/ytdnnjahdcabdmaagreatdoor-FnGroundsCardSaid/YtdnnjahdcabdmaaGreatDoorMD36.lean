import Derived.Test.YtdnnjahdcabdmaaGreatDoorMD35
import Derived.Test.YtdnnjahdcabdmaaGreatDoorMD22
import Derived.Test.YtdnnjahdcabdmaaGreatDoorMD25
import Derived.Test.YtdnnjahdcabdmaaGreatDoorMD26
import Derived.Test.YtdnnjahdcabdmaaGreatDoorMD27
import Derived.Test.YtdnnjahdcabdmaaGreatDoorMD32
import Derived.Test.YtdnnjahdcabdmaaGreatDoorMD15
import Derived.Lib.Strings
import Derived.Lib.Walk
import Derived.Lib.ConvBytes
import Derived.Lib.Hide
import Derived.Laws.Strings3
import Derived.Laws.Closers25
import Derived.Laws.Closers25b
import Derived.WalkKit
import Derived.BigCall
import Derived.BigGuard
/- Permits drawn from bytes (A2Permits). -/
namespace Go.Proofs.YtdnnjahdcabdmaaGreatDoor
open Go.ChangeShapes Go.WideShapes Go.ChangeAt Go.RowKit
set_option linter.unusedVariables false
set_option linter.unusedSimpArgs false
attribute [local irreducible] Calls
/-- What A2Permits gives: few permits that the ground bears. -/
def GaveL (w : World) (g : Gr) (e : Ending) (w' : World) : Prop := ∃ (x : Value) (r m : Nat) (Q : Nat → Pm), m ≤ 3 ∧ e = .returned x ∧ w.heap.size ≤ r ∧ (∀ i, i < m → (Q i).ok ∧ badPG g (Q i) = false) ∧ Own w' r 59 3 x m (pls m Q) ∧ Below w.heap.size w w'
set_option maxRecDepth 100000 in
set_option maxHeartbeats 1000000 in
theorem a2Permits_any (v : Value) (n : Nat) (g : Gr) (u : Value) (hW : 1 ≤ g.wide ∧ g.wide ≤ 4) (hH : 1 ≤ g.high ∧ g.high ≤ 4) (w : World) (hv : Bytes w w.heap.size v n) :
    Calls Tryz.prog 7 #[v, .agg (ofc g u)] w (GaveL w g) := by
  go_enter Tryz.func7, Tryz.ntmps7
  go_upto_region 1 with (refine wpList_box_as rfl rfl rfl ?_)
  have hO := Blk.new w (ofc g u) 33
  have hbel := below1 w (.cells (ofc g u) 33)
  have hv1 : Bytes (w.alloc (.cells (ofc g u) 33)) (w.alloc (.cells (ofc g u) 33)).heap.size v n := by
    obtain ⟨a, c, h1, h2, h3⟩ := hv.move (w' := w.alloc (.cells (ofc g u) 33)) (fun r hr => heap_alloc_old w _ hr)
    refine ⟨a, c, h1, h2, fun j hj => ?_⟩
    obtain ⟨r, o, x, g1, g2, g3⟩ := h3 j hj
    exact ⟨r, o, x, g1, by simp; omega, g3⟩
  generalize w.alloc (.cells (ofc g u) 33) = W at *
  have lO := hO.lt
  have hs := src_new hv1
  have hfr := l00From_any v n W hv1
  have hbs : Below w.heap.size w (W.alloc (.cells #[v, .int .i64 0, .int .u64 0] 149)) := hbel.alloc (by omega) _
  have hO := hO.alloc (.cells #[v, .int .i64 0, .int .u64 0] 149)
  generalize W.alloc (.cells #[v, .int .i64 0, .int .u64 0] 149) = W1 at *
  generalize W.heap.size = b at *
  have lb := hs.lt
  clear hv hv1 hbel
  go_upto_region 3 with (go_at_call 43; refine hfr.mono ?_; rintro e w1 ⟨rfl, hw⟩; subst hw)
  have hs2 : Src (w1.alloc (.cells #[] 59)) b 0 := hs.move fun r hr => heap_alloc_old w1 _ (by omega)
  have hG : Own (w1.alloc (.cells #[] 59)) w1.heap.size 59 3 (.slice (some ⟨w1.heap.size, 0, none⟩) 0 0) 0 (pls 0 (fun _ => ⟨0, 0, 0⟩)) := own_blk (Blk.new _ _ _) rfl (by decide) (by rw [pls_zero])
  have hbs := hbs.alloc hbs.size (.cells #[] 59)
  have hO := hO.alloc (.cells #[] 59)
  generalize w1.alloc (.cells #[] 59) = W2 at *
  generalize w1.heap.size = q at *
  have lq : b < q := lb
  have hown : Below w.heap.size w W2 := hbs
  have hp := fun (n : Int) (j : Nat) (h1 : 1 ≤ n) (h2 : n ≤ 1099511627776) (hj : j < 900000) (w' : World) (hs : Src w' b j) => pick_any b j n (by omega) h1 h2 w' hs
  go_upto_region 4 with (go_at_call 44; refine (hp 4 0 (by decide) (by decide) (by omega) _ hs2).mono ?_; rintro e w3 ⟨x, ⟨x0, x1⟩, rfl, hs3, hg3⟩)
  have hG := hG.grown hg3 (fun e => by injection e; omega)
  have hO := hO.grown hg3 (fun e => by injection e; omega)
  have hbs := hbs.grown hg3 (by have := hbs.size; omega) (fun k e => by injection e; omega)
  obtain ⟨X, hX⟩ : ∃ X : Nat, (X : Int) = x := ⟨x.toNat, by omega⟩
  subst hX
  have hX3 : X ≤ 3 := by omega
  clear hs hs2 hg3 x0 x1 hfr
  go_loopw [6, 7] (fun y i wr => ∃ (j m gb : Nat) (Q : Nat → Pm), j + m ≤ 3 ∧ i = .int .i64 j ∧ Own wr gb 59 3 y m (pls m Q) ∧ (∀ i, i < m → (Q i).ok ∧ badPG g (Q i) = false) ∧ Src wr b (2 + 8 * m) ∧ Blk wr w.heap.size (ofc g u) 33 ∧ q ≤ gb ∧ Below w.heap.size w wr) (fun _ i _ => (intOf i).toNat)
  case atStart => exact ⟨X, 0, q, _, by omega, rfl, hG, fun i hi => by omega, hs3, hO, Nat.le_refl _, hbs⟩
  case round =>
    clear hG hs3 hO hbs hX3
    obtain ⟨j, m, gb, Q, hjm, rfl, hG, hQ, hsr, hO, hgb, hbs⟩ := hrel
    by_cases hlt : 0 < j
    · have bj : (0 : Int) < j := by omega
      have hdp := l07PermitDrawn_any b w.heap.size (2 + 8 * m) g u hW hH (by omega) wr hsr hO (by omega)
      have HQ := Lib.hid hQ
      clear hQ
      go_wp2_with (first | (go_at_call 45; refine hdp.mono ?_; rintro e w4 ⟨p, hpo, hpb, rfl, hs4, hg4⟩; rw [Pm.cells_eq]; have hG4 := hG.grown hg4 (fun e => by injection e; omega)) | (at_builtin; refine wpList_app elPm rfl rfl rfl rfl (by decide) (hG4.alloc _) (Blk.new _ _ _) rfl ?_ ?_ ?_ ?_; (· intro u hu; simp at hu; rcases hu with rfl | rfl | rfl <;> rfl); (· unfold maxLen; omega); (· omega); intro v1 w7 g2 hown1 hgr1 hg1))
      have e4 := hg4.size
      have ls := hsr.lt
      have lg := hG4.lt
      have eb := hbs.size
      go_roundw
      case rel =>
        refine ⟨j - 1, m + 1, g2, fun i => if i = m then p else Q i, by omega, by rw [show ((j : Int) - 1) = ((j - 1 : Nat) : Int) by omega], ?_, ?_, ?_, ?_, ?_, ?_⟩
        · rw [pls_succ, if_pos rfl, pls_congr (P' := Q) (fun i hi => if_neg (by omega)), Pm.cells_eq]
          exact hown1
        · intro i hi
          by_cases him : i = m
          · simp only [him, if_true]; exact ⟨hpo, hpb⟩
          · simp only [him, if_false]; exact HQ.out i (by omega)
        · exact hs4.move fun r hr => (hgr1.block r (by simp; omega) (fun e => by injection e; omega)).trans (heap_alloc_old w4 _ (by omega))
        · exact ((hO.grown hg4 (fun e => by injection e; omega)).alloc _).grown hgr1 (fun e => by injection e; omega)
        · rcases hg1 with h | h
          · omega
          · rw [h]; simp; omega
        · exact ((hbs.grown hg4 eb (fun k e => by injection e; omega)).alloc (by omega) _).grown hgr1 (by simp; omega) (fun k e => by injection e; omega)
      case measure => simp [intOf]; omega
    · obtain rfl : j = 0 := by omega
      go_wp2_with fail
      go_ret
      exact ⟨_, gb, m, Q, by omega, rfl, by omega, hQ, hG, hbs⟩
end Go.Proofs.YtdnnjahdcabdmaaGreatDoor
/- What is drawn of an office: its watches (l07Drawn). -/
namespace Go.Proofs.YtdnnjahdcabdmaaGreatDoor
open Go.ChangeShapes Go.WideShapes Go.ChangeAt Go.RowKit
set_option linter.unusedVariables false
set_option linter.unusedSimpArgs false
attribute [local irreducible] Calls
/-- A watch's limit: quarters, from minus six on. -/
def limOf (x : Nat) : Nat := (floatBits .quo .f32 (floatOfInt .f32 ((x : Int) - 24)) 1082130432).getD 0
theorem lim_all : ∀ x : Nat, x < 65 → (floatBits .quo .f32 (floatOfInt .f32 ((x : Int) - 24)) 1082130432).isSome = true ∧ plain (limOf x) = true := by
  have h : (List.range 65).all (fun (x : Nat) => (floatBits .quo .f32 (floatOfInt .f32 ((x : Int) - 24)) 1082130432).isSome && plain (limOf x)) = true := by kernel_rfl
  intro x hx
  have := List.all_eq_true.1 h x (List.mem_range.2 hx)
  simpa using this
theorem lim_is {x : Nat} (h : x < 65) : floatBits .quo .f32 (floatOfInt .f32 ((x : Int) - 24)) 1082130432 = some (limOf x) := by
  obtain ⟨r, hr⟩ := Option.isSome_iff_exists.1 (lim_all x h).1
  unfold limOf; rw [hr]; rfl
/-- What a drawn watch is. -/
def goodW (g : Gr) (p : Wt) : Prop := p.ok ∧ badW g p = false
theorem goodW_of {g : Gr} {y z : Int} {x : Nat} (hW : g.wide ≤ 4) (hH : g.high ≤ 4) (hy : 0 ≤ y ∧ y < g.wide) (hz : 0 ≤ z ∧ z < g.high) (hx : x < 65) : goodW g ⟨y + 8 * z, limOf x⟩ := by
  obtain ⟨m, hm⟩ : ∃ m : Nat, (m : Int) = y + 8 * z := ⟨(y + 8 * z).toNat, by omega⟩
  refine ⟨⟨by show -128 ≤ y + 8 * z; omega, by show y + 8 * z ≤ 127; omega⟩, ?_⟩
  unfold badW isCI isC
  rw [(lim_all x hx).2, ← hm]
  simp
  omega
/-- An office with such watches is in order. -/
theorem validO_of {g : Gr} {n : Nat} {P : Nat → Wt} (hg : validG g = true) (hn : n ≤ 3) (hP : ∀ i, i < n → goodW g (P i)) : validO g n P = true := by
  unfold validO
  rw [hg, Bool.true_and, Bool.and_eq_true]
  refine ⟨by simp; omega, ?_⟩
  rw [Bool.not_eq_true', anyTo_false]
  exact fun i hi => (hP i hi).2
theorem validP_of {g : Gr} {n m : Nat} {P : Nat → Wt} {Q : Nat → Pm} (h : validO g n P = true) (hm : m ≤ 3) (hQ : ∀ i, i < m → badPG g (Q i) = false) : validP g n P m Q = true := by
  unfold validP
  rw [h, Bool.true_and, Bool.and_eq_true]
  refine ⟨by simp; omega, ?_⟩
  rw [Bool.not_eq_true', anyTo_false]
  exact hQ
end Go.Proofs.YtdnnjahdcabdmaaGreatDoor
/- Plain laws of offices, for FnOffices: codes, watches, an idle permit, shares. No statement is proved here. -/
namespace Go.Proofs.YtdnnjahdcabdmaaGreatDoor
set_option linter.unusedVariables false
set_option linter.unusedSimpArgs false

theorem settT_code {within : Nat} : ∀ (l : Nat) (n : Int) (G : Gr), (settT within l n G).2.2 = 0 ∨ (settT within l n G).2.2 = 4 ∨ (settT within l n G).2.2 = 7
  | 0, _, _ => .inr (.inr rfl)
  | l + 1, n, G => by
    unfold settT
    split
    · split
      · exact .inl rfl
      · exact settT_code l _ _
    · exact .inr (.inl rfl)
theorem withT_code {Q : Nat → Pm} : ∀ (l i : Nat) (G : Gr), (withT Q l i G).2 = 0 ∨ (withT Q l i G).2 = 4 ∨ (withT Q l i G).2 = 7
  | 0, _, G => settT_code 1000 0 G
  | l + 1, i, G => by
    unfold withT
    split
    · exact withT_code l _ _
    · exact .inr (.inl rfl)
/-- A float that is finite where it is nothing. -/
theorem fin_of_zero {x : Nat} (h : feq x 0 = true) : x % 2147483648 < 2139095040 := by
  unfold feq at h
  have h : (Ieee.single.order x 0 == some .eq) = true := h
  unfold Ieee.Format.order at h
  cases hr : Ieee.single.read x with
  | nan s f => rw [hr] at h; cases h
  | infinity s =>
    rw [hr, show Ieee.single.read 0 = .number false 0 (-149) by decide] at h
    cases s <;> cases h
  | number s m e => exact fin_of_num hr
theorem hea_fin {G : Gr} (h : validG G = true) (k : Nat) (hk : k < 64) : G.hea k % 2147483648 < 2139095040 := by
  have h5 := (validG_parts h).2.2.2.2.1
  have hat := fieldIs_at h5 k hk
  cases hc : isC G k
  · exact fin_of_zero (hat.2 hc)
  · exact plain_fin (hat.1 hc)
theorem gai_fin {G : Gr} (h : validG G = true) (k : Nat) (hk : k < 64) : G.gai k % 2147483648 < 2139095040 := by
  have h5 := (validG_parts h).2.2.2.1
  have hat := fieldIs_at h5 k hk
  cases hc : isC G k
  · exact fin_of_zero (hat.2 hc)
  · exact plain_fin (hat.1 hc)
/-- All words of single precision are less than two to the thirty-second. -/
theorem write_lt (d : Ieee.Datum) : Ieee.single.write d < 4294967296 := by
  obtain ⟨hb, hi, hl, hs, hf⟩ := single_facts
  have hw : ∀ (s : Bool) (r : Nat), r ≤ 2147483647 → Ieee.single.word s r < 4294967296 := fun s r hr => by
    unfold Ieee.Format.word
    rw [hs]
    split <;> omega
  cases d with
  | number s m e =>
    show Ieee.single.nearest s m e < _
    unfold Ieee.Format.nearest
    split
    · exact hw _ _ (by omega)
    · exact hw _ _ (by rw [hi]; exact Nat.le_trans (Nat.min_le_right _ _) (by omega))
  | infinity s => exact hw _ _ (by rw [hi]; omega)
  | nan s f =>
    show Ieee.single.word s (Ieee.single.infRung + f % Ieee.single.binade) < _
    have := Nat.mod_lt f (show 0 < Ieee.single.binade by rw [hb]; omega)
    exact hw _ _ (by rw [hi]; rw [hb] at this ⊢; omega)
theorem cn_lt32 {x : Nat} (h : x < 4294967296) : cn x < 4294967296 := by
  unfold cn cnk
  split
  · decide
  · exact h
theorem sub_lt (x y : Nat) : fop .sub x y < 4294967296 := by
  unfold fop
  refine cn_lt32 ?_
  have e : floatBits .sub .f32 x y = ((Ieee.single.read x).sum (Ieee.single.read y).opposite).map Ieee.single.write := rfl
  rw [e]
  cases (Ieee.single.read x).sum (Ieee.single.read y).opposite with
  | none => decide
  | some d => exact write_lt d
theorem rate_zero : rate4 0 = 0 := by unfold rate4; decide +kernel
theorem less_idle {G : Gr} {c : Nat} (hv : validG G = true) (hl : G.gai c < 4294967296) (hc : c < 64) (o : Int) : lessG G ⟨o, c, 0⟩ = G := by
  unfold lessG lessX
  simp only [Int.toNat_natCast, rate_zero]
  rw [sub_zeroF hl (gai_fin hv c hc)]
  have : upd G.gai c (G.gai c) = G.gai := by
    funext i; unfold upd; split
    · rename_i h; rw [h]
    · rfl
  rw [this]
/-- A permit without a rate, last of a list, changes nothing. -/
theorem withT_idle {Q Q' : Nat → Pm} {c : Nat} (hc : c < 64) (o : Int) : ∀ (l i : Nat) (G : Gr), validG G = true → (∀ k, k < 64 → G.gai k < 4294967296) → (∀ j, i ≤ j → j < i + l → Q' j = Q j) → Q' (i + l) = ⟨o, c, 0⟩ → withT Q' (l + 1) i G = withT Q l i G
  | 0, i, G, hv, hl, _, hq => by
    unfold withT
    rw [show Q' i = ⟨o, c, 0⟩ from hq, less_idle hv (hl c hc) hc, if_pos hv]
    unfold withT
    rfl
  | l + 1, i, G, hv, hl, h, hq => by
    rw [show withT Q' (l + 1 + 1) i G = if validG (lessG G (Q' i)) then withT Q' (l + 1) (i + 1) (lessG G (Q' i)) else (zeroG, 4) from by conv => lhs; unfold withT, show withT Q (l + 1) i G = if validG (lessG G (Q i)) then withT Q l (i + 1) (lessG G (Q i)) else (zeroG, 4) from by conv => lhs; unfold withT, h i (by omega) (by omega)]
    cases hv' : validG (lessG G (Q i))
    · rfl
    · simp only [if_true]
      refine withT_idle hc o l (i + 1) _ hv' (fun k hk => ?_) (fun j h1 h2 => h j (by omega) (by omega)) (by rw [← hq]; congr 1; omega)
      unfold lessG upd
      simp only
      split
      · exact sub_lt _ _
      · exact hl k hk
/-- All that the law asks of the functions of permits. -/
structure OfFacts (g : Gr) (n : Nat) (P : Nat → Wt) (m : Nat) (Q : Nat → Pm) : Prop where
  code : (gwT g n P m Q).2 = 0 ∨ (gwT g n P m Q).2 = 4 ∨ (gwT g n P m Q).2 = 7
  lvn : (gwT g n P m Q).2 = 0 → lvN g n P m Q = n
  ak : akT g n P m Q = (decide ((gwT g n P m Q).2 = 0) && decide ((fbT g n P m Q).2.2 = 6), 0)
  fbc : (gwT g n P m Q).2 = 0 → (fbT g n P m Q).2.2 = 0 ∨ (fbT g n P m Q).2.2 = 6
  low : (gwT g n P m Q).2 = 0 → ∀ i, i < n → lowW (gwT g n P m Q).1 (P i) = true → (fbT g n P m Q).2.2 = 0 ∧ (fbT g n P m Q).1 ≤ i
  pos : (gwT g n P m Q).2 = 0 → (fbT g n P m Q).2.2 = 0 → 0 ≤ (fbT g n P m Q).1 ∧ (fbT g n P m Q).1 < n ∧ fgt (fbT g n P m Q).2.1 0 = true
  idle : ∀ c : Nat, c < 64 → isC g c = true → ∀ Q' : Nat → Pm, (∀ i, i < m → Q' i = Q i) → Q' m = ⟨0, c, 0⟩ → gwT g n P (m + 1) Q' = gwT g n P m Q
theorem lim_fin {g : Gr} {p : Wt} (h : goodW g p) : p.lim % 2147483648 < 2139095040 := by
  have h2 := h.2
  unfold badW at h2
  refine plain_fin ?_
  cases hp : plain p.lim
  · rw [hp] at h2; simp at h2
  · rfl
theorem of_facts {g : Gr} {n m : Nat} {P : Nat → Wt} {Q : Nat → Pm} (hg : IsDrawn g) (hf : ∀ k, k < 64 → g.gai k < 4294967296) (hn : n ≤ 3) (hP : ∀ i, i < n → goodW g (P i)) (hm : m ≤ 3) (hQ : ∀ i, i < m → badPG g (Q i) = false) : OfFacts g n P m Q := by
  have hV := validO_of hg.valid hn hP
  have hVP := validP_of hV hm hQ
  have hgw : gwT g n P m Q = withT Q m 0 g := by unfold gwT; rw [hVP]; rfl
  have hak : akT g n P m Q = (keptB g n P m Q, 0) := by unfold akT; rw [hVP]; rfl
  have hfi := firstI_lt (lowW (gwT g n P m Q).1) P n
  have hto := firstI_to (lowW (gwT g n P m Q).1) P n
  have hvalid : (gwT g n P m Q).2 = 0 → validG (gwT g n P m Q).1 = true := fun h => by rw [hgw] at h ⊢; exact withT_valid _ _ _ h
  refine ⟨by rw [hgw]; exact withT_code _ _ _, fun h => by unfold lvN; rw [if_pos h], ?_, ?_, ?_, ?_, ?_⟩
  · rw [hak]
    unfold keptB fbT
    rw [← hgw]
    by_cases h0 : (gwT g n P m Q).2 = 0
    · rw [if_pos h0]
      by_cases h1 : firstI (lowW (gwT g n P m Q).1) P n < 0
      · rw [if_pos h1]; simp [h0, h1]
      · rw [if_neg h1]; simp [h0, h1]
    · rw [if_neg h0]; simp [h0]
  · intro h0
    unfold fbT
    rw [if_pos h0]
    split
    · exact .inr rfl
    · exact .inl rfl
  · intro h0 i hi hl
    unfold fbT
    rw [if_pos h0]
    rcases hto with ⟨h1, h2⟩ | ⟨k, h1, h2, h3, h4⟩
    · rw [h2 i hi] at hl; cases hl
    · rw [h1, if_neg (by omega)]
      refine ⟨rfl, ?_⟩
      show ((k : Int)) ≤ i
      by_cases hik : i < k
      · rw [h4 i hik] at hl; cases hl
      · omega
  · intro h0 h1
    unfold fbT at h1 ⊢
    rw [if_pos h0] at h1 ⊢
    rcases hto with ⟨h2, h3⟩ | ⟨k, h2, h3, h4, h5⟩
    · rw [h2] at h1; simp at h1
    · rw [h2, if_neg (by omega)]
      refine ⟨by show (0 : Int) ≤ k; omega, by show (k : Int) < n; omega, ?_⟩
      show fgt (lackW (gwT g n P m Q).1 (P (k : Int).toNat)) 0 = true
      rw [Int.toNat_natCast]
      unfold lackW
      obtain ⟨c, hc, hc64⟩ := validO_watch hV k h3
      unfold lowW at h4
      rw [hc, Int.toNat_natCast] at h4 ⊢
      exact sub_posF (hea_fin (hvalid h0) c hc64) (lim_fin (hP k h3)) h4
  · intro c hc hcc Q' hq1 hq2
    have hVP' : validP g n P (m + 1) Q' = true := by
      unfold validP
      rw [hV, Bool.true_and, Bool.and_eq_true]
      refine ⟨by simp; omega, ?_⟩
      rw [Bool.not_eq_true', anyTo_false]
      intro i hi
      by_cases him : i < m
      · rw [hq1 i him]; exact hQ i him
      · obtain rfl : i = m := by omega
        rw [hq2]
        unfold badPG badOwner badRate isCI
        simp [hcc]; omega
    rw [hgw]
    unfold gwT
    rw [hVP']
    simp only [if_true]
    exact withT_idle hc 0 m 0 g hg.valid hf (fun j _ h2 => hq1 j (by omega)) (by rw [Nat.zero_add]; exact hq2)
theorem few_lt : ∀ x : Nat, x < 65 → fewOf x < 4294967296 := by decide +kernel
/-- A drawn ground's gains are words. -/
theorem IsDrawn.gai_lt {g : Gr} (h : IsDrawn g) (k : Nat) (hk : k < 64) : g.gai k < 4294967296 := by
  rcases h.gai k hk with h0 | ⟨_, x, hx, h0⟩
  · rw [h0]; decide
  · rw [h0]; exact few_lt x hx
/-! ### Shares. -/
def sumN (f : Nat → Int) : Nat → Int
  | 0 => 0
  | n + 1 => sumN f n + f n
theorem sumN_congr {f f' : Nat → Int} : ∀ {n : Nat}, (∀ i, i < n → f i = f' i) → sumN f n = sumN f' n
  | 0, _ => rfl
  | n + 1, h => by unfold sumN; rw [sumN_congr fun i hi => h i (by omega), h n (by omega)]
theorem sumN_upd {f : Nat → Int} {k : Nat} {x : Int} : ∀ {n : Nat}, k < n → sumN (fun j => if j = k then f j + x else f j) n = sumN f n + x
  | 0, h => by omega
  | n + 1, h => by
    unfold sumN
    by_cases e : k = n
    · subst e
      rw [if_pos rfl, sumN_congr (f' := f) fun i hi => if_neg (by omega)]
      omega
    · rw [if_neg (by omega), sumN_upd (by omega)]
      omega
theorem sum_shares {P : Nat → Pm} : ∀ (m : Nat), (∀ i, i < m → badOwner (P i) = false) → sumN (shTo P m) 8 = sumN (fun i => (P i).rat) m
  | 0, _ => by simp [sumN, shTo]
  | m + 1, h => by
    have ih := sum_shares m fun i hi => h i (by omega)
    have hb := h m (by omega)
    unfold badOwner at hb
    have hk : (P m).own.toNat < 8 := by simp at hb; omega
    have e : shTo P (m + 1) = fun j => if j = (P m).own.toNat then shTo P m j + (P m).rat else shTo P m j := by funext j; rfl
    rw [e, sumN_upd hk, ih]
    rfl
theorem sumN_bd {f : Nat → Int} {b : Int} : ∀ {n : Nat}, (∀ i, i < n → 0 ≤ f i ∧ f i ≤ b) → 0 ≤ sumN f n ∧ sumN f n ≤ b * n
  | 0, _ => by simp [sumN]
  | n + 1, h => by
    have ih := sumN_bd (n := n) (b := b) fun i hi => h i (by omega)
    have h1 := h n (by omega)
    unfold sumN
    rw [show b * ((n + 1 : Nat) : Int) = b * n + b by rw [Int.natCast_succ, Int.mul_add, Int.mul_one]]
    omega
theorem shares_of {m : Nat} {Q : Nat → Pm} (hm : m ≤ 3) (h : ∀ i, i < m → badRate (Q i) = false ∧ badOwner (Q i) = false) : sharesOf m Q = .tuple #[.agg (i64s 8 (shTo Q m)), .int .i64 0] := by
  unfold sharesOf ratesAre
  rw [(anyTo_false (q := badRate) (P := Q)).2 fun i hi => (h i hi).1, (anyTo_false (q := badOwner) (P := Q)).2 fun i hi => (h i hi).2]
  rw [decide_eq_true (show m ≤ 6 by omega)]
  rfl
/-- Drawn permits have a text. -/
theorem plainPt_of {g : Gr} {m : Nat} {Q : Nat → Pm} (hm : m ≤ 3) (hQ : ∀ i, i < m → badPG g (Q i) = false) : plainPt m Q = true := by
  unfold plainPt
  rw [decide_eq_true (show m ≤ 6 by omega), Bool.true_and, Bool.not_eq_true', anyTo_false]
  intro i hi
  have h := hQ i hi
  unfold badPG isCI at h
  unfold badAny badCell
  revert h
  cases badOwner (Q i) <;> cases badRate (Q i) <;> cases decide (0 ≤ (Q i).cel) <;> cases decide ((Q i).cel ≤ 63) <;> simp
end Go.Proofs.YtdnnjahdcabdmaaGreatDoor
/- strconv.ParseUint at base 16 and 32 bits: the walk of the library's text. -/
namespace Go.Proofs.YtdnnjahdcabdmaaGreatDoor
open Go.ChangeShapes Go.WideShapes Go.ChangeAt Go.RowKit
set_option linter.unusedVariables false
set_option linter.unusedSimpArgs false
attribute [local irreducible] Calls

theorem lower_all : ∀ n : Nat, n < 256 → (0 ≤ bits .or .u8 (n : Int) 32 ∧ bits .or .u8 (n : Int) 32 ≤ 255 ∧ ((97 ≤ bits .or .u8 (n : Int) 32 ∧ bits .or .u8 (n : Int) 32 ≤ 102 ∧ ((65 ≤ n ∧ n ≤ 70 ∧ bits .or .u8 (n : Int) 32 = n + 32) ∨ (97 ≤ n ∧ n ≤ 102 ∧ bits .or .u8 (n : Int) 32 = n))) ∨ ((bits .or .u8 (n : Int) 32 < 97 ∨ 102 < bits .or .u8 (n : Int) 32) ∧ ¬ (65 ≤ n ∧ n ≤ 70) ∧ ¬ (97 ≤ n ∧ n ≤ 102)))) := by
  decide +kernel
/-- What a byte that is no decimal digit is, by its small letter. -/
theorem lower_hex (c : UInt8) (h : ¬ (48 ≤ c.toNat ∧ c.toNat ≤ 57)) :
    (0 ≤ bits .or .u8 (c.toNat : Int) 32 ∧ bits .or .u8 (c.toNat : Int) 32 ≤ 255) ∧ ((97 ≤ bits .or .u8 (c.toNat : Int) 32 ∧ bits .or .u8 (c.toNat : Int) 32 ≤ 102 ∧ c.toNat ≠ 95 ∧ ∃ d : Nat, hexE c = some d ∧ bits .or .u8 (c.toNat : Int) 32 - 87 = d ∧ d < 16) ∨ ((bits .or .u8 (c.toNat : Int) 32 < 97 ∨ 102 < bits .or .u8 (c.toNat : Int) 32) ∧ hexE c = none)) := by
  obtain ⟨h0, h1, h2⟩ := lower_all c.toNat c.toNat_lt
  refine ⟨⟨h0, h1⟩, ?_⟩
  unfold hexE hexD
  rcases h2 with ⟨ha, hb, ⟨hc, hd, he⟩ | ⟨hc, hd, he⟩⟩ | ⟨ha, hb, hc⟩
  · left
    refine ⟨ha, hb, by omega, c.toNat - 55, ?_, by omega, by omega⟩
    rw [if_pos ⟨hc, hd⟩]
  · left
    refine ⟨ha, hb, by omega, c.toNat - 87, ?_, by omega, by omega⟩
    rw [if_neg (by omega), if_neg h, if_pos ⟨hc, hd⟩]
  · right
    exact ⟨ha, by rw [if_neg hb, if_neg h, if_neg hc]⟩
theorem hexE_dec (c : UInt8) (h : 48 ≤ c.toNat ∧ c.toNat ≤ 57) : hexE c = some (c.toNat - 48) := by
  unfold hexE hexD
  rw [if_neg (by omega), if_pos h]
theorem hexU_cons (M a : Nat) (c : UInt8) (l : List UInt8) {d : Nat} (h : hexE c = some d) : hexU M a (c :: l) = if M < a * 16 + d then .inr true else hexU M (a * 16 + d) l := by
  rw [hexU, h]
theorem hexU_bad (M a : Nat) (c : UInt8) (l : List UInt8) (h : hexE c = none) : hexU M a (c :: l) = .inr false := by
  rw [hexU, h]

/-- What the library's inner function hands back. -/
def uTup : Sum Nat Bool → Value
  | .inl n => .tuple #[.int .u64 n, .nilIface]
  | .inr true => .tuple #[.int .u64 4294967295, .iface 195 (.int .i64 1)]
  | .inr false => .tuple #[.int .u64 0, .iface 195 (.int .i64 2)]
theorem lower_any (c : Int) (w : World) :
    Calls Tryz.prog 154 #[.int .u8 c] w fun e w' => e = .returned (.int .u8 (bits .or .u8 c 32)) ∧ w' = w := by
  go_enter Tryz.func154, Tryz.ntmps154
  go_wp2
  go_ret
  exact ⟨rfl, rfl⟩

set_option maxHeartbeats 32000000 in
set_option maxRecDepth 100000 in
theorem parseUint16_in (t : ByteArray) (hne : t.size ≠ 0) (hmax : t.size ≤ 1048576) (w : World) :
    Calls Tryz.prog 129 #[.string t, .int .i64 16, .int .i64 32] w fun e w' => e = .returned (uTup (hexU 4294967295 0 t.data.toList)) ∧ w' = Lib.bytesWorld w 5 t := by
  have hemp : t.toList.isEmpty = false := by
    rw [← decide_eq_emptyBytes]
    exact decide_eq_false (fun h => hne (by rw [h]; rfl))
  have hcv := Lib.run_convert_string_bytes (P := Tryz.prog) w 9 22 5 t (u := .string) Tryz.underlying9 Tryz.underlying22 Tryz.underlying5
  have hB : ∀ j, j < t.size → (Lib.bytesWorld w 5 t).cell? ⟨w.heap.size, j, none⟩ = some (.int .u8 (t.data.toList.getD j 0).toNat) := fun j hj => Lib.bytesWorld_cell w 5 t j hj
  obtain ⟨W1, hW1⟩ : ∃ W1, W1 = Lib.bytesWorld w 5 t := ⟨_, rfl⟩
  rw [← hW1] at hcv hB ⊢
  clear hW1
  obtain ⟨bs, hL⟩ : ∃ bs, bs = t.data.toList := ⟨_, rfl⟩
  have hLn : bs.length = t.size := by rw [hL, Lib.size_eq]
  rw [← hL] at hB ⊢
  clear hL
  have hmv : IntKind.u64.wrap (IntKind.u64.wrap 4294967296 - 1) = 4294967295 := by
    rw [IntKind.wrap_u64, IntKind.wrap_u64]
    decide
  go_enter Tryz.func129, Tryz.ntmps129
  go_wp2
  go_loop [12, 13, 101] (fun vu vn vi => ∃ (k acc : Nat) (a : Int), vu = .bool false ∧ vn = .int .u64 a ∧ vi = .int .i64 k ∧ k ≤ t.size ∧ Hid (a = (acc : Int) ∧ acc ≤ 4294967295 ∧ hexU 4294967295 0 bs = hexU 4294967295 acc (bs.drop k)))
    (fun _ _ vi => t.size - (intOf vi).toNat)
  case atStart => exact ⟨0, 0, 0, rfl, rfl, rfl, by omega, rfl, by omega, rfl⟩
  case round =>
    obtain ⟨k, acc, a, rfl, rfl, rfl, hk, hh⟩ := hrel
    obtain ⟨ha, hacc, hdec⟩ := hh.out
    clear hh
    have a0 : 0 ≤ a := by omega
    have a1 : a ≤ 4294967295 := by omega
    by_cases hkn : k < t.size
    · have hc := hB k hkn
      have hdrop : bs.drop k = bs[k]'(by omega) :: bs.drop (k + 1) := List.drop_eq_getElem_cons (by omega)
      have hget : bs.getD k 0 = bs[k]'(by omega) := by simp [List.getD, List.getElem?_eq_getElem (show k < bs.length by omega)]
      rw [hdrop] at hdec
      rw [hget] at hc
      generalize bs[k]'(by omega) = c at hc hdec
      have hc256 : c.toNat < 256 := c.toNat_lt
      clear hB hdrop hget
      by_cases hdig : 48 ≤ c.toNat ∧ c.toNat ≤ 57
      · rw [hexU_cons _ _ _ _ (hexE_dec c hdig)] at hdec
        obtain ⟨hd0, hd1⟩ := hdig
        by_cases hov : 4294967295 < acc * 16 + (c.toNat - 48)
        · rw [if_pos hov] at hdec
          have iov : 4294967295 < a * 16 + ((c.toNat : Int) - 48) := by omega
          clear hacc hov ha
          go_wp2
          go_ret2
          exact ⟨by first | rfl | (rw [hdec]; rfl), rfl⟩
        · rw [if_neg hov] at hdec
          have HN : Hid (a * 16 + ((c.toNat : Int) - 48) = ((acc * 16 + (c.toNat - 48) : Nat) : Int) ∧ acc * 16 + (c.toNat - 48) ≤ 4294967295 ∧ hexU 4294967295 0 bs = hexU 4294967295 (acc * 16 + (c.toNat - 48)) (bs.drop (k + 1))) := Lib.hid ⟨by omega, by omega, hdec⟩
          have iov : a * 16 + ((c.toNat : Int) - 48) ≤ 4294967295 := by omega
          clear hacc hov hdec ha
          go_wp2
          refine ⟨⟨k + 1, acc * 16 + (c.toNat - 48), a * 16 + ((c.toNat : Int) - 48), rfl, (by first | rfl | (congr 1; omega)), (by first | rfl | (congr 1; omega)), by omega, HN⟩, by simp [intOf]; omega⟩
      · obtain ⟨⟨hl0, hl1⟩, hlo⟩ := lower_hex c hdig
        have hlw := fun w' => lower_any (c.toNat : Int) w'
        have hdig' : ¬ (48 ≤ (c.toNat : Int) ∧ (c.toNat : Int) ≤ 57) := by omega
        rcases hlo with ⟨hl2, hl3, h95, d, hd, hdl, hd16⟩ | ⟨hl2, hd⟩
        · rw [hexU_cons _ _ _ _ hd] at hdec
          have hx : (bits .or .u8 (c.toNat : Int) 32) = d + 87 := by omega
          rw [hx] at hlw hl2 hl3
          clear hx hdl hl0 hl1 hd hdig
          have i95 : (c.toNat : Int) ≠ 95 := by omega
          have hdd : (d : Int) + 87 - 97 + 10 = d := by omega
          by_cases hov : 4294967295 < acc * 16 + d
          · rw [if_pos hov] at hdec
            have iov : 4294967295 < a * 16 + (d : Int) := by omega
            clear hacc hov ha
            have HD := Lib.hid hdec
            clear hdec
            go_wp2_with (go_at_call 154; refine (hlw _).mono ?_; rintro e w' ⟨rfl, hw⟩; rw [hw]; clear hw w')
            all_goals go_ret2
            all_goals exact ⟨by rw [HD.out]; rfl, rfl⟩
          · rw [if_neg hov] at hdec
            have HN : Hid (a * 16 + (d : Int) = ((acc * 16 + d : Nat) : Int) ∧ acc * 16 + d ≤ 4294967295 ∧ hexU 4294967295 0 bs = hexU 4294967295 (acc * 16 + d) (bs.drop (k + 1))) := Lib.hid ⟨by omega, by omega, hdec⟩
            have iov : a * 16 + (d : Int) ≤ 4294967295 := by omega
            clear hacc hov hdec ha
            go_wp2_with (go_at_call 154; refine (hlw _).mono ?_; rintro e w' ⟨rfl, hw⟩; rw [hw]; clear hw w')
            all_goals refine ⟨⟨k + 1, acc * 16 + d, a * 16 + (d : Int), rfl, (by first | rfl | (congr 1; omega)), (by first | rfl | (congr 1; omega)), by omega, HN⟩, by simp [intOf]; omega⟩
        · rw [hexU_bad _ _ _ _ hd] at hdec
          have HD := Lib.hid hdec
          clear hacc ha hdec hd
          by_cases h95 : c.toNat = 95
          · rw [h95] at hc
            have hl95 : ∀ w', Calls Tryz.prog 154 #[.int .u8 95] w' fun e w'' => e = .returned (.int .u8 127) ∧ w'' = w' := fun w' => lower_any 95 w'
            clear hlw hl0 hl1 hl2 hdig' h95 hdig
            go_wp2_with (go_at_call 154; refine (hl95 _).mono ?_; rintro e w' ⟨rfl, hw⟩; rw [hw]; clear hw w')
            go_ret2
            exact ⟨by rw [HD.out]; rfl, rfl⟩
          have i95 : (c.toNat : Int) ≠ 95 := by omega
          clear h95 hdig
          generalize bits .or .u8 (c.toNat : Int) 32 = x at *
          go_wp2_with (go_at_call 154; refine (hlw _).mono ?_; rintro e w' ⟨rfl, hw⟩; rw [hw]; clear hw w')
          all_goals go_ret2
          all_goals exact ⟨by rw [HD.out]; rfl, rfl⟩
    · have hkk : k = t.size := by omega
      subst hkk
      have hF : hexU 4294967295 acc (bs.drop t.size) = .inl acc := by rw [List.drop_eq_nil_of_le (by omega)]; rfl
      rw [hF] at hdec
      subst ha
      clear hacc hF a0 a1
      go_wp2
      go_ret2
      exact ⟨by first | rfl | (rw [hdec]; rfl), rfl⟩
end Go.Proofs.YtdnnjahdcabdmaaGreatDoor
