/- Decimal, in the reference: the walk. -/
import Derived.Test.YtcojgmgoiopboaaDoorDecP
import Derived.RegionTactic
import Derived.IntWalk
import Derived.Laws.IdiomStrings
namespace Go.Proofs.YtcojgmgoiopboaaDoor
open Go.ChangeShapes Go.WideShapes Go.ChangeAt Go.RowKit
set_option linter.unusedVariables false
set_option linter.unusedSimpArgs false
attribute [local irreducible] Calls
theorem conv1 {w : World} {r : Nat} {T : TypeId} {c : UInt8} (h : Blk w r #[.int .u8 (c.toNat : Int)] T) : (convert 46 9 (.slice (some ⟨r, 0, none⟩) 1 1)).run Tryd.prog w = .ok (.string ⟨#[c]⟩) w :=
  run_convert_bytes_back (P := Tryd.prog) w 46 9 5 ⟨r, 0, none⟩ 1 [c] Tryd.underlying46 Tryd.underlying5 Tryd.underlying9 (fun j hj => by
    have hj : j = 0 := by simpa using hj
    subst hj
    exact h.cell 0)
set_option maxRecDepth 100000 in
set_option maxHeartbeats 4000000 in
theorem decimalS_any : ∀ (k n : Nat), n ≤ k → n < 1000000000000000000 → ∀ w, Calls Tryd.prog 38 #[.int .i64 n] w fun e w' => e = .returned (.string ⟨(Lib.decDigits n).toArray⟩) ∧ Below w.heap.size w w'
  | k, n, h, hb, w => by
    by_cases hn : n < 10
    · have e : Lib.decDigits n = [UInt8.ofNat (48 + n)] := by rw [Lib.decDigits, dif_pos hn]
      rw [e]
      have hi : (n : Int) < 10 := by omega
      have hi0 : (0 : Int) ≤ n := by omega
      have hct : (UInt8.ofNat (48 + n)).toNat = 48 + n := toNat_digit hn
      generalize UInt8.ofNat (48 + n) = c at *
      have hcv := conv1 (Blk.new w #[.int .u8 (c.toNat : Int)] 5)
      rw [hct, show ((48 + n : Nat) : Int) = 48 + (n : Int) by omega] at hcv
      clear hb h hct e
      go_enter Tryd.func38, Tryd.ntmps38
      go_wp2_with fail
      go_ret
      exact ⟨rfl, below1 _ _⟩
    · cases k with
      | zero => omega
      | succ k =>
      have ih := fun w => decimalS_any k (n / 10) (by omega) (by omega) w
      have e : Lib.decDigits n = Lib.decDigits (n / 10) ++ [UInt8.ofNat (48 + n % 10)] := by rw [Lib.decDigits, dif_neg hn]
      have hlen : (Lib.decDigits (n / 10)).length ≤ 18 := decDigits_len_le 17 _ (by omega)
      rw [e]
      have hi : ¬ (n : Int) < 10 := by omega
      have hi0 : (0 : Int) ≤ n := by omega
      have hct : (UInt8.ofNat (48 + n % 10)).toNat = 48 + n % 10 := toNat_digit (Nat.mod_lt _ (by decide))
      have hcv : ∀ w : World, (convert 46 9 (.slice (some ⟨w.heap.size, 0, none⟩) 1 1)).run Tryd.prog (w.alloc (.cells #[.int .u8 (48 + (n : Int) % 10)] 5)) = .ok (.string ⟨#[UInt8.ofNat (48 + n % 10)]⟩) (w.alloc (.cells #[.int .u8 (48 + (n : Int) % 10)] 5)) := fun w => by
        have h := conv1 (Blk.new w #[.int .u8 ((UInt8.ofNat (48 + n % 10)).toNat : Int)] 5)
        rwa [hct, show ((48 + n % 10 : Nat) : Int) = 48 + (n : Int) % 10 by omega] at h
      have hcvA : (convert 46 9 (.slice (some ⟨w.heap.size, 0, none⟩) 1 1)).run Tryd.prog (w.alloc (.cells #[.int .u8 (48 + (n : Int) % 10)] 5)).drew = .ok (.string ⟨#[UInt8.ofNat (48 + n % 10)]⟩) (w.alloc (.cells #[.int .u8 (48 + (n : Int) % 10)] 5)).drew := by
        have h := conv1 (Blk.new w #[.int .u8 ((UInt8.ofNat (48 + n % 10)).toNat : Int)] 5).drew
        rwa [hct, show ((48 + n % 10 : Nat) : Int) = 48 + (n : Int) % 10 by omega] at h
      have hcv2 : ∀ (w' : World) (B : Nat), w.heap.size < B → Below B (w.alloc (.cells #[.int .u8 (48 + (n : Int) % 10)] 5)).drew w' → (convert 46 9 (.slice (some ⟨w.heap.size, 0, none⟩) 1 1)).run Tryd.prog w' = .ok (.string ⟨#[UInt8.ofNat (48 + n % 10)]⟩) w' := fun w' B hB hb => by
        have h0 := (Blk.new w #[.int .u8 ((UInt8.ofNat (48 + n % 10)).toNat : Int)] 5).drew
        rw [hct, show ((48 + n % 10 : Nat) : Int) = 48 + (n : Int) % 10 by omega] at h0
        have h1 := h0.below hb hB
        rw [show (48 + (n : Int) % 10) = ((UInt8.ofNat (48 + n % 10)).toNat : Int) by rw [hct]; omega] at h1
        exact conv1 h1
      generalize UInt8.ofNat (48 + n % 10) = c at *
      have hq : ((n / 10 : Nat) : Int) = (n : Int) / 10 := by omega
      rw [hq] at ih
      generalize Lib.decDigits (n / 10) = D at *
      have w1 : IntKind.i64.wrap ((n : Int) / 10) = (n : Int) / 10 := IntWalk.i64_in _ (by omega)
      have w2 : (n : Int).tmod 10 = (n : Int) % 10 := Int.tmod_eq_emod_of_nonneg (by omega)
      have w3 : IntKind.i64.wrap (48 + (n : Int) % 10) = 48 + (n : Int) % 10 := IntWalk.i64_in _ (by omega)
      have w4 : IntKind.u8.wrap (48 + (n : Int) % 10) = 48 + (n : Int) % 10 := by rw [IntKind.wrap_u8]; omega
      clear h hct e hn hq
      go_enter Tryd.func38, Tryd.ntmps38
      go_upto_region 2 with fail
      go_region_with (go_at_call 38; refine (ih _).mono ?_; rintro e w1 ⟨rfl, hb1⟩; first | (have hc1 := hcv2 w1 _ (by simp) hb1) | skip)
      all_goals first
        | (exfalso; omega)
        | skip
      all_goals go_wp2_with fail
      all_goals go_ret
      all_goals refine ⟨by first | rfl | (simp; rfl), ?_⟩
      all_goals first
        | exact (((Below.refl w.heap.size w).drew.trans hb1).alloc hb1.size _)
        | exact (below1 w _).drew.trans (hb1.mono (by simp))
        | trace_state
end Go.Proofs.YtcojgmgoiopboaaDoor
