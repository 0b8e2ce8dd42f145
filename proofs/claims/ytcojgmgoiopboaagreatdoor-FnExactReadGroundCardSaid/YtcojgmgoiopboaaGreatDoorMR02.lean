import Derived.Test.YtcojgmgoiopboaaGreatDoorMR01
import Derived.Lib.ParseIntBMem
import Derived.Lib.Strings
import Derived.Lib.Walk
import Derived.Lib.ConvBytes
import Derived.Lib.Hide
import Derived.Laws.Strings3
import Derived.Laws.Closers25
import Derived.Laws.Closers25b
import Derived.WalkKit
import Derived.BigCall
import Derived.BigGuard
/- Numbers written with eight digits to the base 16: plain laws; no statement is proved here. -/
namespace Go.Proofs.YtcojgmgoiopboaaGreatDoor
open Go.ChangeShapes Go.WideShapes Go.ChangeAt Go.RowKit
set_option linter.unusedVariables false

/-- A digit's value. -/
def hexD (c : UInt8) : Option Nat := if 48 ≤ c.toNat ∧ c.toNat ≤ 57 then some (c.toNat - 48) else if 97 ≤ c.toNat ∧ c.toNat ≤ 102 then some (c.toNat - 87) else none
/-- The value of a great or a small digit. -/
def hexE (c : UInt8) : Option Nat := if 65 ≤ c.toNat ∧ c.toNat ≤ 70 then some (c.toNat - 55) else hexD c
def hexV : Nat → List UInt8 → Option Nat
  | a, [] => some a
  | a, c :: l => match hexD c with | some d => hexV (a * 16 + d) l | none => none
/-- What a reader of digits answers that stops at M: the number; or whether it is too great. -/
def hexU (M : Nat) : Nat → List UInt8 → Sum Nat Bool
  | a, [] => .inl a
  | a, c :: l => match hexE c with | some d => if M < a * 16 + d then .inr true else hexU M (a * 16 + d) l | none => .inr false
/-- A digit. -/
def dig (n : Nat) : UInt8 := UInt8.ofNat (if n < 10 then 48 + n else 87 + n)
/-- The last k digits. -/
def hexK : Nat → Nat → List UInt8
  | 0, _ => []
  | k + 1, u => dig (u / 16 ^ k) :: hexK k (u % 16 ^ k)
/-- The digits without zeros ahead. -/
def hexL (u : Nat) : List UInt8 := if h : u < 16 then [dig u] else hexL (u / 16) ++ [dig (u % 16)]
termination_by u
decreasing_by omega

theorem hexD_lt {c : UInt8} {d : Nat} (h : hexD c = some d) : d < 16 := by
  unfold hexD at h
  split at h
  · injection h with h; omega
  · split at h
    · injection h with h; omega
    · cases h
theorem hexE_lt {c : UInt8} {d : Nat} (h : hexE c = some d) : d < 16 := by
  unfold hexE at h
  split at h
  · injection h with h; omega
  · exact hexD_lt h
theorem hexE_of {c : UInt8} {d : Nat} (h : hexD c = some d) : hexE c = some d := by
  have h0 := h
  unfold hexD at h
  unfold hexE
  rw [if_neg, h0]
  split at h
  · omega
  · split at h
    · omega
    · cases h
theorem toNat_dig {n : Nat} (h : n < 16) : (dig n).toNat = if n < 10 then 48 + n else 87 + n := by
  unfold dig
  rw [UInt8.toNat_ofNat']
  split <;> omega
theorem hexD_dig {n : Nat} (h : n < 16) : hexD (dig n) = some n := by
  unfold hexD
  rw [toNat_dig h]
  by_cases h1 : n < 10
  · rw [if_pos h1, if_pos (by omega)]; congr 1; omega
  · rw [if_neg h1, if_neg (by omega), if_pos (by omega)]; congr 1; omega
theorem dig_hexD {c : UInt8} {d : Nat} (h : hexD c = some d) : c = dig d := by
  have hl := hexD_lt h
  apply UInt8.toNat_inj.1
  rw [toNat_dig hl]
  unfold hexD at h
  split at h
  · injection h with h; rw [if_pos (by omega)]; omega
  · split at h
    · injection h with h; rw [if_neg (by omega)]; omega
    · cases h
theorem hexK_length : ∀ k u, (hexK k u).length = k
  | 0, _ => rfl
  | k + 1, u => by simp [hexK, hexK_length k]
theorem hexV_hexK : ∀ k a u, u < 16 ^ k → hexV a (hexK k u) = some (a * 16 ^ k + u)
  | 0, a, u, h => by simp at h; subst h; simp [hexK, hexV]
  | k + 1, a, u, h => by
    have h1 : u / 16 ^ k < 16 := by
      apply Nat.div_lt_of_lt_mul; rw [Nat.pow_succ] at h; exact h
    have h2 : u % 16 ^ k < 16 ^ k := Nat.mod_lt _ (Nat.pow_pos (by decide))
    unfold hexK hexV
    rw [hexD_dig h1]
    show hexV (a * 16 + u / 16 ^ k) (hexK k (u % 16 ^ k)) = _
    rw [hexV_hexK k _ _ h2]
    congr 1
    have h3 := Nat.div_add_mod u (16 ^ k)
    rw [Nat.pow_succ, Nat.add_mul, Nat.mul_assoc a 16, Nat.mul_comm 16 (16 ^ k), Nat.mul_comm (u / 16 ^ k)]
    omega
theorem hexK_hexV : ∀ (l : List UInt8) (a b : Nat), hexV a l = some b → ∃ u, u < 16 ^ l.length ∧ b = a * 16 ^ l.length + u ∧ l = hexK l.length u
  | [], a, b, h => by
    injection h with h
    exact ⟨0, by simp, by simp [h], rfl⟩
  | c :: l, a, b, h => by
    unfold hexV at h
    cases hd : hexD c with
    | none => rw [hd] at h; cases h
    | some d =>
      rw [hd] at h
      obtain ⟨u, h1, h2, h3⟩ := hexK_hexV l _ _ h
      have hl := hexD_lt hd
      have hp : 0 < 16 ^ l.length := Nat.pow_pos (by decide)
      have hm : d * 16 ^ l.length + u < 16 * 16 ^ l.length := by
        have : d * 16 ^ l.length ≤ 15 * 16 ^ l.length := Nat.mul_le_mul_right _ (by omega)
        omega
      refine ⟨d * 16 ^ l.length + u, ?_, ?_, ?_⟩
      · show _ < 16 ^ (l.length + 1)
        rw [Nat.pow_succ, Nat.mul_comm (16 ^ l.length) 16]; exact hm
      · show b = a * 16 ^ (l.length + 1) + _
        rw [h2, Nat.pow_succ, Nat.add_mul, Nat.mul_comm (16 ^ l.length) 16, ← Nat.mul_assoc]; omega
      · show c :: l = dig ((d * 16 ^ l.length + u) / 16 ^ l.length) :: hexK l.length ((d * 16 ^ l.length + u) % 16 ^ l.length)
        have e1 : (d * 16 ^ l.length + u) / 16 ^ l.length = d := by
          rw [Nat.mul_comm, Nat.mul_add_div hp, Nat.div_eq_of_lt h1]; omega
        have e2 : (d * 16 ^ l.length + u) % 16 ^ l.length = u := by
          rw [Nat.mul_comm, Nat.mul_add_mod]; exact Nat.mod_eq_of_lt h1
        rw [e1, e2, ← h3, dig_hexD hd]
theorem hexV_le : ∀ (l : List UInt8) (a b : Nat), hexV a l = some b → a ≤ b
  | [], a, b, h => by injection h with h; omega
  | c :: l, a, b, h => by
    unfold hexV at h
    cases hd : hexD c with
    | none => rw [hd] at h; cases h
    | some d => rw [hd] at h; have := hexV_le l _ _ h; omega
theorem hexU_of (M : Nat) : ∀ (l : List UInt8) (a b : Nat), hexV a l = some b → b ≤ M → hexU M a l = .inl b
  | [], a, b, h, _ => by injection h with h; rw [← h]; rfl
  | c :: l, a, b, h, hM => by
    unfold hexV at h
    cases hd : hexD c with
    | none => rw [hd] at h; cases h
    | some d =>
      rw [hd] at h
      have hle := hexV_le l _ _ h
      unfold hexU
      rw [hexE_of hd]
      show (if M < a * 16 + d then _ else _) = _
      rw [if_neg (by omega)]
      exact hexU_of M l _ _ h hM
theorem hexU_le (M : Nat) : ∀ (l : List UInt8) (a b : Nat), a ≤ M → hexU M a l = .inl b → b ≤ M
  | [], a, b, ha, h => by injection h with h; omega
  | c :: l, a, b, ha, h => by
    unfold hexU at h
    cases hd : hexE c with
    | none => rw [hd] at h; cases h
    | some d =>
      rw [hd] at h
      have h : (if M < a * 16 + d then _ else _) = _ := h
      split at h
      · cases h
      · exact hexU_le M l _ _ (by omega) h
/-- From the other end. -/
theorem hexK_snoc : ∀ k u, u < 16 ^ (k + 1) → hexK (k + 1) u = hexK k (u / 16) ++ [dig (u % 16)]
  | 0, u, h => by
    have h : u < 16 := by simpa using h
    show [dig (u / 16 ^ 0)] = [dig (u % 16)]
    rw [Nat.mod_eq_of_lt h]; simp
  | k + 1, u, h => by
    have h2 : u % 16 ^ (k + 1) < 16 ^ (k + 1) := Nat.mod_lt _ (Nat.pow_pos (by decide))
    show dig (u / 16 ^ (k + 1)) :: hexK (k + 1) (u % 16 ^ (k + 1)) = (dig (u / 16 / 16 ^ k) :: hexK k (u / 16 % 16 ^ k)) ++ [dig (u % 16)]
    rw [hexK_snoc k _ h2]
    have e1 : u / 16 / 16 ^ k = u / 16 ^ (k + 1) := by rw [Nat.div_div_eq_div_mul, Nat.pow_succ, Nat.mul_comm]
    have e2 : u % 16 ^ (k + 1) / 16 = u / 16 % 16 ^ k := by rw [Nat.pow_succ, Nat.mul_comm, Nat.mod_mul_right_div_self]
    have e3 : u % 16 ^ (k + 1) % 16 = u % 16 := Nat.mod_mod_of_dvd _ ⟨16 ^ k, by rw [Nat.pow_succ, Nat.mul_comm]⟩
    rw [e1, e2, e3]; rfl
theorem hexK_zero : ∀ k, hexK k 0 = List.replicate k 48
  | 0 => rfl
  | k + 1 => by
    unfold hexK
    rw [Nat.zero_div, Nat.zero_mod, hexK_zero k]; rfl
theorem hexL_lt {u : Nat} (h : u < 16) : hexL u = [dig u] := by unfold hexL; rw [dif_pos h]
theorem hexL_ge {u : Nat} (h : ¬ u < 16) : hexL u = hexL (u / 16) ++ [dig (u % 16)] := by rw [hexL, dif_neg h]
theorem hexL_pad : ∀ k u, u < 16 ^ (k + 1) → (hexL u).length ≤ k + 1 ∧ hexK (k + 1) u = List.replicate (k + 1 - (hexL u).length) 48 ++ hexL u
  | 0, u, h => by
    have h : u < 16 := by simpa using h
    rw [hexL_lt h]
    exact ⟨Nat.le_refl _, by rw [hexK_snoc 0 u (by simpa using h), Nat.mod_eq_of_lt h]; rfl⟩
  | k + 1, u, h => by
    by_cases hu : u < 16
    · rw [hexL_lt hu, hexK_snoc _ _ h, Nat.div_eq_of_lt hu, hexK_zero, Nat.mod_eq_of_lt hu]
      exact ⟨by simp, by simp⟩
    · have h1 : u / 16 < 16 ^ (k + 1) := by
        apply Nat.div_lt_of_lt_mul; rw [Nat.pow_succ, Nat.mul_comm] at h; exact h
      obtain ⟨h2, h3⟩ := hexL_pad k _ h1
      rw [hexL_ge hu, hexK_snoc _ _ h, h3]
      refine ⟨by simp; omega, ?_⟩
      rw [show k + 1 + 1 - (hexL (u / 16) ++ [dig (u % 16)]).length = k + 1 - (hexL (u / 16)).length by simp]
      simp
theorem hexL_length {u : Nat} (h : u < 4294967296) : (hexL u).length ≤ 8 ∧ hexK 8 u = List.replicate (8 - (hexL u).length) 48 ++ hexL u := hexL_pad 7 u (by simpa using h)
theorem hexL_pos (u : Nat) : 0 < (hexL u).length := by
  by_cases h : u < 16
  · rw [hexL_lt h]; simp
  · rw [hexL_ge h]; simp

/-- The text of a number. -/
def txt (b : Nat) : List UInt8 := hexK 8 (cn b)
/-- The number with a text. -/
def numL (l : List UInt8) : Option Nat := if l.length = 8 then (match hexV 0 l with | some b => if cn b = b then some b else none | none => none) else none
theorem cn_lt {b : Nat} (h : b < 4294967296) : cn b < 4294967296 := by
  unfold cn
  cases hn : isN .f32 b
  · rw [cnk_of_not hn]; exact h
  · rw [cnk_of_nan hn]; decide
theorem txt_length (b : Nat) : (txt b).length = 8 := hexK_length 8 _
theorem hexV_txt {b : Nat} (h : b < 4294967296) : hexV 0 (txt b) = some (cn b) := by
  unfold txt
  rw [hexV_hexK 8 0 (cn b) (by simpa using cn_lt h)]; simp
theorem numL_some {l : List UInt8} {b : Nat} (h : numL l = some b) : l.length = 8 ∧ hexV 0 l = some b ∧ cn b = b ∧ b < 4294967296 ∧ l = txt b := by
  unfold numL at h
  split at h
  · rename_i hl
    cases hv : hexV 0 l with
    | none => rw [hv] at h; cases h
    | some b' =>
      rw [hv] at h
      have h : (if cn b' = b' then some b' else none) = some b := h
      split at h
      · rename_i hc
        injection h with h
        subst h
        obtain ⟨u, h1, h2, h3⟩ := hexK_hexV l 0 b' hv
        rw [hl] at h1 h2 h3
        have hu : b' = u := by omega
        subst hu
        exact ⟨hl, rfl, hc, by simpa using h1, by unfold txt; rw [hc]; exact h3⟩
      · cases h
  · cases h
theorem numL_txt {b : Nat} (h : b < 4294967296) : numL (txt b) = some (cn b) := by
  unfold numL
  rw [if_pos (txt_length b), hexV_txt h]
  show (if cn (cn b) = cn b then some (cn b) else none) = _
  exact if_pos (cnk_cnk .f32 b)
theorem numL_cases {l : List UInt8} {n : Nat} (h : hexU 4294967295 0 l = .inl n) : n < 4294967296 ∧ ((txt n = l ∧ numL l = some n) ∨ (txt n ≠ l ∧ numL l = none)) := by
  have hn := hexU_le _ l 0 n (by omega) h
  refine ⟨by omega, ?_⟩
  by_cases ht : txt n = l
  · left
    have e := numL_txt (b := n) (by omega)
    have e2 := hexU_of 4294967295 (txt n) 0 (cn n) (hexV_txt (by omega)) (by have := cn_lt (b := n) (by omega); omega)
    rw [ht, h] at e2
    injection e2 with e2
    rw [ht, ← e2] at e
    exact ⟨ht, e⟩
  · right
    refine ⟨ht, ?_⟩
    cases hm : numL l with
    | none => rfl
    | some b =>
      obtain ⟨h1, h2, h3, h4, h5⟩ := numL_some hm
      have e := hexU_of 4294967295 l 0 b h2 (by omega)
      rw [h] at e
      injection e with e
      exact absurd (by rw [e]; exact h5.symm) ht
theorem numL_none {l : List UInt8} (h : ∀ n, hexU 4294967295 0 l ≠ .inl n) : numL l = none := by
  cases hm : numL l with
  | none => rfl
  | some b =>
    obtain ⟨h1, h2, h3, h4, h5⟩ := numL_some hm
    exact absurd (hexU_of 4294967295 l 0 b h2 (by omega)) (h b)
/-- No text of a number holds a byte that is no digit. -/
theorem numL_digits {l : List UInt8} {b : Nat} (h : numL l = some b) : ∀ c ∈ l, ∃ d, hexD c = some d := by
  have hv := (numL_some h).2.1
  have go : ∀ (l : List UInt8) (a b : Nat), hexV a l = some b → ∀ c ∈ l, ∃ d, hexD c = some d := by
    intro l
    induction l with
    | nil => intro a b _ c hc; cases hc
    | cons x l ih =>
      intro a b h c hc
      unfold hexV at h
      cases hd : hexD x with
      | none => rw [hd] at h; cases h
      | some d =>
        rw [hd] at h
        rcases List.mem_cons.1 hc with rfl | hc
        · exact ⟨d, hd⟩
        · exact ih _ _ h c hc
  exact go l 0 b hv
/-- What a reader gives: the number (0 if there is none), and the code. -/
def numB (l : List UInt8) : Nat := (numL l).getD 0
def numC (l : List UInt8) : Int := if (numL l).isSome then 0 else 5
end Go.Proofs.YtcojgmgoiopboaaGreatDoor
/- strconv.ParseUint at base 16 and 32 bits: the walk of the library's text. -/
namespace Go.Proofs.YtcojgmgoiopboaaGreatDoor
open Go.ChangeShapes Go.WideShapes Go.ChangeAt Go.RowKit
set_option linter.unusedVariables false
set_option linter.unusedSimpArgs false
attribute [local irreducible] Calls

theorem lower_all : ∀ n : Nat, n < 256 → (0 ≤ bits .or .u8 (n : Int) 32 ∧ bits .or .u8 (n : Int) 32 ≤ 255 ∧ ((97 ≤ bits .or .u8 (n : Int) 32 ∧ bits .or .u8 (n : Int) 32 ≤ 102 ∧ ((65 ≤ n ∧ n ≤ 70 ∧ bits .or .u8 (n : Int) 32 = n + 32) ∨ (97 ≤ n ∧ n ≤ 102 ∧ bits .or .u8 (n : Int) 32 = n))) ∨ ((bits .or .u8 (n : Int) 32 < 97 ∨ 102 < bits .or .u8 (n : Int) 32) ∧ ¬ (65 ≤ n ∧ n ≤ 70) ∧ ¬ (97 ≤ n ∧ n ≤ 102)))) := by
  decide +kernel
/-- What a byte that is no decimal digit is, by its small letter. -/
theorem lower_hex (c : UInt8) (h : ¬ (48 ≤ c.toNat ∧ c.toNat ≤ 57)) :
    (0 ≤ bits .or .u8 (c.toNat : Int) 32 ∧ bits .or .u8 (c.toNat : Int) 32 ≤ 255) ∧ ((97 ≤ bits .or .u8 (c.toNat : Int) 32 ∧ bits .or .u8 (c.toNat : Int) 32 ≤ 102 ∧ c.toNat ≠ 95 ∧ ∃ d : Nat, hexE c = some d ∧ bits .or .u8 (c.toNat : Int) 32 - 87 = d ∧ d < 16) ∨ ((bits .or .u8 (c.toNat : Int) 32 < 97 ∨ 102 < bits .or .u8 (c.toNat : Int) 32) ∧ hexE c = none)) := by
  obtain ⟨h0, h1, h2⟩ := lower_all c.toNat c.toNat_lt
  refine ⟨⟨h0, h1⟩, ?_⟩
  unfold hexE hexD
  rcases h2 with ⟨ha, hb, ⟨hc, hd, he⟩ | ⟨hc, hd, he⟩⟩ | ⟨ha, hb, hc⟩
  · left
    refine ⟨ha, hb, by omega, c.toNat - 55, ?_, by omega, by omega⟩
    rw [if_pos ⟨hc, hd⟩]
  · left
    refine ⟨ha, hb, by omega, c.toNat - 87, ?_, by omega, by omega⟩
    rw [if_neg (by omega), if_neg h, if_pos ⟨hc, hd⟩]
  · right
    exact ⟨ha, by rw [if_neg hb, if_neg h, if_neg hc]⟩
theorem hexE_dec (c : UInt8) (h : 48 ≤ c.toNat ∧ c.toNat ≤ 57) : hexE c = some (c.toNat - 48) := by
  unfold hexE hexD
  rw [if_neg (by omega), if_pos h]
theorem hexU_cons (M a : Nat) (c : UInt8) (l : List UInt8) {d : Nat} (h : hexE c = some d) : hexU M a (c :: l) = if M < a * 16 + d then .inr true else hexU M (a * 16 + d) l := by
  rw [hexU, h]
theorem hexU_bad (M a : Nat) (c : UInt8) (l : List UInt8) (h : hexE c = none) : hexU M a (c :: l) = .inr false := by
  rw [hexU, h]

/-- What the library's inner function hands back. -/
def uTup : Sum Nat Bool → Value
  | .inl n => .tuple #[.int .u64 n, .nilIface]
  | .inr true => .tuple #[.int .u64 4294967295, .iface 121 (.int .i64 1)]
  | .inr false => .tuple #[.int .u64 0, .iface 121 (.int .i64 2)]
theorem lower_any (c : Int) (w : World) :
    Calls Tryz.prog 88 #[.int .u8 c] w fun e w' => e = .returned (.int .u8 (bits .or .u8 c 32)) ∧ w' = w := by
  go_enter Tryz.func88, Tryz.ntmps88
  go_wp2
  go_ret
  exact ⟨rfl, rfl⟩

set_option maxHeartbeats 32000000 in
set_option maxRecDepth 100000 in
theorem parseUint16_in (t : ByteArray) (hne : t.size ≠ 0) (hmax : t.size ≤ 1048576) (w : World) :
    Calls Tryz.prog 65 #[.string t, .int .i64 16, .int .i64 32] w fun e w' => e = .returned (uTup (hexU 4294967295 0 t.data.toList)) ∧ w' = Lib.bytesWorld w 5 t := by
  have hemp : t.toList.isEmpty = false := by
    rw [← decide_eq_emptyBytes]
    exact decide_eq_false (fun h => hne (by rw [h]; rfl))
  have hcv := Lib.run_convert_string_bytes (P := Tryz.prog) w 9 90 5 t (u := .string) Tryz.underlying9 Tryz.underlying90 Tryz.underlying5
  have hB : ∀ j, j < t.size → (Lib.bytesWorld w 5 t).cell? ⟨w.heap.size, j, none⟩ = some (.int .u8 (t.data.toList.getD j 0).toNat) := fun j hj => Lib.bytesWorld_cell w 5 t j hj
  obtain ⟨W1, hW1⟩ : ∃ W1, W1 = Lib.bytesWorld w 5 t := ⟨_, rfl⟩
  rw [← hW1] at hcv hB ⊢
  clear hW1
  obtain ⟨bs, hL⟩ : ∃ bs, bs = t.data.toList := ⟨_, rfl⟩
  have hLn : bs.length = t.size := by rw [hL, Lib.size_eq]
  rw [← hL] at hB ⊢
  clear hL
  have hmv : IntKind.u64.wrap (IntKind.u64.wrap 4294967296 - 1) = 4294967295 := by
    rw [IntKind.wrap_u64, IntKind.wrap_u64]
    decide
  go_enter Tryz.func65, Tryz.ntmps65
  go_wp2
  go_loop [12, 13, 101] (fun vu vn vi => ∃ (k acc : Nat) (a : Int), vu = .bool false ∧ vn = .int .u64 a ∧ vi = .int .i64 k ∧ k ≤ t.size ∧ Hid (a = (acc : Int) ∧ acc ≤ 4294967295 ∧ hexU 4294967295 0 bs = hexU 4294967295 acc (bs.drop k)))
    (fun _ _ vi => t.size - (intOf vi).toNat)
  case atStart => exact ⟨0, 0, 0, rfl, rfl, rfl, by omega, rfl, by omega, rfl⟩
  case round =>
    obtain ⟨k, acc, a, rfl, rfl, rfl, hk, hh⟩ := hrel
    obtain ⟨ha, hacc, hdec⟩ := hh.out
    clear hh
    have a0 : 0 ≤ a := by omega
    have a1 : a ≤ 4294967295 := by omega
    by_cases hkn : k < t.size
    · have hc := hB k hkn
      have hdrop : bs.drop k = bs[k]'(by omega) :: bs.drop (k + 1) := List.drop_eq_getElem_cons (by omega)
      have hget : bs.getD k 0 = bs[k]'(by omega) := by simp [List.getD, List.getElem?_eq_getElem (show k < bs.length by omega)]
      rw [hdrop] at hdec
      rw [hget] at hc
      generalize bs[k]'(by omega) = c at hc hdec
      have hc256 : c.toNat < 256 := c.toNat_lt
      clear hB hdrop hget
      by_cases hdig : 48 ≤ c.toNat ∧ c.toNat ≤ 57
      · rw [hexU_cons _ _ _ _ (hexE_dec c hdig)] at hdec
        obtain ⟨hd0, hd1⟩ := hdig
        by_cases hov : 4294967295 < acc * 16 + (c.toNat - 48)
        · rw [if_pos hov] at hdec
          have iov : 4294967295 < a * 16 + ((c.toNat : Int) - 48) := by omega
          clear hacc hov ha
          go_wp2
          go_ret2
          exact ⟨by first | rfl | (rw [hdec]; rfl), rfl⟩
        · rw [if_neg hov] at hdec
          have HN : Hid (a * 16 + ((c.toNat : Int) - 48) = ((acc * 16 + (c.toNat - 48) : Nat) : Int) ∧ acc * 16 + (c.toNat - 48) ≤ 4294967295 ∧ hexU 4294967295 0 bs = hexU 4294967295 (acc * 16 + (c.toNat - 48)) (bs.drop (k + 1))) := Lib.hid ⟨by omega, by omega, hdec⟩
          have iov : a * 16 + ((c.toNat : Int) - 48) ≤ 4294967295 := by omega
          clear hacc hov hdec ha
          go_wp2
          refine ⟨⟨k + 1, acc * 16 + (c.toNat - 48), a * 16 + ((c.toNat : Int) - 48), rfl, (by first | rfl | (congr 1; omega)), (by first | rfl | (congr 1; omega)), by omega, HN⟩, by simp [intOf]; omega⟩
      · obtain ⟨⟨hl0, hl1⟩, hlo⟩ := lower_hex c hdig
        have hlw := fun w' => lower_any (c.toNat : Int) w'
        have hdig' : ¬ (48 ≤ (c.toNat : Int) ∧ (c.toNat : Int) ≤ 57) := by omega
        rcases hlo with ⟨hl2, hl3, h95, d, hd, hdl, hd16⟩ | ⟨hl2, hd⟩
        · rw [hexU_cons _ _ _ _ hd] at hdec
          have hx : (bits .or .u8 (c.toNat : Int) 32) = d + 87 := by omega
          rw [hx] at hlw hl2 hl3
          clear hx hdl hl0 hl1 hd hdig
          have i95 : (c.toNat : Int) ≠ 95 := by omega
          have hdd : (d : Int) + 87 - 97 + 10 = d := by omega
          by_cases hov : 4294967295 < acc * 16 + d
          · rw [if_pos hov] at hdec
            have iov : 4294967295 < a * 16 + (d : Int) := by omega
            clear hacc hov ha
            have HD := Lib.hid hdec
            clear hdec
            go_wp2_with (go_at_call 88; refine (hlw _).mono ?_; rintro e w' ⟨rfl, hw⟩; rw [hw]; clear hw w')
            all_goals go_ret2
            all_goals exact ⟨by rw [HD.out]; rfl, rfl⟩
          · rw [if_neg hov] at hdec
            have HN : Hid (a * 16 + (d : Int) = ((acc * 16 + d : Nat) : Int) ∧ acc * 16 + d ≤ 4294967295 ∧ hexU 4294967295 0 bs = hexU 4294967295 (acc * 16 + d) (bs.drop (k + 1))) := Lib.hid ⟨by omega, by omega, hdec⟩
            have iov : a * 16 + (d : Int) ≤ 4294967295 := by omega
            clear hacc hov hdec ha
            go_wp2_with (go_at_call 88; refine (hlw _).mono ?_; rintro e w' ⟨rfl, hw⟩; rw [hw]; clear hw w')
            all_goals refine ⟨⟨k + 1, acc * 16 + d, a * 16 + (d : Int), rfl, (by first | rfl | (congr 1; omega)), (by first | rfl | (congr 1; omega)), by omega, HN⟩, by simp [intOf]; omega⟩
        · rw [hexU_bad _ _ _ _ hd] at hdec
          have HD := Lib.hid hdec
          clear hacc ha hdec hd
          by_cases h95 : c.toNat = 95
          · rw [h95] at hc
            have hl95 : ∀ w', Calls Tryz.prog 88 #[.int .u8 95] w' fun e w'' => e = .returned (.int .u8 127) ∧ w'' = w' := fun w' => lower_any 95 w'
            clear hlw hl0 hl1 hl2 hdig' h95 hdig
            go_wp2_with (go_at_call 88; refine (hl95 _).mono ?_; rintro e w' ⟨rfl, hw⟩; rw [hw]; clear hw w')
            go_ret2
            exact ⟨by rw [HD.out]; rfl, rfl⟩
          have i95 : (c.toNat : Int) ≠ 95 := by omega
          clear h95 hdig
          generalize bits .or .u8 (c.toNat : Int) 32 = x at *
          go_wp2_with (go_at_call 88; refine (hlw _).mono ?_; rintro e w' ⟨rfl, hw⟩; rw [hw]; clear hw w')
          all_goals go_ret2
          all_goals exact ⟨by rw [HD.out]; rfl, rfl⟩
    · have hkk : k = t.size := by omega
      subst hkk
      have hF : hexU 4294967295 acc (bs.drop t.size) = .inl acc := by rw [List.drop_eq_nil_of_le (by omega)]; rfl
      rw [hF] at hdec
      subst ha
      clear hacc hF a0 a1
      go_wp2
      go_ret2
      exact ⟨by first | rfl | (rw [hdec]; rfl), rfl⟩
end Go.Proofs.YtcojgmgoiopboaaGreatDoor
