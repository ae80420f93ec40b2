/-
  Decimal numerals: what strconv.Atoi and strconv.Itoa give of a row of digits, and the numerals that the statement LexTokens speaks of. No program is in sight here.
-/
import Derived.Test.YtkmdojghimfmeaaDoorPlain
namespace Go.Proofs.YtkmdojghimfmeaaDoor.Lx
open Go.Lib (decDigits decDigits_one decDigits_length nDigits nDigits_small nDigits_big)

theorem numVal_nil : numVal [] = 0 := rfl
theorem numVal_snoc (r : List UInt8) (c : UInt8) : numVal (r ++ [c]) = 10 * numVal r + (c.toNat - 48) := by simp [numVal, List.foldl_append]

theorem digitVal_of {c : UInt8} (h : digit c = true) : Lib.digitVal c = some (c.toNat - 48) := by
  unfold Lib.digitVal
  rw [if_pos (digit_bounds h)]

theorem decFrom_of : ∀ (l : List UInt8) (acc : Nat), (∀ c ∈ l, digit c = true) → Lib.decFrom acc l = some (l.foldl (fun a c => 10 * a + (c.toNat - 48)) acc)
  | [], _, _ => rfl
  | c :: r, acc, h => by
    simp only [Lib.decFrom, List.foldl_cons, digitVal_of (h c (List.mem_cons_self ..))]
    rw [decFrom_of r _ fun x hx => h x (List.mem_cons_of_mem _ hx), Nat.mul_comm acc 10]

theorem parse_ends : ∀ (l : List UInt8) (acc : Nat), (∀ c ∈ l, digit c = true) → (∃ u, Lib.parseUint10 acc l = .ok u) ∨ Lib.parseUint10 acc l = .range
  | [], acc, _ => .inl ⟨acc, rfl⟩
  | c :: r, acc, h => by
    simp only [Lib.parseUint10]
    rw [if_pos (digit_bounds (h c (List.mem_cons_self ..)))]
    split
    · exact .inr rfl
    · split
      · exact .inr rfl
      · exact parse_ends r _ fun x hx => h x (List.mem_cons_of_mem _ hx)

theorem atoi_digits {w : List UInt8} (h0 : w ≠ []) (hd : ∀ c ∈ w, digit c = true) :
    (∃ u : Nat, Lib.atoiAll w = .ok (u : Int) ∧ u < 9223372036854775808 ∧ (w.length ≤ 13 → u = numVal w)) ∨ (Lib.atoiAll w = .range ∧ 13 < w.length) := by
  cases w with
  | nil => exact absurd rfl h0
  | cons c r =>
    have hc := digit_bounds (hd c (List.mem_cons_self ..))
    rw [Lib.atoiAll_plain c r (by omega) (by omega)]
    by_cases hl : (c :: r).length ≤ 18
    · have hn : Lib.decNat (c :: r) = some (numVal (c :: r)) := by
        simp only [Lib.decNat, List.isEmpty_cons, Bool.false_eq_true, if_false]
        exact decFrom_of (c :: r) 0 hd
      have hs := Lib.decNat_small hl hn
      rw [Lib.signless_short hl, hn]
      exact .inl ⟨numVal (c :: r), rfl, hs, fun _ => rfl⟩
    · have hp : Lib.parseMag (c :: r) = Lib.parseUint10 0 (c :: r) := by simp [Lib.parseMag]
      rw [hp]
      rcases parse_ends (c :: r) 0 hd with ⟨u, hx⟩ | hx
      · rw [hx]
        by_cases hu : 9223372036854775808 ≤ u
        · exact .inr ⟨by simp [Lib.signless, hu], by omega⟩
        · exact .inl ⟨u, by simp [Lib.signless, hu], by omega, fun h => absurd h (by omega)⟩
      · rw [hx]
        exact .inr ⟨rfl, by omega⟩

theorem digit_back {c : UInt8} (h : digit c = true) : UInt8.ofNat (48 + (c.toNat - 48)) = c := by
  have := digit_bounds h
  rw [show 48 + (c.toNat - 48) = c.toNat from by omega]
  exact UInt8.ofNat_toNat
theorem toNat_digit {k : Nat} (h : k < 10) : (UInt8.ofNat (48 + k)).toNat = 48 + k := by
  rw [UInt8.toNat_ofNat']
  omega
theorem digit_ofNat {k : Nat} (h : k < 10) : digit (UInt8.ofNat (48 + k)) = true := by
  unfold digit
  rw [toNat_digit h]
  exact decide_eq_true (by omega)

theorem decDigits_big {u : Nat} (h : ¬ u < 10) : decDigits u = decDigits (u / 10) ++ [UInt8.ofNat (48 + u % 10)] := by rw [Lib.decDigits, dif_neg h]

theorem decDigits_ne (u : Nat) : decDigits u ≠ [] := by
  by_cases h : u < 10
  · rw [decDigits_one h]; simp
  · rw [decDigits_big h]; simp

theorem decDigits_all (u : Nat) : ∀ c ∈ decDigits u, digit c = true := by
  induction u using Nat.strongRecOn with
  | _ u ih =>
    by_cases h : u < 10
    · rw [decDigits_one h]
      intro c hc
      simp only [List.mem_singleton] at hc
      subst hc
      exact digit_ofNat h
    · rw [decDigits_big h]
      intro c hc
      rcases List.mem_append.1 hc with hc | hc
      · exact ih (u / 10) (by omega) c hc
      · simp only [List.mem_singleton] at hc
        subst hc
        exact digit_ofNat (by omega)

theorem numVal_decDigits (u : Nat) : numVal (decDigits u) = u := by
  induction u using Nat.strongRecOn with
  | _ u ih =>
    by_cases h : u < 10
    · rw [decDigits_one h]
      simp only [numVal, List.foldl_cons, List.foldl_nil, toNat_digit h]
      omega
    · rw [decDigits_big h, numVal_snoc, ih (u / 10) (by omega), toNat_digit (by omega)]
      omega

theorem head_append {a : List UInt8} (h : a ≠ []) {b : List UInt8} : (a ++ b).head? = a.head? := by
  cases a with
  | nil => exact absurd rfl h
  | cons c r => rfl

theorem decDigits_head (u : Nat) (h : 10 ≤ u) : (decDigits u).head? ≠ some 48 := by
  induction u using Nat.strongRecOn with
  | _ u ih =>
    rw [decDigits_big (by omega), head_append (decDigits_ne _)]
    by_cases h1 : u / 10 < 10
    · rw [decDigits_one h1]
      simp only [List.head?_cons, ne_eq, Option.some.injEq]
      intro e
      have := congrArg UInt8.toNat e
      rw [toNat_digit h1] at this
      have e48 : (48 : UInt8).toNat = 48 := rfl
      omega
    · exact ih (u / 10) (by omega) (by omega)

theorem snoc_of_ne {l : List UInt8} (h : l ≠ []) : ∃ r c, l = r ++ [c] := ⟨l.dropLast, l.getLast h, (List.dropLast_concat_getLast h).symm⟩

theorem numVal_pos {w : List UInt8} (h0 : w ≠ []) (hd : ∀ c ∈ w, digit c = true) (hh : w.head? ≠ some 48) : 1 ≤ numVal w := by
  have key : ∀ (n : Nat) (w : List UInt8), w.length = n → w ≠ [] → (∀ c ∈ w, digit c = true) → w.head? ≠ some 48 → 1 ≤ numVal w := by
    intro n
    induction n with
    | zero => intro w hl h0; exact absurd (List.length_eq_zero_iff.1 hl) h0
    | succ n ih =>
      intro w hl h0 hd hh
      obtain ⟨r, c, rfl⟩ := snoc_of_ne h0
      rw [numVal_snoc]
      by_cases hr : r = []
      · subst hr
        have hc := digit_bounds (hd c (by simp))
        have : c.toNat ≠ 48 := fun e => hh (by simp; exact UInt8.toNat_inj.1 e)
        simp only [numVal_nil]
        omega
      · have := ih r (by simpa using hl) hr (fun x hx => hd x (by simp [hx])) (by rwa [head_append hr] at hh)
        omega
  exact key _ w rfl h0 hd hh

theorem decDigits_numVal {w : List UInt8} (h0 : w ≠ []) (hd : ∀ c ∈ w, digit c = true) (hz : w.head? = some 48 → w.length = 1) : decDigits (numVal w) = w := by
  have key : ∀ (n : Nat) (w : List UInt8), w.length = n → w ≠ [] → (∀ c ∈ w, digit c = true) → (w.head? = some 48 → w.length = 1) → decDigits (numVal w) = w := by
    intro n
    induction n with
    | zero => intro w hl h0; exact absurd (List.length_eq_zero_iff.1 hl) h0
    | succ n ih =>
      intro w hl h0 hd hz
      obtain ⟨r, c, rfl⟩ := snoc_of_ne h0
      have hdc := hd c (by simp)
      have hc := digit_bounds hdc
      rw [numVal_snoc]
      by_cases hr : r = []
      · subst hr
        simp only [numVal_nil]
        rw [decDigits_one (by omega)]
        simp only [List.nil_append]
        rw [show 48 + (10 * 0 + (c.toNat - 48)) = 48 + (c.toNat - 48) from by omega, digit_back hdc]
      · have hh : r.head? ≠ some 48 := fun e => by
          have := hz (by rw [head_append hr]; exact e)
          simp only [List.length_append, List.length_singleton] at this
          exact hr (List.length_eq_zero_iff.1 (by omega))
        have hp := numVal_pos hr (fun x hx => hd x (by simp [hx])) hh
        have hi := ih r (by simpa using hl) hr (fun x hx => hd x (by simp [hx])) (fun e => absurd e hh)
        rw [decDigits_big (by omega), show (10 * numVal r + (c.toNat - 48)) / 10 = numVal r from by omega, hi, show (10 * numVal r + (c.toNat - 48)) % 10 = c.toNat - 48 from by omega, digit_back hdc]
  exact key _ w rfl h0 hd hz

/-- strconv.Itoa gives the digits back just where there is no leading zero. -/
theorem itoa_digits {w : List UInt8} (h0 : w ≠ []) (hd : ∀ c ∈ w, digit c = true) : (decDigits (numVal w) = w) ↔ ¬ (w.head? = some 48 ∧ 1 < w.length) := by
  have h1 : 1 ≤ w.length := by
    cases w with
    | nil => exact absurd rfl h0
    | cons c r => simp
  constructor
  · rintro e ⟨hh, hl⟩
    by_cases hu : numVal w < 10
    · rw [decDigits_one hu] at e
      rw [← e] at hl
      simp at hl
    · rw [← e] at hh
      exact decDigits_head _ (by omega) hh
  · intro h
    exact decDigits_numVal h0 hd fun hh => by
      rcases Nat.lt_or_ge 1 w.length with hl | hl
      · exact absurd ⟨hh, hl⟩ h
      · omega

theorem numOk_eq (w : List UInt8) : numOk w = true ↔ w.length ≤ 13 ∧ ¬ (w.head? = some 48 ∧ 1 < w.length) ∧ numVal w ≤ 1099511627776 := by
  unfold numOk
  simp only [Bool.and_eq_true, Bool.not_eq_true', Bool.and_eq_false_iff, decide_eq_true_eq, decide_eq_false_iff_not]
  constructor
  · rintro ⟨⟨h1, h2⟩, h3⟩
    exact ⟨h1, fun ⟨a, b⟩ => h2.elim (fun h => h a) (fun h => h b), h3⟩
  · rintro ⟨h1, h2, h3⟩
    refine ⟨⟨h1, ?_⟩, h3⟩
    by_cases ha : w.head? = some 48
    · exact .inr fun hb => h2 ⟨ha, hb⟩
    · exact .inl ha

theorem nDigits_le : ∀ (k u : Nat), u < 10 ^ (k + 1) → nDigits u ≤ k + 1
  | 0, u, h => by rw [nDigits_small (by simpa using h)]; omega
  | k + 1, u, h => by
    by_cases h1 : u < 10
    · rw [nDigits_small h1]; omega
    · rw [nDigits_big h1]
      have := nDigits_le k (u / 10) (by rw [Nat.pow_succ] at h; omega)
      omega

theorem decDigits_length_le {x : Nat} (h : x ≤ 1099511627776) : (decDigits x).length ≤ 13 := by
  rw [decDigits_length]
  exact nDigits_le 12 x (by have : (10 : Nat) ^ (12 + 1) = 10000000000000 := by decide
                            omega)

theorem numOk_decDigits {x : Nat} (h : x ≤ 1099511627776) : numOk (decDigits x) = true := by
  rw [numOk_eq, numVal_decDigits]
  refine ⟨decDigits_length_le h, fun ⟨hh, hl⟩ => ?_, h⟩
  by_cases hx : x < 10
  · rw [decDigits_one hx] at hl; simp at hl
  · exact decDigits_head x (by omega) hh

theorem tok1_decDigits {x : Nat} (h : x ≤ 1099511627776) : tok1 (decDigits x) = some (2, decDigits x, x) := by
  have hall := decDigits_all x
  have hne := decDigits_ne x
  have hv := numVal_decDigits x
  have hk := numOk_decDigits h
  generalize decDigits x = w at *
  cases w with
  | nil => exact absurd rfl hne
  | cons c r =>
    have hc := hall c (List.mem_cons_self ..)
    simp only [tok1]
    rw [if_neg (by rw [digit_letter hc]; decide), if_pos hc, takeWhile_of_all digit (c :: r) hall, hk, hv, List.drop_length]
    rfl

theorem words_decDigits {x : Nat} (h : x ≤ 1099511627776) : words 0 (decDigits x) = some [⟨2, decDigits x, x, 0⟩] :=
  Own.words (t := ⟨2, decDigits x, x, 0⟩) (tok1_decDigits h) 0

theorem words_zero_decDigits (x : Nat) : words 0 (48 :: decDigits x) = none := by
  refine words_none 0 48 _ (by decide) ?_
  have hall : ∀ c ∈ 48 :: decDigits x, digit c = true := fun c hc => by
    rcases List.mem_cons.1 hc with rfl | hc
    · decide
    · exact decDigits_all x c hc
  simp only [tok1]
  rw [if_neg (by decide), if_pos (by decide), takeWhile_of_all digit _ hall, if_neg]
  intro hb
  have := (numOk_eq _).1 (Bool.and_eq_true _ _ ▸ hb).1
  refine this.2.1 ⟨rfl, ?_⟩
  have h1 := decDigits_ne x
  cases hd : decDigits x with
  | nil => exact absurd hd h1
  | cons a r => simp

/-- The law's own loop: the digits that are still to come, and those that stand. -/
theorem digits_start (n : Nat) : decDigits n = (decDigits n).dropLast ++ [UInt8.ofNat (48 + n % 10)] := by
  by_cases h : n < 10
  · rw [decDigits_one h, Nat.mod_eq_of_lt h]; rfl
  · rw [decDigits_big h]; simp
theorem digits_step {n : Nat} (h : ¬ n < 10) (s : List UInt8) : (decDigits n).dropLast ++ s = (decDigits (n / 10)).dropLast ++ (UInt8.ofNat (48 + n / 10 % 10) :: s) := by
  rw [decDigits_big h, List.dropLast_concat]
  conv => lhs; rw [digits_start (n / 10)]
  simp
theorem digits_end {n : Nat} (h : n < 10) (s : List UInt8) : (decDigits n).dropLast ++ s = s := by rw [decDigits_one h]; rfl

end Go.Proofs.YtkmdojghimfmeaaDoor.Lx
