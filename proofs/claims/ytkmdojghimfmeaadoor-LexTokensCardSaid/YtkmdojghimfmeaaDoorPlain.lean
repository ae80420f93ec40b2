/-
  What a text's tokens are, as plain functions over lists of bytes, with the laws that the six statements of the seat need of them. No program is in sight here.
-/
import Derived.Lib.AtoiAllCases
import Derived.Lib.AtoiTie
import Derived.Lib.ItoaMem
import Derived.Lib.Join
import Derived.Lib.SlTrimSet
namespace Go.Proofs.YtkmdojghimfmeaaDoor.Lx

/-! ### Bytes -/
def blank (c : UInt8) : Bool := c == 32 || c == 9 || c == 10
def letter (c : UInt8) : Bool := decide (97 ≤ c.toNat ∧ c.toNat ≤ 122) || decide (65 ≤ c.toNat ∧ c.toNat ≤ 90)
def digit (c : UInt8) : Bool := decide (48 ≤ c.toNat ∧ c.toNat ≤ 57)
def within (c : UInt8) : Bool := letter c || digit c || c == 95

theorem blank_cases {c : UInt8} (h : blank c = true) : c = 32 ∨ c = 9 ∨ c = 10 := by
  unfold blank at h
  simp only [Bool.or_eq_true, beq_iff_eq] at h
  rcases h with (h | h) | h
  · exact .inl h
  · exact .inr (.inl h)
  · exact .inr (.inr h)
theorem blank_letter {c : UInt8} (h : blank c = true) : letter c = false := by rcases blank_cases h with rfl | rfl | rfl <;> decide
theorem blank_digit {c : UInt8} (h : blank c = true) : digit c = false := by rcases blank_cases h with rfl | rfl | rfl <;> decide
theorem blank_within {c : UInt8} (h : blank c = true) : within c = false := by rcases blank_cases h with rfl | rfl | rfl <;> decide
theorem letter_blank {c : UInt8} (h : letter c = true) : blank c = false := by
  cases hb : blank c
  · rfl
  · rw [blank_letter hb] at h; cases h
theorem digit_blank {c : UInt8} (h : digit c = true) : blank c = false := by
  cases hb : blank c
  · rfl
  · rw [blank_digit hb] at h; cases h
theorem letter_within {c : UInt8} (h : letter c = true) : within c = true := by unfold within; rw [h]; rfl
theorem digit_within {c : UInt8} (h : digit c = true) : within c = true := by unfold within; rw [h]; simp
theorem digit_letter {c : UInt8} (h : digit c = true) : letter c = false := by
  unfold digit at h
  unfold letter
  have h := of_decide_eq_true h
  rw [Bool.or_eq_false_iff]
  exact ⟨decide_eq_false (by omega), decide_eq_false (by omega)⟩
theorem digit_bounds {c : UInt8} (h : digit c = true) : 48 ≤ c.toNat ∧ c.toNat ≤ 57 := of_decide_eq_true h

/-! ### Signs -/
def two (c d : UInt8) : Bool := (c == 59 && d == 59) || (c == 124 && d == 124) || (c == 38 && d == 38) || (c == 61 && d == 61) || (c == 46 && d == 91) || (c == 58 && d == 61) || (c == 45 && d == 62)
def one (c : UInt8) : Bool := c == 40 || c == 41 || c == 93 || c == 59 || c == 44 || c == 124 || c == 61 || c == 60 || c == 43 || c == 45 || c == 42 || c == 33
def signLen : List UInt8 → Nat
  | [] => 0
  | [c] => if one c then 1 else 0
  | c :: d :: _ => if two c d then 2 else if one c then 1 else 0

theorem two_blank {c d : UInt8} (h : blank d = true) : two c d = false := by
  rcases blank_cases h with rfl | rfl | rfl <;> (unfold two; simp)

/-! ### Numbers -/
def numVal (l : List UInt8) : Nat := l.foldl (fun a c => 10 * a + (c.toNat - 48)) 0
def numOk (w : List UInt8) : Bool := decide (w.length ≤ 13) && !(decide (w.head? = some 48) && decide (1 < w.length)) && decide (numVal w ≤ 1099511627776)
def follows (l : List UInt8) : Bool := match l with
  | [] => false
  | c :: _ => within c

/-! ### A token, and the tokens of a text -/
structure Tok where
  kind : Nat
  text : List UInt8
  num : Nat
  pos : Nat

/-- The token at the start of a text that does not begin with white space: its kind, its spelling and its value. -/
def tok1 (l : List UInt8) : Option (Nat × List UInt8 × Nat) :=
  match l with
  | [] => none
  | c :: r =>
    if letter c then (if ((c :: r).takeWhile within).length ≤ 12 then some (1, (c :: r).takeWhile within, 0) else none)
    else if digit c then
      (if numOk ((c :: r).takeWhile digit) && !follows ((c :: r).drop ((c :: r).takeWhile digit).length) then some (2, (c :: r).takeWhile digit, numVal ((c :: r).takeWhile digit)) else none)
    else if signLen (c :: r) = 0 then none else some (3, (c :: r).take (signLen (c :: r)), 0)

def wordsF : Nat → Nat → List UInt8 → Option (List Tok)
  | 0, _, _ => some []
  | _ + 1, _, [] => some []
  | f + 1, p, c :: r =>
    if blank c then wordsF f (p + 1) r else
    match tok1 (c :: r) with
    | none => none
    | some (k, w, n) => (wordsF f (p + w.length) ((c :: r).drop w.length)).map (⟨k, w, n, p⟩ :: ·)

/-- The tokens of a text whose first byte has the offset p; none: malformed. -/
def words (p : Nat) (l : List UInt8) : Option (List Tok) := wordsF (l.length + 1) p l

theorem takeWhile_append_stop (p : UInt8 → Bool) (b : UInt8) (y : List UInt8) (h : p b = false) : ∀ x : List UInt8, (x ++ b :: y).takeWhile p = x.takeWhile p
  | [] => by simp [List.takeWhile, h]
  | c :: r => by
    simp only [List.cons_append, List.takeWhile_cons]
    rw [takeWhile_append_stop p b y h r]
theorem takeWhile_length_le (p : UInt8 → Bool) : ∀ l : List UInt8, (l.takeWhile p).length ≤ l.length
  | [] => Nat.le_refl _
  | c :: r => by
    simp only [List.takeWhile_cons]
    split
    · have := takeWhile_length_le p r; simp; omega
    · simp
theorem takeWhile_take (p : UInt8 → Bool) : ∀ l : List UInt8, l.take (l.takeWhile p).length = l.takeWhile p
  | [] => rfl
  | c :: r => by
    simp only [List.takeWhile_cons]
    split
    · simp [takeWhile_take p r]
    · simp
theorem takeWhile_self (p : UInt8 → Bool) : ∀ l : List UInt8, (l.takeWhile p).takeWhile p = l.takeWhile p
  | [] => rfl
  | c :: r => by
    simp only [List.takeWhile_cons]
    split
    · rename_i h
      simp [h, takeWhile_self p r]
    · simp
theorem takeWhile_all (p : UInt8 → Bool) : ∀ l : List UInt8, ∀ c ∈ l.takeWhile p, p c = true
  | [], c, h => by simp at h
  | a :: r, c, h => by
    simp only [List.takeWhile_cons] at h
    split at h
    · rename_i ha
      rcases List.mem_cons.1 h with rfl | h
      · exact ha
      · exact takeWhile_all p r c h
    · cases h
theorem takeWhile_of_all (p : UInt8 → Bool) : ∀ l : List UInt8, (∀ c ∈ l, p c = true) → l.takeWhile p = l
  | [], _ => rfl
  | a :: r, h => by
    simp only [List.takeWhile_cons]
    rw [if_pos (h a (List.mem_cons_self ..)), takeWhile_of_all p r fun c hc => h c (List.mem_cons_of_mem _ hc)]
theorem drop_takeWhile (p : UInt8 → Bool) : ∀ l : List UInt8, l.drop (l.takeWhile p).length = l.dropWhile p
  | [] => rfl
  | c :: r => by
    simp only [List.takeWhile_cons, List.dropWhile_cons]
    split
    · simp [drop_takeWhile p r]
    · simp

theorem signLen_le : ∀ l : List UInt8, signLen l ≤ l.length
  | [] => Nat.le_refl _
  | [c] => by simp only [signLen]; split <;> simp
  | c :: d :: r => by simp only [signLen]; split <;> (try split) <;> simp

/-- What tok1 gives is a beginning of the text, not empty. -/
theorem tok1_text {l : List UInt8} {k n : Nat} {w : List UInt8} (h : tok1 l = some (k, w, n)) : 1 ≤ w.length ∧ w.length ≤ l.length ∧ l.take w.length = w := by
  cases l with
  | nil => cases h
  | cons c r =>
    simp only [tok1] at h
    split at h
    · rename_i hc
      split at h
      · simp only [Option.some.injEq, Prod.mk.injEq] at h
        obtain ⟨_, rfl, _⟩ := h
        refine ⟨?_, takeWhile_length_le _ _, takeWhile_take _ _⟩
        simp [letter_within hc]
      · cases h
    · split at h
      · rename_i hc
        split at h
        · simp only [Option.some.injEq, Prod.mk.injEq] at h
          obtain ⟨_, rfl, _⟩ := h
          refine ⟨?_, takeWhile_length_le _ _, takeWhile_take _ _⟩
          simp [hc]
        · cases h
      · split at h
        · cases h
        · rename_i h0
          simp only [Option.some.injEq, Prod.mk.injEq] at h
          obtain ⟨_, rfl, _⟩ := h
          have h1 := signLen_le (c :: r)
          have h2 : ((c :: r).take (signLen (c :: r))).length = signLen (c :: r) := by rw [List.length_take]; omega
          rw [h2]
          exact ⟨by omega, h1, rfl⟩

/-! ### words, unfolded -/
theorem wordsF_more : ∀ (f g p : Nat) (l : List UInt8), l.length < f → l.length < g → wordsF f p l = wordsF g p l
  | 0, _, _, l, h, _ => by omega
  | _ + 1, 0, _, l, _, h => by omega
  | f + 1, g + 1, p, [], _, _ => rfl
  | f + 1, g + 1, p, c :: r, h1, h2 => by
    simp only [List.length_cons] at h1 h2
    simp only [wordsF]
    split
    · exact wordsF_more f g _ r (by omega) (by omega)
    · cases ht : tok1 (c :: r) with
      | none => rfl
      | some x =>
        obtain ⟨k, w, n⟩ := x
        have := tok1_text ht
        simp only [List.length_cons] at this
        simp only []
        rw [wordsF_more f g _ ((c :: r).drop w.length) (by simp; omega) (by simp; omega)]

theorem words_nil (p : Nat) : words p [] = some [] := rfl
theorem words_blank (p : Nat) (c : UInt8) (r : List UInt8) (h : blank c = true) : words p (c :: r) = words (p + 1) r := by
  unfold words
  rw [show (c :: r).length + 1 = (r.length + 1) + 1 from by simp]
  simp only [wordsF]
  rw [if_pos h]
theorem words_none (p : Nat) (c : UInt8) (r : List UInt8) (h : blank c = false) (ht : tok1 (c :: r) = none) : words p (c :: r) = none := by
  unfold words
  rw [show (c :: r).length + 1 = (r.length + 1) + 1 from by simp]
  simp only [wordsF]
  rw [if_neg (by rw [h]; decide), ht]
theorem words_some (p : Nat) (c : UInt8) (r : List UInt8) (h : blank c = false) {k n : Nat} {w : List UInt8} (ht : tok1 (c :: r) = some (k, w, n)) :
    words p (c :: r) = (words (p + w.length) ((c :: r).drop w.length)).map (⟨k, w, n, p⟩ :: ·) := by
  have h1 := tok1_text ht
  unfold words
  rw [show (c :: r).length + 1 = (r.length + 1) + 1 from by simp]
  simp only [wordsF]
  rw [if_neg (by rw [h]; decide), ht]
  simp only []
  rw [wordsF_more _ (((c :: r).drop w.length).length + 1) _ _ (by simp at h1 ⊢; omega) (by omega)]

/-- The steps of words, as an induction. -/
theorem words_induct {P : Nat → List UInt8 → Prop} (h0 : ∀ p, P p []) (h1 : ∀ p c r, blank c = true → P (p + 1) r → P p (c :: r))
    (h2 : ∀ p c r, blank c = false → tok1 (c :: r) = none → P p (c :: r))
    (h3 : ∀ p c r k w n, blank c = false → tok1 (c :: r) = some (k, w, n) → P (p + w.length) ((c :: r).drop w.length) → P p (c :: r)) : ∀ p l, P p l := by
  have key : ∀ (m : Nat) (l : List UInt8) (p : Nat), l.length ≤ m → P p l := by
    intro m
    induction m with
    | zero =>
      intro l p hl
      cases l with
      | nil => exact h0 p
      | cons c r => simp at hl
    | succ m ih =>
      intro l p hl
      cases l with
      | nil => exact h0 p
      | cons c r =>
        simp only [List.length_cons] at hl
        cases hb : blank c with
        | true => exact h1 p c r hb (ih r _ (by omega))
        | false =>
          cases ht : tok1 (c :: r) with
          | none => exact h2 p c r hb ht
          | some x =>
            obtain ⟨k, w, n⟩ := x
            have := tok1_text ht
            exact h3 p c r k w n hb ht (ih _ _ (by simp; omega))
  exact fun p l => key l.length l p (Nat.le_refl _)

/-- White space in front is passed over. -/
theorem words_dropWhile (p : Nat) (l : List UInt8) : words p l = words (p + (l.takeWhile blank).length) (l.dropWhile blank) := by
  induction l generalizing p with
  | nil => rfl
  | cons c r ih =>
    cases hb : blank c with
    | true =>
      rw [words_blank p c r hb, ih]
      simp only [List.takeWhile_cons, List.dropWhile_cons, hb, if_true, List.length_cons]
      rw [show p + 1 + (r.takeWhile blank).length = p + ((r.takeWhile blank).length + 1) from by omega]
    | false => simp [hb]

/-! ### A token does not look beyond white space -/
theorem signLen_append_blank {x : List UInt8} (hx : x ≠ []) {b : UInt8} (y : List UInt8) (hb : blank b = true) : signLen (x ++ b :: y) = signLen x := by
  match x, hx with
  | [c], _ => simp [signLen, two_blank hb]
  | c :: d :: r, _ => simp [signLen]

theorem follows_append_blank (x : List UInt8) {b : UInt8} (y : List UInt8) (hb : blank b = true) : follows (x ++ b :: y) = follows x := by
  cases x with
  | nil => exact blank_within hb
  | cons c r => rfl

theorem tok1_append_blank {x : List UInt8} (hx : x ≠ []) {b : UInt8} (y : List UInt8) (hb : blank b = true) : tok1 (x ++ b :: y) = tok1 x := by
  cases x with
  | nil => exact absurd rfl hx
  | cons c r =>
    have e1 := takeWhile_append_stop within b y (blank_within hb) (c :: r)
    have e2 := takeWhile_append_stop digit b y (blank_digit hb) (c :: r)
    have e3 := signLen_append_blank (x := c :: r) (by simp) y hb
    have e4 : (c :: r ++ b :: y).drop ((c :: r).takeWhile digit).length = (c :: r).drop ((c :: r).takeWhile digit).length ++ b :: y :=
      List.drop_append_of_le_length (takeWhile_length_le _ _)
    have e5 := follows_append_blank ((c :: r).drop ((c :: r).takeWhile digit).length) y hb
    have e6 : (c :: r ++ b :: y).take (signLen (c :: r)) = (c :: r).take (signLen (c :: r)) := List.take_append_of_le_length (signLen_le _)
    simp only [List.cons_append] at e1 e2 e3 e4 e5 e6
    simp only [tok1, List.cons_append]
    rw [e1, e2, e3, e4, e5, e6]

theorem signLen_take {l : List UInt8} (h : signLen l ≠ 0) : signLen (l.take (signLen l)) = signLen l := by
  match l with
  | [] => exact absurd rfl h
  | [c] =>
    cases hc : one c with
    | true => simp [signLen, hc]
    | false => simp [signLen, hc] at h
  | c :: d :: r =>
    cases hc : two c d with
    | true => simp [signLen, hc]
    | false =>
      cases hd : one c with
      | true => simp [signLen, hc, hd]
      | false => simp [signLen, hc, hd] at h

/-- A token's spelling alone is that token. -/
theorem tok1_own {l : List UInt8} {k n : Nat} {w : List UInt8} (h : tok1 l = some (k, w, n)) : tok1 w = some (k, w, n) := by
  cases l with
  | nil => cases h
  | cons c r =>
    simp only [tok1] at h
    split at h
    · rename_i hc
      split at h
      · rename_i h12
        simp only [Option.some.injEq, Prod.mk.injEq] at h
        obtain ⟨rfl, rfl, rfl⟩ := h
        have e : (c :: r).takeWhile within = c :: r.takeWhile within := by simp [letter_within hc]
        have e2 : (c :: r.takeWhile within).takeWhile within = c :: r.takeWhile within := by rw [← e]; exact takeWhile_self _ _
        rw [e] at h12 ⊢
        simp only [tok1]
        rw [if_pos hc, e2, if_pos h12]
      · cases h
    · rename_i hl
      split at h
      · rename_i hc
        split at h
        · rename_i hok
          simp only [Option.some.injEq, Prod.mk.injEq] at h
          obtain ⟨rfl, rfl, rfl⟩ := h
          have e : (c :: r).takeWhile digit = c :: r.takeWhile digit := by simp [hc]
          have e2 : (c :: r.takeWhile digit).takeWhile digit = c :: r.takeWhile digit := by rw [← e]; exact takeWhile_self _ _
          have hok' := (Bool.and_eq_true _ _ ▸ hok).1
          rw [e] at hok' ⊢
          simp only [tok1]
          rw [if_neg hl, if_pos hc, e2, hok', List.drop_length]
          rfl
        · cases h
      · rename_i hd
        split at h
        · cases h
        · rename_i h0
          simp only [Option.some.injEq, Prod.mk.injEq] at h
          obtain ⟨rfl, rfl, rfl⟩ := h
          have h1 := signLen_take h0
          obtain ⟨s, hs⟩ : ∃ s, signLen (c :: r) = s + 1 := ⟨signLen (c :: r) - 1, by omega⟩
          rw [hs, List.take_succ_cons] at h1 ⊢
          simp only [tok1]
          rw [if_neg hl, if_neg hd, h1, if_neg (by omega)]
          rw [List.take_of_length_le (by simp; omega)]

/-- The head of a token is no white space. -/
theorem tok1_head {l : List UInt8} {k n : Nat} {c : UInt8} {r : List UInt8} (h : tok1 l = some (k, c :: r, n)) : ∃ r', l = c :: r' := by
  have h1 := (tok1_text h).2.2
  cases l with
  | nil => simp at h1
  | cons a r' =>
    simp only [List.length_cons, List.take_succ_cons, List.cons.injEq] at h1
    exact ⟨r', by rw [h1.1]⟩

theorem tok1_blank {c : UInt8} {r : List UInt8} (h : blank c = true) : tok1 (c :: r) = none := by
  simp only [tok1]
  rw [if_neg (by rw [blank_letter h]; decide), if_neg (by rw [blank_digit h]; decide), if_pos]
  rcases blank_cases h with rfl | rfl | rfl <;> (cases r <;> simp [signLen, one, two])

theorem tok1_not_blank {c : UInt8} {r : List UInt8} {x : Nat × List UInt8 × Nat} (h : tok1 (c :: r) = some x) : blank c = false := by
  cases hb : blank c with
  | false => rfl
  | true => rw [tok1_blank hb] at h; cases h

/-! ### Shifting -/
def shift (d : Nat) (t : Tok) : Tok := ⟨t.kind, t.text, t.num, t.pos + d⟩

theorem words_shift (d p : Nat) (l : List UInt8) : words (p + d) l = (words p l).map (·.map (shift d)) := by
  refine words_induct (P := fun p l => words (p + d) l = (words p l).map (·.map (shift d))) (fun p => rfl) (fun p c r hb ih => ?_) (fun p c r hb ht => ?_) (fun p c r k w n hb ht ih => ?_) p l
  · rw [words_blank _ _ _ hb, words_blank _ _ _ hb, show p + d + 1 = p + 1 + d from by omega, ih]
  · rw [words_none _ _ _ hb ht, words_none _ _ _ hb ht]; rfl
  · rw [words_some _ _ _ hb ht, words_some _ _ _ hb ht, show p + d + w.length = p + w.length + d from by omega, ih]
    cases words (p + w.length) ((c :: r).drop w.length) <;> rfl

/-! ### Two texts joined by white space -/
theorem words_concat (p : Nat) (a : List UInt8) (b : UInt8) (y : List UInt8) (hb : blank b = true) :
    words p (a ++ b :: y) = match words p a with
      | none => none
      | some ts => (words (p + a.length + 1) y).map (ts ++ ·) := by
  refine words_induct (P := fun p a => words p (a ++ b :: y) = match words p a with | none => none | some ts => (words (p + a.length + 1) y).map (ts ++ ·)) (fun p => ?_) (fun p c r hc ih => ?_) (fun p c r hc ht => ?_) (fun p c r k w n hc ht ih => ?_) p a
  · rw [words_nil]
    simp only [List.nil_append, List.length_nil, Nat.add_zero]
    rw [words_blank _ _ _ hb]
    cases words (p + 1) y <;> rfl
  · simp only [List.cons_append, List.length_cons]
    rw [words_blank _ _ _ hc, words_blank _ _ _ hc, ih, show p + 1 + r.length + 1 = p + (r.length + 1) + 1 from by omega]
  · rw [words_none _ _ _ hc ht]
    exact words_none _ _ _ hc ((tok1_append_blank (x := c :: r) (by simp) y hb).trans ht)
  · have hle := (tok1_text ht).2.1
    have e : (c :: r ++ b :: y).drop w.length = (c :: r).drop w.length ++ b :: y := List.drop_append_of_le_length hle
    have hs := words_some p c (r ++ b :: y) hc ((tok1_append_blank (x := c :: r) (by simp) y hb).trans ht)
    rw [show c :: r ++ b :: y = c :: (r ++ b :: y) from rfl] at e ⊢
    rw [hs, e, ih, words_some _ _ _ hc ht]
    have hlen : ((c :: r).drop w.length).length = (c :: r).length - w.length := List.length_drop
    cases words (p + w.length) ((c :: r).drop w.length) with
    | none => rfl
    | some ts =>
      simp only [Option.map_some]
      rw [hlen, show p + w.length + ((c :: r).length - w.length) + 1 = p + (c :: r).length + 1 from by omega]
      cases words (p + (c :: r).length + 1) y <;> rfl

theorem words_concat_both {a y : List UInt8} {b : UInt8} (hb : blank b = true) {ts us : List Tok} (ha : words 0 a = some ts) (hy : words 0 y = some us) :
    words 0 (a ++ b :: y) = some (ts ++ us.map (shift (a.length + 1))) := by
  rw [words_concat 0 a b y hb, ha]
  have h := words_shift (a.length + 1) 0 y
  rw [show 0 + (a.length + 1) = 0 + a.length + 1 from by omega] at h
  simp only []
  rw [h, hy]
  rfl
theorem words_concat_fail {a y : List UInt8} {b : UInt8} (hb : blank b = true) (h : words 0 a = none ∨ words 0 y = none) : words 0 (a ++ b :: y) = none := by
  rw [words_concat 0 a b y hb]
  cases ha : words 0 a with
  | none => rfl
  | some ts =>
    rcases h with h | h
    · rw [ha] at h; cases h
    · have hs := words_shift (a.length + 1) 0 y
      rw [show 0 + (a.length + 1) = 0 + a.length + 1 from by omega] at hs
      simp only []
      rw [hs, h]
      rfl

/-! ### Offsets -/
/-- From offset a on the tokens ts of the text l lie as they must. -/
def Lies (l : List UInt8) : Nat → List Tok → Prop
  | a, [] => ∀ k, a ≤ k → ∀ b, l[k]? = some b → blank b = true
  | a, t :: ts => a ≤ t.pos ∧ t.pos + t.text.length ≤ l.length ∧ 1 ≤ t.text.length ∧ (∀ k, a ≤ k → k < t.pos → ∀ b, l[k]? = some b → blank b = true) ∧
      (l.drop t.pos).take t.text.length = t.text ∧ Lies l (t.pos + t.text.length) ts

theorem Lies_blank {l : List UInt8} {a : Nat} {b : UInt8} (hb : l[a]? = some b) (h : blank b = true) : ∀ {ts : List Tok}, Lies l (a + 1) ts → Lies l a ts
  | [], hl => fun k hk c hc => by
    rcases Nat.eq_or_lt_of_le hk with rfl | hk
    · rw [hb] at hc; cases hc; exact h
    · exact hl k hk c hc
  | t :: ts, ⟨h1, h2, h3, h4, h5, h6⟩ => ⟨by omega, h2, h3, fun k hk hk2 c hc => by
    rcases Nat.eq_or_lt_of_le hk with rfl | hk
    · rw [hb] at hc; cases hc; exact h
    · exact h4 k hk hk2 c hc, h5, h6⟩

theorem words_lies (l : List UInt8) (p : Nat) (r : List UInt8) (hr : l.drop p = r) (hp : p ≤ l.length) : ∀ ts, words p r = some ts → Lies l p ts := by
  revert hr hp
  refine words_induct (P := fun p r => l.drop p = r → p ≤ l.length → ∀ ts, words p r = some ts → Lies l p ts) (fun p hr hp ts h => ?_) (fun p c r hb ih hr hp ts h => ?_) (fun p c r hb ht hr hp ts h => ?_) (fun p c r k w n hb ht ih hr hp ts h => ?_) p r
  · rw [words_nil] at h
    cases h
    intro k hk b hbk
    have hle : l.length ≤ p := by simpa using hr
    have : l[k]? = none := List.getElem?_eq_none (by omega)
    rw [this] at hbk
    cases hbk
  · rw [words_blank _ _ _ hb] at h
    have hlt : p < l.length := by
      rcases Nat.lt_or_ge p l.length with hlt | hge
      · exact hlt
      · rw [List.drop_eq_nil_of_le hge] at hr; cases hr
    have hc : l[p]? = some c := by
      have := List.getElem?_drop (xs := l) (i := p) (j := 0)
      rw [hr] at this
      simpa using this.symm
    refine Lies_blank hc hb (ih ?_ hlt ts h)
    rw [List.drop_add_one_eq_tail_drop, hr]
    rfl
  · rw [words_none _ _ _ hb ht] at h
    cases h
  · rw [words_some _ _ _ hb ht] at h
    have hw := tok1_text ht
    have hlen : (c :: r).length = l.length - p := by rw [← hr]; exact List.length_drop
    have hd : l.drop (p + w.length) = (c :: r).drop w.length := by rw [← hr, List.drop_drop]
    cases hx : words (p + w.length) ((c :: r).drop w.length) with
    | none => rw [hx] at h; cases h
    | some us =>
      rw [hx] at h
      simp only [Option.map_some, Option.some.injEq] at h
      subst h
      refine ⟨Nat.le_refl _, ?_, hw.1, fun k h1 h2 => absurd h2 (Nat.not_lt.2 h1), ?_, ih hd (by omega) us hx⟩
      · simp only []; omega
      · simp only []
        rw [hr]
        exact hw.2.2

/-! ### Every token is its own -/
/-- What is true of every token: its spelling alone is that token; its value lies in the range. -/
def Own (t : Tok) : Prop := tok1 t.text = some (t.kind, t.text, t.num)

theorem words_own (p : Nat) (l : List UInt8) : ∀ ts, words p l = some ts → ∀ t ∈ ts, Own t := by
  refine words_induct (P := fun p l => ∀ ts, words p l = some ts → ∀ t ∈ ts, Own t) (fun p ts h t ht => ?_) (fun p c r hb ih ts h => ?_) (fun p c r hb ht ts h => ?_) (fun p c r k w n hb ht ih ts h => ?_) p l
  · rw [words_nil] at h; cases h; cases ht
  · rw [words_blank _ _ _ hb] at h; exact ih ts h
  · rw [words_none _ _ _ hb ht] at h; cases h
  · rw [words_some _ _ _ hb ht] at h
    cases hx : words (p + w.length) ((c :: r).drop w.length) with
    | none => rw [hx] at h; cases h
    | some us =>
      rw [hx] at h
      simp only [Option.map_some, Option.some.injEq] at h
      subst h
      intro t hin
      rcases List.mem_cons.1 hin with rfl | hin
      · exact tok1_own ht
      · exact ih us hx t hin

theorem Own.words {t : Tok} (h : Own t) (p : Nat) : words p t.text = some [⟨t.kind, t.text, t.num, p⟩] := by
  unfold Own at h
  obtain ⟨h1, h2, h3⟩ := tok1_text h
  cases hw : t.text with
  | nil => rw [hw] at h1; simp at h1
  | cons c r =>
    rw [hw] at h
    rw [words_some p c r (tok1_not_blank h) h, List.drop_length, words_nil]
    rfl

theorem tok1_range {l : List UInt8} {k n : Nat} {w : List UInt8} (h : tok1 l = some (k, w, n)) : n ≤ 1099511627776 ∧ (k ≠ 2 → n = 0) ∧ 1 ≤ k ∧ k ≤ 3 := by
  cases l with
  | nil => cases h
  | cons c r =>
    simp only [tok1] at h
    split at h
    · split at h
      · simp only [Option.some.injEq, Prod.mk.injEq] at h
        omega
      · cases h
    · split at h
      · split at h
        · rename_i hok
          simp only [Option.some.injEq, Prod.mk.injEq] at h
          obtain ⟨rfl, rfl, rfl⟩ := h
          simp only [Bool.and_eq_true, numOk, decide_eq_true_eq] at hok
          exact ⟨hok.1.2, fun h => absurd rfl h, by omega, by omega⟩
        · cases h
      · split at h
        · cases h
        · simp only [Option.some.injEq, Prod.mk.injEq] at h
          omega

/-! ### The round trip -/
def texts (ts : List Tok) : List (List UInt8) := ts.map (·.text)
/-- The tokens, laid out from offset p on with one blank between each two. -/
def relay : Nat → List Tok → List Tok
  | _, [] => []
  | p, t :: ts => ⟨t.kind, t.text, t.num, p⟩ :: relay (p + t.text.length + 1) ts

theorem words_join : ∀ (p : Nat) (ts : List Tok), (∀ t ∈ ts, Own t) → words p (Lib.join (texts ts) [32]) = some (relay p ts)
  | p, [], _ => rfl
  | p, [t], h => by
    rw [show texts [t] = [t.text] from rfl, Lib.join_one]
    exact (h t (by simp)).words p
  | p, t :: u :: ts, h => by
    have e : Lib.join (texts (t :: u :: ts)) [32] = t.text ++ 32 :: Lib.join (texts (u :: ts)) [32] := by
      simp [texts, Lib.join, List.intercalate]
    rw [e, words_concat p _ 32 _ (by decide), (h t (by simp)).words p]
    simp only []
    rw [words_join _ (u :: ts) fun x hx => h x (List.mem_cons_of_mem _ hx)]
    rfl

theorem relay_texts : ∀ (p : Nat) (ts : List Tok), texts (relay p ts) = texts ts
  | _, [] => rfl
  | p, t :: ts => by
    have := relay_texts (p + t.text.length + 1) ts
    simp only [texts] at this
    simp [relay, texts, this]

/-! ### Two signs side by side -/
theorem words_two (p : Nat) (l : List UInt8) : ∀ ts, words p l = some ts → ∀ (i : Nat) t u, ts[i]? = some t → ts[i + 1]? = some u → t.kind = 3 → u.kind = 3 → u.pos = t.pos + 1 → t.text.length = 1 →
    words 0 (t.text ++ u.text) = some [⟨3, t.text, 0, 0⟩, ⟨3, u.text, 0, 1⟩] := by
  refine words_induct (P := fun p l => ∀ ts, words p l = some ts → ∀ (i : Nat) t u, ts[i]? = some t → ts[i + 1]? = some u → t.kind = 3 → u.kind = 3 → u.pos = t.pos + 1 → t.text.length = 1 →
    words 0 (t.text ++ u.text) = some [⟨3, t.text, 0, 0⟩, ⟨3, u.text, 0, 1⟩]) (fun p ts h => ?_) (fun p c r hb ih ts h => ?_) (fun p c r hb ht ts h => ?_) (fun p c r k w n hb ht ih ts h => ?_) p l
  · rw [words_nil] at h; cases h; intro i t u h1; simp at h1
  · rw [words_blank _ _ _ hb] at h; exact ih ts h
  · rw [words_none _ _ _ hb ht] at h; cases h
  · rw [words_some _ _ _ hb ht] at h
    cases hx : words (p + w.length) ((c :: r).drop w.length) with
    | none => rw [hx] at h; cases h
    | some us =>
      rw [hx] at h
      simp only [Option.map_some, Option.some.injEq] at h
      subst h
      intro i t u h1 h2 hk1 hk2 hpos hlen
      cases i with
      | succ i => exact ih us hx i t u (by simpa using h1) (by simpa using h2) hk1 hk2 hpos hlen
      | zero =>
        simp only [List.getElem?_cons_zero, Option.some.injEq] at h1
        subst h1
        simp only [] at hk1 hlen hpos
        subst hk1
        have h2' : us[0]? = some u := by simpa using h2
        cases us with
        | nil => simp at h2'
        | cons u' us' =>
          simp only [List.getElem?_cons_zero, Option.some.injEq] at h2'
          subst h2'
          obtain ⟨w0, rfl⟩ : ∃ w0, w = [w0] := by
            match w, hlen with
            | [a], _ => exact ⟨a, rfl⟩
          obtain ⟨r', hr'⟩ := tok1_head ht
          simp only [List.cons.injEq] at hr'
          obtain ⟨rfl, rfl⟩ := hr'
          simp only [List.length_singleton, List.drop_succ_cons, List.drop_zero] at hx
          -- the second token begins just behind the first
          have hown := words_own _ _ _ hx u' (List.mem_cons_self ..)
          have hu := tok1_text hown
          cases hut : u'.text with
          | nil => rw [hut] at hu; simp at hu
          | cons d ds =>
            have hr : ∃ r2, r = d :: r2 := by
              cases r with
              | nil => rw [words_nil] at hx; cases hx
              | cons a r2 =>
                cases hba : blank a with
                | true =>
                  rw [words_blank _ _ _ hba] at hx
                  have hl := words_lies (List.replicate (p + 1 + 1) 0 ++ r2) (p + 1 + 1) r2 (by simp) (by simp) _ hx
                  have := hl.1
                  omega
                | false =>
                  cases hta : tok1 (a :: r2) with
                  | none => rw [words_none _ _ _ hba hta] at hx; cases hx
                  | some x =>
                    obtain ⟨k2, w2, n2⟩ := x
                    rw [words_some _ _ _ hba hta] at hx
                    cases hy : words (p + 1 + w2.length) ((a :: r2).drop w2.length) with
                    | none => rw [hy] at hx; cases hx
                    | some vs =>
                      rw [hy] at hx
                      simp only [Option.map_some, Option.some.injEq, List.cons.injEq] at hx
                      obtain ⟨hu', -⟩ := hx
                      have e : w2 = d :: ds := by rw [← hut, ← hu']
                      rw [e] at hta
                      obtain ⟨r3, hr3⟩ := tok1_head hta
                      simp only [List.cons.injEq] at hr3
                      exact ⟨r2, by rw [hr3.1]⟩
            obtain ⟨r2, rfl⟩ := hr
            -- c stands alone before d
            have hc : letter c = false ∧ digit c = false ∧ two c d = false ∧ one c = true := by
              simp only [tok1] at ht
              split at ht
              · split at ht
                · simp at ht
                · cases ht
              · rename_i hl
                split at ht
                · split at ht
                  · simp at ht
                  · cases ht
                · rename_i hd
                  split at ht
                  · cases ht
                  · rename_i h0
                    simp only [Option.some.injEq, Prod.mk.injEq] at ht
                    have ht2 := congrArg List.length ht.2.1
                    simp only [signLen] at ht2 h0
                    refine ⟨by simpa using hl, by simpa using hd, ?_, ?_⟩
                    · cases htw : two c d with
                      | false => rfl
                      | true => rw [htw] at ht2; simp at ht2
                    · cases htw : two c d with
                      | true => rw [htw] at ht2; simp at ht2
                      | false =>
                        cases ho : one c with
                        | true => rfl
                        | false => rw [htw, ho] at h0; simp at h0
            obtain ⟨c1, c2, c3, c4⟩ := hc
            have ht0 : tok1 (c :: d :: ds) = some (3, [c], 0) := by
              simp only [tok1]
              rw [if_neg (by rw [c1]; decide), if_neg (by rw [c2]; decide)]
              simp [signLen, c3, c4]
            have hw2 := hown.words 1
            rw [hut, hk2] at hw2
            have hn0 : u'.num = 0 := (tok1_range hown).2.1 (by rw [hk2]; decide)
            rw [hn0] at hw2
            rw [List.singleton_append, words_some 0 c (d :: ds) hb ht0]
            simp only [List.length_singleton, Nat.zero_add, List.drop_succ_cons, List.drop_zero]
            rw [hw2]
            rfl

end Go.Proofs.YtkmdojghimfmeaaDoor.Lx
