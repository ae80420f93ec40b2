/-
  What the loop of Words of the reference keeps, round by round.
-/
import Derived.Test.YtkmdojghimfmeaaDoorLexWords
namespace Go.Proofs.YtkmdojghimfmeaaDoor
open Go.RowKit

theorem cls_all : ∀ n : Fin 256, let c := UInt8.ofNat n.val
    (Lx.clsI c.toNat = 1 ∧ Lx.letter c = true) ∨ (Lx.clsI c.toNat = 2 ∧ Lx.letter c = false ∧ Lx.digit c = true ∧ Lx.within c = true) ∨
    (Lx.clsI c.toNat = 3 ∧ c = 95) ∨ (Lx.clsI c.toNat = 4 ∧ Lx.blank c = true) ∨
    (Lx.clsI c.toNat = 0 ∧ Lx.blank c = false ∧ Lx.letter c = false ∧ Lx.digit c = false ∧ Lx.within c = false) := by decide +kernel
theorem cls_cases (c : UInt8) :
    (Lx.clsI c.toNat = 1 ∧ Lx.letter c = true) ∨ (Lx.clsI c.toNat = 2 ∧ Lx.letter c = false ∧ Lx.digit c = true ∧ Lx.within c = true) ∨
    (Lx.clsI c.toNat = 3 ∧ c = 95) ∨ (Lx.clsI c.toNat = 4 ∧ Lx.blank c = true) ∨
    (Lx.clsI c.toNat = 0 ∧ Lx.blank c = false ∧ Lx.letter c = false ∧ Lx.digit c = false ∧ Lx.within c = false) := by
  have h := cls_all ⟨c.toNat, c.toNat_lt⟩
  simp only [UInt8.ofNat_toNat] at h
  exact h
theorem cls_within (c : UInt8) : (Lx.within c = true → (Lx.clsI c.toNat = 1 ∨ Lx.clsI c.toNat = 2 ∨ Lx.clsI c.toNat = 3)) ∧ (Lx.within c = false → (Lx.clsI c.toNat = 4 ∨ Lx.clsI c.toNat = 0)) := by
  rcases cls_cases c with ⟨h, h1⟩ | ⟨h, _, _, h1⟩ | ⟨h, rfl⟩ | ⟨h, h1⟩ | ⟨h, _, _, _, h1⟩
  · exact ⟨fun _ => .inl h, fun e => by rw [Lx.letter_within h1] at e; cases e⟩
  · exact ⟨fun _ => .inr (.inl h), fun e => by rw [h1] at e; cases e⟩
  · exact ⟨fun _ => .inr (.inr h), fun e => by revert e; decide⟩
  · exact ⟨fun e => (by rw [Lx.blank_within h1] at e; cases e), fun _ => .inl h⟩
  · exact ⟨fun e => (by rw [h1] at e; cases e), fun _ => .inr h⟩
theorem cls_digit (c : UInt8) : (Lx.digit c = true → Lx.clsI c.toNat = 2) ∧ (Lx.digit c = false → Lx.clsI c.toNat = 0 ∨ Lx.clsI c.toNat = 1 ∨ Lx.clsI c.toNat = 3 ∨ Lx.clsI c.toNat = 4) := by
  rcases cls_cases c with ⟨h, h1⟩ | ⟨h, _, h1, _⟩ | ⟨h, rfl⟩ | ⟨h, h1⟩ | ⟨h, _, _, h1, _⟩
  · refine ⟨fun e => ?_, fun _ => .inr (.inl h)⟩
    rw [Lx.digit_letter e] at h1; cases h1
  · exact ⟨fun _ => h, fun e => by rw [h1] at e; cases e⟩
  · exact ⟨fun e => (by revert e; decide), fun _ => .inr (.inr (.inl h))⟩
  · exact ⟨fun e => (by rw [Lx.blank_digit h1] at e; cases e), fun _ => .inr (.inr (.inr h))⟩
  · exact ⟨fun e => (by rw [h1] at e; cases e), fun _ => .inl h⟩

/-- The loop's state. -/
structure Sr (s : ByteArray) (base : Nat) (w wr : World) (v : Value) (done : List Lx.Tok) (p : Nat) : Prop where
  own : wr.ownsRow base 30 4 v done.length (tokCells done)
  below : Below w.heap.size w wr
  few : done.length ≤ p
  all : Lx.words 0 s.data.toList = (Lx.words p (s.data.toList.drop p)).map (done ++ ·)

section
variable {s : ByteArray} {base : Nat} {w wr : World} {v : Value} {done : List Lx.Tok} {p : Nat}
theorem Sr.start (s : ByteArray) (base : Nat) (w : World) : Sr s base w w (.slice none 0 0) [] 0 :=
  ⟨World.ownsRow_nil _ _ _ _, Below.refl _ _, Nat.le_refl _, by rw [List.drop_zero]; cases Lx.words 0 s.data.toList <;> rfl⟩
theorem Sr.last (h : Sr s base w wr v done p) (hp : s.size ≤ p) : Lx.words 0 s.data.toList = some done := by
  rw [h.all, List.drop_eq_nil_of_le (by exact hp), Lx.words_nil]
  simp
theorem Sr.skip (h : Sr s base w wr v done p) (hp : p < s.size) (hb : Lx.blank s[p] = true) : Sr s base w wr v done (p + 1) :=
  ⟨h.own, h.below, Nat.le_succ_of_le h.few, by rw [h.all, drop_one hp, Lx.words_blank _ _ _ hb]⟩
theorem Sr.fail (h : Sr s base w wr v done p) (hp : p < s.size) (hb : Lx.blank s[p] = false) (ht : Lx.tok1 (s.data.toList.drop p) = none) : Lx.words 0 s.data.toList = none := by
  rw [h.all]
  rw [drop_one hp] at ht ⊢
  rw [Lx.words_none _ _ _ hb ht]
  rfl
theorem Sr.push (h : Sr s base w wr v done p) (hp : p < s.size) (hb : Lx.blank s[p] = false) {k n : Nat} {t : List UInt8} (ht : Lx.tok1 (s.data.toList.drop p) = some (k, t, n)) {w4 : World} {v' : Value}
    (own : w4.ownsRow base 30 4 v' (done.length + 1) (tokCells done ++ [.int .i64 k, .string ⟨t.toArray⟩, .int .i64 n, .int .i64 p])) (below : Below w.heap.size w w4) :
    Sr s base w w4 v' (done ++ [⟨k, t, n, p⟩]) (p + t.length) := by
  have h1 := (Lx.tok1_text ht).1
  have hf := h.few
  refine ⟨?_, below, ?_, ?_⟩
  · rw [tokCells_snoc, List.length_append]
    exact own
  · rw [List.length_append]; simp only [List.length_singleton]; omega
  · rw [h.all]
    rw [drop_one hp] at ht
    conv => lhs; rw [drop_one hp]
    rw [Lx.words_some _ _ _ hb ht, ← drop_one hp, List.drop_drop]
    cases Lx.words (p + t.length) (s.data.toList.drop (p + t.length)) with
    | none => rfl
    | some ts => simp
end

theorem tok1_letterL {s : ByteArray} {p : Nat} (hp : p < s.size) (hl : Lx.letter s[p] = true) :
    Lx.tok1 (s.data.toList.drop p) = if ((s.data.toList.drop p).takeWhile Lx.within).length ≤ 12 then some (1, (s.data.toList.drop p).takeWhile Lx.within, 0) else none := by
  rw [drop_one hp]
  simp only [Lx.tok1]
  rw [if_pos hl]
theorem tok1_digitL {s : ByteArray} {p : Nat} (hp : p < s.size) (hl : Lx.letter s[p] = false) (hd : Lx.digit s[p] = true) :
    Lx.tok1 (s.data.toList.drop p) = if (Lx.numOk ((s.data.toList.drop p).takeWhile Lx.digit) && !Lx.follows ((s.data.toList.drop p).drop ((s.data.toList.drop p).takeWhile Lx.digit).length)) = true then some (2, (s.data.toList.drop p).takeWhile Lx.digit, Lx.numVal ((s.data.toList.drop p).takeWhile Lx.digit)) else none := by
  rw [drop_one hp]
  simp only [Lx.tok1]
  rw [if_neg (by rw [hl]; decide), if_pos hd]
theorem tok1_signL {s : ByteArray} {p : Nat} (hp : p < s.size) (hl : Lx.letter s[p] = false) (hd : Lx.digit s[p] = false) :
    Lx.tok1 (s.data.toList.drop p) = if Lx.signLen (s.data.toList.drop p) = 0 then none else some (3, (s.data.toList.drop p).take (Lx.signLen (s.data.toList.drop p)), 0) := by
  rw [drop_one hp]
  simp only [Lx.tok1]
  rw [if_neg (by rw [hl]; decide), if_neg (by rw [hd]; decide)]
theorem signLen_95 (r : List UInt8) : Lx.signLen (95 :: r) = 0 := by
  cases r with
  | nil => rfl
  | cons d r => simp [Lx.signLen, Lx.two, Lx.one]
theorem tok1_95 {s : ByteArray} {p : Nat} (hp : p < s.size) (h : s[p] = 95) : Lx.tok1 (s.data.toList.drop p) = none := by
  rw [tok1_signL hp (by rw [h]; decide) (by rw [h]; decide), if_pos]
  rw [drop_one hp, h]
  exact signLen_95 _

theorem signLen_le' {s : ByteArray} {p : Nat} (_hp : p < s.size) : Lx.signLen (s.data.toList.drop p) ≤ s.size - p := by
  have h := Lx.signLen_le (s.data.toList.drop p)
  rw [List.length_drop] at h
  exact h
theorem extract_eq {s : ByteArray} {p n : Nat} : s.extract p (p + n) = ⟨((s.data.toList.drop p).take n).toArray⟩ := by
  rw [← mk_data (s.extract p (p + n)), Lib.extract_data, show p + n - p = n from by omega]

theorem Sr.push_sign {s : ByteArray} {base : Nat} {w wr w4 : World} {v v' : Value} {done : List Lx.Tok} {p k n m : Nat} (h : Sr s base w wr v done p) (hp : p < s.size) (hb : Lx.blank s[p] = false)
    (ht : Lx.tok1 (s.data.toList.drop p) = some (k, (s.data.toList.drop p).take n, m)) (hn : n ≤ s.size - p)
    (own : w4.ownsRow base 30 4 v' (done.length + 1) (tokCells done ++ [.int .i64 k, .string (s.extract p (p + n)), .int .i64 m, .int .i64 p])) (below : Below w.heap.size w w4) :
    Sr s base w w4 v' (done ++ [⟨k, (s.data.toList.drop p).take n, m, p⟩]) (p + n) := by
  rw [extract_eq] at own
  have h1 := h.push hp hb ht own below
  have hl : ((s.data.toList.drop p).take n).length = n := by
    rw [List.length_take, List.length_drop]
    show min n (s.size - p) = n
    omega
  rw [hl] at h1
  exact h1
theorem takeWhile_stop (P : UInt8 → Bool) : ∀ (l : List UInt8) (c : UInt8), l[(l.takeWhile P).length]? = some c → P c = false
  | [], c, h => by simp at h
  | a :: r, c, h => by
    simp only [List.takeWhile_cons] at h
    split at h
    · exact takeWhile_stop P r c (by simpa using h)
    · rename_i ha
      simp at h
      subst h
      simpa using ha
theorem cls_other {c : UInt8} (hd : Lx.digit c = false) (hw : Lx.within c = true) : Lx.clsI c.toNat = 1 ∨ Lx.clsI c.toNat = 3 := by
  rcases cls_cases c with ⟨h, _⟩ | ⟨_, _, h1, _⟩ | ⟨h, _⟩ | ⟨_, h1⟩ | ⟨_, _, _, _, h1⟩
  · exact .inl h
  · rw [hd] at h1; cases h1
  · exact .inr h
  · rw [Lx.blank_within h1] at hw; cases hw
  · rw [hw] at h1; cases h1
/-- The inner loop's end: as many bytes as the longest beginning that satisfies the test. -/
theorem run_end {s : ByteArray} {p m : Nat} (P : UInt8 → Bool) (hp : p ≤ m) (hm : m ≤ s.size) (hall : ∀ j c, p ≤ j → j < m → s.data.toList[j]? = some c → P c = true) (hend : ∀ c, s.data.toList[m]? = some c → P c = false) :
    m = p + ((s.data.toList.drop p).takeWhile P).length := by
  have h := takeWhile_len P (s.data.toList.drop p) (m - p) (fun j c hj hc => hall (p + j) c (by omega) (by omega) (by rw [← hc, List.getElem?_drop])) (by rw [List.length_drop]; show m - p ≤ s.size - p; omega)
    (fun c hc => hend c (by rw [← hc, List.getElem?_drop]; congr 1; omega))
  omega
theorem nextByte {s : ByteArray} {p n : Nat} (h : p + n < s.size) : Lx.follows ((s.data.toList.drop p).drop n) = Lx.within s[p + n] := by
  rw [List.drop_drop, drop_one h]
  rfl
theorem nextByteM {s : ByteArray} {p n M : Nat} (hM : M = p + n) (h : M < s.size) : Lx.follows ((s.data.toList.drop p).drop n) = Lx.within s[M] := by
  subst hM
  exact nextByte h
theorem nextNone {s : ByteArray} {p n : Nat} (h : ¬ p + n < s.size) : Lx.follows ((s.data.toList.drop p).drop n) = false := by
  rw [List.drop_drop, List.drop_eq_nil_of_le (by show s.size ≤ p + n; omega)]
  rfl
end Go.Proofs.YtkmdojghimfmeaaDoor
