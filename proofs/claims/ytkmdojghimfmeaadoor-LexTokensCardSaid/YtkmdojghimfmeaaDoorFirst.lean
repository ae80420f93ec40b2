/-
  The contract of first of package lex: the token at the start of a text that does not begin with white space.
-/
import Derived.Test.YtkmdojghimfmeaaDoorLexFirst
import Derived.Test.YtkmdojghimfmeaaDoorSigns
namespace Go.Proofs.YtkmdojghimfmeaaDoor
open Go.RowKit

/-- What first gives. -/
def FirstPost (l : List UInt8) (w : World) (e : Ending) (w' : World) : Prop :=
  Below w.heap.size w w' ∧ match Lx.tok1 l with
    | some (k, t, n) => e = .returned (.tuple #[.agg #[.int .i64 k, .string ⟨t.toArray⟩, .int .i64 n, .int .i64 0], .bool true])
    | none => ∃ (a : Int) (b : ByteArray) (c : Int), e = .returned (.tuple #[.agg #[.int .i64 a, .string b, .int .i64 c, .int .i64 0], .bool false])

theorem list_cons {s : ByteArray} (h0 : 0 < s.size) : s.data.toList = s[0] :: s.data.toList.drop 1 := by
  have h1 := drop_one h0
  rw [List.drop_zero] at h1
  exact h1
theorem tok1_letter {s : ByteArray} (h0 : 0 < s.size) (hl : Lx.letter s[0] = true) :
    Lx.tok1 s.data.toList = if (s.data.toList.takeWhile Lx.within).length ≤ 12 then some (1, s.data.toList.takeWhile Lx.within, 0) else none := by
  rw [list_cons h0]
  simp only [Lx.tok1]
  rw [if_pos hl]
theorem tok1_digit {s : ByteArray} (h0 : 0 < s.size) (hl : Lx.letter s[0] = false) (hd : Lx.digit s[0] = true) :
    Lx.tok1 s.data.toList = if (Lx.numOk (s.data.toList.takeWhile Lx.digit) && !Lx.follows (s.data.toList.drop (s.data.toList.takeWhile Lx.digit).length)) = true then some (2, s.data.toList.takeWhile Lx.digit, Lx.numVal (s.data.toList.takeWhile Lx.digit)) else none := by
  rw [list_cons h0]
  simp only [Lx.tok1]
  rw [if_neg (by rw [hl]; decide), if_pos hd]
theorem tok1_sign {s : ByteArray} (h0 : 0 < s.size) (hl : Lx.letter s[0] = false) (hd : Lx.digit s[0] = false) :
    Lx.tok1 s.data.toList = if Lx.signLen s.data.toList = 0 then none else some (3, s.data.toList.take (Lx.signLen s.data.toList), 0) := by
  rw [list_cons h0]
  simp only [Lx.tok1]
  rw [if_neg (by rw [hl]; decide), if_neg (by rw [hd]; decide)]

theorem firstw_letter (s : ByteArray) (k : Nat) (w : World) (h0 : 0 < s.size) (hk : k ≤ s.size) (hl : Lx.letterI s[0].toNat = true)
    (hrun : ∀ W, Calls Tryd.prog 29 #[.string s, .func (.func 30) #[] #[]] W fun e w' => e = .returned (.int .i64 k) ∧ Below W.heap.size W w') :
    Calls Tryd.prog 19 #[.string s] w fun e w' => e = .returned (.tuple #[.agg #[.int .i64 1, .string (s.extract 0 k), .int .i64 0, .int .i64 0], .bool (decide ((k : Int) ≤ 12))]) ∧ Below w.heap.size w w' := by
  have HR := Lib.hid hrun
  have HL := Lib.hid hl
  clear hrun hl
  have hby : (s[0].toNat : Int) ≤ 255 := by have := s[0].toNat_lt; omega
  go_enter Tryd.func19, Tryd.ntmps19
  go_wp2_with fail
  refine (letter_any _ _).mono ?_
  rintro e w1 ⟨rfl, rfl⟩
  rw [HL.out]
  go_wp2_with fail
  refine (HR.out _).mono ?_
  rintro e w1 ⟨rfl, hb1⟩
  obtain ⟨hc1, hf1⟩ := bcell hb1
  have hz1 : w.heap.size < w1.heap.size := by have := hb1.size; simp at this; omega
  go_wp2
  refine bodyPost_ret (v := .tuple #[.agg #[.int .i64 1, .string (s.extract 0 k), .int .i64 0, .int .i64 0], .bool (decide ((k : Int) ≤ 12))]) (by simp [results, Tryd.results19, go_sem, hc1]) rfl ⟨rfl, ?_⟩
  exact below_set4 (Below.up ((Below.refl _ _).alloc (Nat.le_refl _) _) hb1)

theorem firstw_digit (s T : ByteArray) (F : Bool) (P : Int → Prop) (w : World) (h0 : 0 < s.size) (hl : Lx.letterI s[0].toNat = false) (hd : Lx.digitI s[0].toNat = true)
    (hnum : ∀ W, Below w.heap.size w W → Calls Tryd.prog 32 #[.string s] W fun e w' => ∃ n : Int, e = .returned (.tuple #[.agg #[.int .i64 2, .string T, .int .i64 n, .int .i64 0], .bool F]) ∧ P n ∧ Below W.heap.size W w') :
    Calls Tryd.prog 19 #[.string s] w fun e w' => ∃ n : Int, e = .returned (.tuple #[.agg #[.int .i64 2, .string T, .int .i64 n, .int .i64 0], .bool F]) ∧ P n ∧ Below w.heap.size w w' := by
  have HR := Lib.hid hnum
  have HL := Lib.hid hl
  have HD := Lib.hid hd
  clear hnum hl hd
  have hby : (s[0].toNat : Int) ≤ 255 := by have := s[0].toNat_lt; omega
  go_enter Tryd.func19, Tryd.ntmps19
  go_wp2_with fail
  refine (letter_any _ _).mono ?_
  rintro e w1 ⟨rfl, rfl⟩
  rw [HL.out]
  go_wp2_with fail
  refine (digit_any _ _).mono ?_
  rintro e w1 ⟨rfl, rfl⟩
  rw [HD.out]
  go_wp2_with fail
  refine (HR.out _ ((Below.refl _ _).alloc (Nat.le_refl _) _)).mono ?_
  rintro e w1 ⟨n, rfl, hP, hb1⟩
  have HP := Lib.hid hP
  clear hP
  obtain ⟨hc1, hf1⟩ := bcell hb1
  have hz1 : w.heap.size < w1.heap.size := by have := hb1.size; simp at this; omega
  go_wp2
  refine bodyPost_ret (v := .tuple #[.agg #[.int .i64 2, .string T, .int .i64 n, .int .i64 0], .bool F]) (by simp [results, Tryd.results19, go_sem, hc1]) rfl ⟨n, rfl, HP.out, ?_⟩
  exact below_set4 (Below.up ((Below.refl _ _).alloc (Nat.le_refl _) _) hb1)

/-- What the loop over the operators finds. -/
def SignPost (l : List UInt8) (w : World) (e : Ending) (w' : World) : Prop :=
  Below w.heap.size w w' ∧ ((∃ k, k < 19 ∧ (sgL k).isPrefixOf l = true ∧ (∀ j, j < k → (sgL j).isPrefixOf l = false) ∧ e = .returned (.tuple #[.agg #[.int .i64 3, .string (sgB k), .int .i64 0, .int .i64 0], .bool true])) ∨
    ((∀ j, j < 19 → (sgL j).isPrefixOf l = false) ∧ e = .returned (.tuple #[.agg #[.int .i64 0, .string ⟨#[]⟩, .int .i64 0, .int .i64 0], .bool false])))

theorem prefix_sg (k : Nat) (s : ByteArray) (w : World) : Calls Tryd.prog 34 #[.string s, .string (sgB k)] w fun e w' => e = .returned (.bool ((sgL k).isPrefixOf s.data.toList)) ∧ w = w' := by
  have h := hasPrefix_any s (sgB k) w
  rw [show (sgB k).data.toList = sgL k from data_mk _] at h
  exact h

theorem firstw_sign (s : ByteArray) (w : World) (h0 : 0 < s.size) (hl : Lx.letterI s[0].toNat = false) (hd : Lx.digitI s[0].toNat = false) :
    Calls Tryd.prog 19 #[.string s] w (SignPost s.data.toList w) := by
  have HL := Lib.hid hl
  have HD := Lib.hid hd
  clear hl hd
  have hby : (s[0].toNat : Int) ≤ 255 := by have := s[0].toNat_lt; omega
  go_enter Tryd.func19, Tryd.ntmps19
  go_wp2_with fail
  refine (letter_any _ _).mono ?_
  rintro e w1 ⟨rfl, rfl⟩
  rw [HL.out]
  go_wp2_with fail
  refine (digit_any _ _).mono ?_
  rintro e w1 ⟨rfl, rfl⟩
  rw [HD.out]
  go_wp2_with fail
  refine (signs_any _).mono ?_
  rintro e w1 ⟨rfl, hb1⟩
  obtain ⟨hc1, hf1⟩ := bcell hb1
  have hz1 : w.heap.size < w1.heap.size := by have := hb1.size; simp at this; omega
  go_wp2
  go_loop [30] (fun i => ∃ k : Nat, k ≤ 19 ∧ i = .int .i64 k ∧ ∀ j, j < k → (sgL j).isPrefixOf s.data.toList = false) (fun i => 19 - (intOf i).toNat)
  case atStart => exact ⟨0, Nat.zero_le _, rfl, fun j h => absurd h (Nat.not_lt_zero _)⟩
  case round =>
    obtain ⟨k, hk, rfl, hno⟩ := hrel
    have HN := Lib.hid hno
    clear hno
    by_cases hlt : k < 19
    · have hix := fun W => sg_index k hlt W
      cases hp : (sgL k).isPrefixOf s.data.toList with
      | true =>
        have HP := Lib.hid hp
        clear hp
        go_wp2_with (go_at_call 34; refine (prefix_sg _ _ _).mono ?_; rintro e w2 ⟨rfl, rfl⟩; rw [HP.out])
        refine bodyPost_ret (v := .tuple #[.agg #[.int .i64 3, .string (sgB k), .int .i64 0, .int .i64 0], .bool true]) (by simp [results, Tryd.results19, go_sem, hc1]) rfl ⟨?_, .inl ⟨k, hlt, HP.out, HN.out, rfl⟩⟩
        exact below_set4 (Below.up ((Below.refl _ _).alloc (Nat.le_refl _) _) hb1)
      | false =>
        have HP := Lib.hid hp
        clear hp
        go_wp2_with (go_at_call 34; refine (prefix_sg _ _ _).mono ?_; rintro e w2 ⟨rfl, rfl⟩; rw [HP.out])
        go_round
        case rel =>
          refine ⟨k + 1, by omega, by go_num, fun j hj => ?_⟩
          rcases Nat.lt_or_ge j k with h | h
          · exact HN.out j h
          · obtain rfl : j = k := by omega
            exact HP.out
        case measure => simp [intOf]; omega
    · obtain rfl : k = 19 := by omega
      go_wp2
      refine bodyPost_ret (v := .tuple #[.agg #[.int .i64 0, .string ⟨#[]⟩, .int .i64 0, .int .i64 0], .bool false]) (by simp [results, Tryd.results19, go_sem, hc1]) rfl ⟨?_, .inr ⟨HN.out, rfl⟩⟩
      exact below_set4 (Below.up ((Below.refl _ _).alloc (Nat.le_refl _) _) hb1)

theorem first_any (s : ByteArray) (w : World) (hs : s.size ≤ 3000) (G : Glob w) (h0 : 0 < s.size) : Calls Tryd.prog 19 #[.string s] w (FirstPost s.data.toList w) := by
  cases hl : Lx.letter s[0] with
  | true =>
    have hle := Lx.takeWhile_length_le Lx.within s.data.toList
    have htk := Lx.takeWhile_take Lx.within s.data.toList
    refine (firstw_letter s _ w h0 hle (by rw [← letter_I]; exact hl) (fun W => run_within s W)).mono ?_
    rintro e w' ⟨rfl, hb⟩
    refine ⟨hb, ?_⟩
    rw [tok1_letter h0 hl]
    rw [extract_take, htk]
    by_cases h12 : (s.data.toList.takeWhile Lx.within).length ≤ 12
    · rw [if_pos h12, decide_eq_true (by omega)]
      rfl
    · rw [if_neg h12, decide_eq_false (by omega)]
      exact ⟨_, _, _, rfl⟩
  | false =>
    cases hd : Lx.digit s[0] with
    | true =>
      refine (firstw_digit s _ _ _ w h0 (by rw [← letter_I]; exact hl) (by rw [← digit_I]; exact hd) (fun W hB => lexnum_any s W hs (G.below hB) h0 hd)).mono ?_
      rintro e w' ⟨n, rfl, hn, hb⟩
      refine ⟨hb, ?_⟩
      rw [tok1_digit h0 hl hd]
      cases hF : (Lx.numOk (s.data.toList.takeWhile Lx.digit) && !Lx.follows (s.data.toList.drop (s.data.toList.takeWhile Lx.digit).length)) with
      | true =>
        rw [hn (by rw [Bool.and_eq_true] at hF; exact hF.1)]
        rfl
      | false => exact ⟨_, _, _, rfl⟩
    | false =>
      refine (firstw_sign s w h0 (by rw [← letter_I]; exact hl) (by rw [← digit_I]; exact hd)).mono ?_
      rintro e w' ⟨hb, hp⟩
      refine ⟨hb, ?_⟩
      rw [tok1_sign h0 hl hd]
      have hne : s.data.toList ≠ [] := by rw [list_cons h0]; simp
      rcases hp with ⟨k, hk, h1, h2, rfl⟩ | ⟨h1, rfl⟩
      · obtain ⟨h3, h4⟩ := sg_found hne hk h1 h2
        rw [if_neg h3, h4]
        rfl
      · rw [sg_none hne h1]
        exact ⟨_, _, _, rfl⟩
end Go.Proofs.YtkmdojghimfmeaaDoor
