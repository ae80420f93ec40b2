/-
  The contracts of number, signs and first of package lex: the token at the start of a text.
-/
import Derived.Test.YtkmdojghimfmeaaDoorLexNum
namespace Go.Proofs.YtkmdojghimfmeaaDoor
open Go.RowKit

theorem extract_take (s : ByteArray) (k : Nat) : (s.extract 0 k) = ⟨(s.data.toList.take k).toArray⟩ := by
  rw [← mk_data (s.extract 0 k), Lib.extract_data]
  rfl
theorem toList_extract_take (s : ByteArray) (k : Nat) : (s.extract 0 k).data.toList = s.data.toList.take k := by rw [extract_take, data_mk]

/-- What number gives. -/
def NumPost (l : List UInt8) (w : World) (e : Ending) (w' : World) : Prop :=
  ∃ n : Int, e = .returned (.tuple #[.agg #[.int .i64 2, .string ⟨(l.takeWhile Lx.digit).toArray⟩, .int .i64 n, .int .i64 0], .bool (Lx.numOk (l.takeWhile Lx.digit) && !Lx.follows (l.drop (l.takeWhile Lx.digit).length))]) ∧
    (Lx.numOk (l.takeWhile Lx.digit) = true → n = Lx.numVal (l.takeWhile Lx.digit)) ∧ Below w.heap.size w w'

theorem numOk_false_long {w : List UInt8} (h : 13 < w.length) : Lx.numOk w = false := by
  cases h1 : Lx.numOk w with
  | false => rfl
  | true => rw [Lx.numOk_eq] at h1; omega
theorem numOk_false_big {w : List UInt8} (h : 1099511627776 < Lx.numVal w) : Lx.numOk w = false := by
  cases h1 : Lx.numOk w with
  | false => rfl
  | true => rw [Lx.numOk_eq] at h1; omega
theorem numOk_false_zero {w : List UInt8} (h0 : w ≠ []) (hd : ∀ c ∈ w, Lx.digit c = true) (h : Lib.decDigits (Lx.numVal w) ≠ w) : Lx.numOk w = false := by
  cases h1 : Lx.numOk w with
  | false => rfl
  | true => rw [Lx.numOk_eq] at h1; exact absurd ((Lx.itoa_digits h0 hd).2 h1.2.1) h
theorem numOk_true {w : List UInt8} (h0 : w ≠ []) (hd : ∀ c ∈ w, Lx.digit c = true) (h13 : w.length ≤ 13) (hb : Lx.numVal w ≤ 1099511627776) (h : Lib.decDigits (Lx.numVal w) = w) : Lx.numOk w = true := by
  rw [Lx.numOk_eq]
  exact ⟨h13, (Lx.itoa_digits h0 hd).1 h, hb⟩

theorem lexnum_any (s : ByteArray) (w : World) (hs : s.size ≤ 3000) (G : Glob w) (h0 : 0 < s.size) (hd0 : Lx.digit s[0] = true) :
    Calls Tryd.prog 32 #[.string s] w (NumPost s.data.toList w) := by
  have hrun := fun W => run_digit s W
  have hall := Lx.takeWhile_all Lx.digit s.data.toList
  have htake := Lx.takeWhile_take Lx.digit s.data.toList
  have hle := Lx.takeWhile_length_le Lx.digit s.data.toList
  have hne : s.data.toList.takeWhile Lx.digit ≠ [] := by
    have h1 := drop_one h0
    rw [List.drop_zero] at h1
    rw [h1]
    simp [hd0]
  unfold NumPost
  generalize hT : s.data.toList.takeWhile Lx.digit = T at *
  obtain ⟨k, hk⟩ : ∃ k, k = T.length := ⟨_, rfl⟩
  rw [← hk] at hrun htake hle ⊢
  have hle' : k ≤ s.size := hle
  have hfe : (s.extract 0 k).data.toList = T := by rw [toList_extract_take, htake]
  have hse : (⟨T.toArray⟩ : ByteArray) = s.extract 0 k := by rw [extract_take, htake]
  have htl : (s.extract 0 k).toList = T := by rw [toList_eq, hfe]
  have hA := Lx.atoi_digits hne hall
  rw [← hk] at hA
  by_cases hks : k < s.size
  · -- more text follows
    have hfol : Lx.follows (s.data.toList.drop k) = Lx.withinI s[k].toNat := by rw [drop_one hks, ← within_I]; rfl
    rw [hse, hfol]
    rcases hA with ⟨u, hu, hu63, huv⟩ | ⟨hu, h13⟩
    · by_cases h13 : k ≤ 13
      · obtain rfl := huv h13
        by_cases hmax : ((Lx.numVal T : Nat) : Int) ≤ 1099511627776
        · by_cases hit : Lib.decDigits (Lx.numVal T) = T
          · have hok := numOk_true hne hall (by omega) (by omega) hit
            rw [hok]
            refine (lexnum_Ef s k w G hks h13 hrun _ (by rw [hfe]; exact hu) hmax (by rw [hit]; exact hse) _ rfl).mono ?_
            rintro e w' ⟨rfl, hb⟩
            exact ⟨_, rfl, fun _ => rfl, hb⟩
          · have hok := numOk_false_zero hne hall hit
            rw [hok]
            refine (lexnum_Df s k w G hks h13 hrun _ (by rw [hfe]; exact hu) hmax (by rw [htl]; exact beq_eq_false_iff_ne.2 hit) _ rfl).mono ?_
            rintro e w' ⟨rfl, hb⟩
            exact ⟨_, rfl, (by intro h; cases h), hb⟩
        · have hok := numOk_false_big (w := T) (by omega)
          rw [hok]
          refine (lexnum_Cf s k w hks h13 hrun _ (by rw [hfe]; exact hu) (by omega) _ rfl).mono ?_
          rintro e w' ⟨rfl, hb⟩
          exact ⟨_, rfl, (by intro h; cases h), hb⟩
      · have hok := numOk_false_long (w := T) (by omega)
        rw [hok]
        refine (lexnum_Bf s k w hs hks (by omega) hrun _ (by rw [hfe]; exact hu) _ rfl).mono ?_
        rintro e w' ⟨rfl, hb⟩
        exact ⟨_, rfl, (by intro h; cases h), hb⟩
    · have hok := numOk_false_long (w := T) (by omega)
      rw [hok]
      refine (lexnum_Af s k w hs G hks hrun (by rw [hfe]; exact hu) _ rfl).mono ?_
      rintro e w' ⟨n, rfl, hb⟩
      exact ⟨_, rfl, (by intro h; cases h), hb⟩
  · -- the digits are all
    have hke : k = s.size := by omega
    have hTs : s.data.toList = T := by rw [← htake]; exact (List.take_of_length_le (by show s.size ≤ k; omega)).symm
    have hss : (⟨T.toArray⟩ : ByteArray) = s := by rw [← hTs]
    have htl2 : s.toList = T := by rw [toList_eq, hTs]
    have hfol : Lx.follows (s.data.toList.drop k) = false := by rw [List.drop_eq_nil_of_le (by show s.size ≤ k; omega)]; rfl
    rw [hss, hfol]
    rcases hA with ⟨u, hu, hu63, huv⟩ | ⟨hu, h13⟩
    · by_cases h13 : k ≤ 13
      · obtain rfl := huv h13
        by_cases hmax : ((Lx.numVal T : Nat) : Int) ≤ 1099511627776
        · by_cases hit : Lib.decDigits (Lx.numVal T) = T
          · have hok := numOk_true hne hall (by omega) (by omega) hit
            rw [hok]
            refine (lexnum_Ee s k w G hke h13 hrun _ (by rw [hTs]; exact hu) hmax (by rw [hit]; exact hss)).mono ?_
            rintro e w' ⟨rfl, hb⟩
            exact ⟨_, rfl, fun _ => rfl, hb⟩
          · have hok := numOk_false_zero hne hall hit
            rw [hok]
            refine (lexnum_De s k w G hke h13 hrun _ (by rw [hTs]; exact hu) hmax (by rw [htl2]; exact beq_eq_false_iff_ne.2 hit)).mono ?_
            rintro e w' ⟨rfl, hb⟩
            exact ⟨_, rfl, (by intro h; cases h), hb⟩
        · have hok := numOk_false_big (w := T) (by omega)
          rw [hok]
          refine (lexnum_Ce s k w hke h13 hrun _ (by rw [hTs]; exact hu) (by omega)).mono ?_
          rintro e w' ⟨rfl, hb⟩
          exact ⟨_, rfl, (by intro h; cases h), hb⟩
      · have hok := numOk_false_long (w := T) (by omega)
        rw [hok]
        refine (lexnum_Be s k w hs hke (by omega) hrun _ (by rw [hTs]; exact hu)).mono ?_
        rintro e w' ⟨rfl, hb⟩
        exact ⟨_, rfl, (by intro h; cases h), hb⟩
    · have hok := numOk_false_long (w := T) (by omega)
      rw [hok]
      refine (lexnum_Ae s k w hs G hke hrun (by rw [hTs]; exact hu)).mono ?_
      rintro e w' ⟨n, rfl, hb⟩
      exact ⟨_, rfl, (by intro h; cases h), hb⟩
end Go.Proofs.YtkmdojghimfmeaaDoor
