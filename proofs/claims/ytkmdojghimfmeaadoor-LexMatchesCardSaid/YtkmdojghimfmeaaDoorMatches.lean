/-
  The walk of the law LexMatches: whatever the text, it answers true.
-/
import Derived.Test.YtkmdojghimfmeaaDoorSanity
import Derived.Test.YtkmdojghimfmeaaDoorRefWords
namespace Go.Proofs.YtkmdojghimfmeaaDoor
open Go.RowKit

theorem refwords_some_any (s : ByteArray) (w : World) (hs : s.size ≤ 3000) {ts : List Lx.Tok} (h : Lx.words 0 s.data.toList = some ts) :
    Calls Tryd.prog 11 #[.string s] w fun e w' => ∃ a c, e = .returned (.tuple #[.slice a ts.length c, .int .i64 0]) ∧ Rd w' w'.heap.size (.slice a ts.length c) (ts.map toV) ∧ Below w.heap.size w w' :=
  (refwords_any s w hs).mono fun e w' ⟨hb, hm⟩ => by
    rw [h] at hm
    obtain ⟨v, he, hown⟩ := hm
    have hr := Rd.of_own hown
    obtain ⟨a, c, rfl, _⟩ := id hr
    rw [List.length_map] at hr he
    exact ⟨a, c, he, hr, hb⟩
theorem refwords_none_any (s : ByteArray) (w : World) (hs : s.size ≤ 3000) (h : Lx.words 0 s.data.toList = none) :
    Calls Tryd.prog 11 #[.string s] w fun e w' => e = .returned (.tuple #[.slice none 0 0, .int .i64 3]) ∧ Below w.heap.size w w' :=
  (refwords_any s w hs).mono fun e w' ⟨hb, hm⟩ => by
    rw [h] at hm
    exact ⟨hm, hb⟩
theorem words_count : ∀ (p : Nat) (l : List UInt8) (ts : List Lx.Tok), Lx.words p l = some ts → ts.length ≤ l.length := by
  refine Lx.words_induct (P := fun p l => ∀ ts, Lx.words p l = some ts → ts.length ≤ l.length) (fun p ts h => ?_) (fun p c r hb ih ts h => ?_) (fun p c r hb ht ts h => ?_) (fun p c r k w n hb ht ih ts h => ?_)
  · rw [Lx.words_nil] at h; cases h; exact Nat.le_refl _
  · rw [Lx.words_blank _ _ _ hb] at h
    have := ih ts h
    simp only [List.length_cons]
    omega
  · rw [Lx.words_none _ _ _ hb ht] at h; cases h
  · rw [Lx.words_some _ _ _ hb ht] at h
    have hw := Lx.tok1_text ht
    cases hx : Lx.words (p + w.length) ((c :: r).drop w.length) with
    | none => rw [hx] at h; cases h
    | some us =>
      rw [hx] at h
      simp only [Option.map_some, Option.some.injEq] at h
      subst h
      have := ih us hx
      rw [List.length_drop] at this
      simp only [List.length_cons] at this hw ⊢
      omega

set_option maxRecDepth 100000 in
theorem lexMatches_walk (s : ByteArray) (w : World) (hm : s.size ≤ 9223372036854775807) (G : Glob w) : Calls Tryd.prog 3 #[.string s] w fun e w' => e = .returned (.bool true) ∧ Below w.heap.size w w' := by
  by_cases hbig : 600 < s.size
  · go_enter Tryd.func3, Tryd.ntmps3
    go_wp2_with fail
    refine (sanity_any _ G).mono ?_
    rintro e w1 ⟨rfl, hb1⟩
    go_wp2
    go_ret
    exact ⟨rfl, hb1⟩
  · have hs : s.size ≤ 600 := by omega
    have hs3 : s.size ≤ 3000 := by omega
    clear hbig
    cases hw : Lx.words 0 s.data.toList with
    | none =>
      have HW := Lib.hid hw
      clear hw
      go_enter Tryd.func3, Tryd.ntmps3
      go_wp2_with fail
      refine (sanity_any _ G).mono ?_
      rintro e w1 ⟨rfl, hb1⟩
      have G1 := G.below hb1
      go_wp2_with fail
      refine (words_none_any _ _ hs3 G1 HW.out).mono ?_
      rintro e w2 ⟨rfl, hb2⟩
      go_wp2_with fail
      refine (refwords_none_any _ _ hs3 HW.out).mono ?_
      rintro e w3 ⟨rfl, hb3⟩
      go_wp2_with fail
      refine (same_none _ _ _ _ _).mono ?_
      rintro e w4 ⟨rfl, hb4⟩
      go_wp2
      go_ret
      exact ⟨rfl, Below.up (Below.up (Below.up hb1 hb2) hb3) hb4⟩
    | some ts =>
      have HW := Lib.hid hw
      have hcnt : ts.length ≤ s.size := words_count 0 _ _ hw
      clear hw
      go_enter Tryd.func3, Tryd.ntmps3
      go_wp2_with fail
      refine (sanity_any _ G).mono ?_
      rintro e w1 ⟨rfl, hb1⟩
      have G1 := G.below hb1
      go_wp2_with fail
      refine (words_some_any _ _ hs3 G1 HW.out).mono ?_
      rintro e w2 ⟨a, c, rfl, hr2, hb2⟩
      have HR2 := Lib.hid hr2
      clear hr2
      go_wp2_with fail
      refine (refwords_some_any _ _ hs3 HW.out).mono ?_
      rintro e w3 ⟨a', c', rfl, hr3, hb3⟩
      have HR3 := Lib.hid hr3
      clear hr3
      go_wp2_with fail
      refine (same_any (HR2.out.below hb3) HR3.out (by rw [List.length_map]; omega) rfl).mono ?_
      rintro e w4 ⟨rfl, hb4⟩
      go_wp2
      go_ret
      exact ⟨rfl, Below.up (Below.up (Below.up hb1 hb2) hb3) hb4⟩
end Go.Proofs.YtkmdojghimfmeaaDoor
