/-
  The contract of the laws' own check of the chapter's examples: it answers true.
-/
import Derived.Test.YtkmdojghimfmeaaDoorShow
namespace Go.Proofs.YtkmdojghimfmeaaDoor
open Go.RowKit

def exToks : List Lx.Tok := [⟨1, [97], 0, 0⟩, ⟨3, [58, 61], 0, 1⟩, ⟨3, [33], 0, 3⟩, ⟨1, [98], 0, 4⟩, ⟨3, [45], 0, 5⟩, ⟨2, [49], 1, 6⟩, ⟨3, [59, 59], 0, 7⟩]
theorem ex_words : Lx.words 0 [97, 58, 61, 33, 98, 45, 49, 59, 59] = some exToks := by rfl
theorem ex_fail : Lx.words 0 [97, 58, 98] = none := by rfl
theorem ex_shown : shown (exToks.map toV) = [97, 32, 58, 61, 32, 33, 32, 98, 32, 45, 32, 49, 32, 59, 59] := by rfl

/-- What the laws' callers need of Words: a list of tokens, or the error of a malformed text. -/
theorem words_some_any (s : ByteArray) (w : World) (hs : s.size ≤ 3000) (G : Glob w) {ts : List Lx.Tok} (h : Lx.words 0 s.data.toList = some ts) :
    Calls Tryd.prog 10 #[.string s] w fun e w' => ∃ a c, e = .returned (.tuple #[.slice a ts.length c, .int .i64 0]) ∧ Rd w' w'.heap.size (.slice a ts.length c) (ts.map toV) ∧ Below w.heap.size w w' :=
  (lexwords_any s w hs G).mono fun e w' ⟨hb, hm⟩ => by
    rw [h] at hm
    obtain ⟨v, he, hown⟩ := hm
    have hr := Rd.of_own hown
    obtain ⟨a, c, rfl, _⟩ := id hr
    rw [List.length_map] at hr he
    exact ⟨a, c, he, hr, hb⟩
theorem words_none_any (s : ByteArray) (w : World) (hs : s.size ≤ 3000) (G : Glob w) (h : Lx.words 0 s.data.toList = none) :
    Calls Tryd.prog 10 #[.string s] w fun e w' => e = .returned (.tuple #[.slice none 0 0, .int .i64 3]) ∧ Below w.heap.size w w' :=
  (lexwords_any s w hs G).mono fun e w' ⟨hb, hm⟩ => by
    rw [h] at hm
    exact ⟨hm, hb⟩

theorem small_of {ts : List TokV} (h : ts.all (fun t => decide (t.text.size ≤ 3000)) = true) : ∀ t ∈ ts, t.text.size ≤ 3000 :=
  fun t ht => of_decide_eq_true (List.all_eq_true.1 h t ht)
theorem tokCells_length (ts : List Lx.Tok) : (tokCells ts).length = ts.length * 4 := by
  induction ts with
  | nil => rfl
  | cons t r ih =>
    have e : tokCells (t :: r) = [.int .i64 t.kind, .string ⟨t.text.toArray⟩, .int .i64 t.num, .int .i64 t.pos] ++ tokCells r := rfl
    rw [e, List.length_append, ih]
    simp
    omega
/-- A literal row of tokens in the block that was made last. -/
theorem Rd.lit (w : World) (ts : List Lx.Tok) (h : ts.length ≤ maxLen) : Rd (w.alloc (.cells (tokCells ts).toArray 30)) (w.alloc (.cells (tokCells ts).toArray 30)).heap.size (.slice (some ⟨w.heap.size, 0, none⟩) ts.length ts.length) (ts.map toV) :=
  Rd.of_own (base := w.heap.size) ⟨tokCells_length ts, .inr ⟨w.heap.size, ts.length, (tokCells ts).toArray, rfl, Nat.le_refl _, heap_alloc_new w _, Nat.le_refl _, h, by rw [List.size_toArray, tokCells_length], by
    rw [← tokCells_length]
    exact List.take_length⟩⟩

set_option maxRecDepth 100000 in
theorem sanity_any (w : World) (G : Glob w) : Calls Tryd.prog 9 #[] w fun e w' => e = .returned (.bool true) ∧ Below w.heap.size w w' := by
  go_enter Tryd.func9, Tryd.ntmps9
  go_wp2_with fail
  refine (words_some_any _ _ (by decide) G ex_words).mono ?_
  rintro e w1 ⟨a, c, rfl, hr1, hb1⟩
  have G1 := G.below hb1
  have HR1 := Lib.hid hr1
  clear hr1
  go_wp2_with fail
  refine (words_none_any _ _ (by decide) G1 ex_fail).mono ?_
  rintro e w2 ⟨rfl, hb2⟩
  go_wp2_with fail
  have hR2 := (HR1.out.below hb2).below ((Below.refl _ _).alloc (Nat.le_refl _) (.cells (tokCells exToks).toArray 30))
  have HR2 := Lib.hid hR2
  clear hR2
  refine (same_any (ts := exToks.map toV) (us := exToks.map toV) HR2.out (Rd.lit w2 exToks (by decide)) (by decide) rfl).mono ?_
  rintro e w3 ⟨rfl, hb3⟩
  have HR3 := Lib.hid (HR2.out.below hb3)
  go_wp2_with fail
  refine (lexshow_any _ (exToks.map toV) _ HR3.out (by decide) (small_of (by decide))).mono ?_
  rintro e w4 ⟨rfl, hb4⟩
  rw [ex_shown]
  go_wp2
  go_ret
  exact ⟨rfl, Below.up (Below.up (Below.up (Below.up hb1 hb2) ((Below.refl _ _).alloc (Nat.le_refl _) _)) hb3) hb4⟩
end Go.Proofs.YtkmdojghimfmeaaDoor
