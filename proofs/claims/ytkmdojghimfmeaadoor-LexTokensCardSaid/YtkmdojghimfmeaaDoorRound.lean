/-
  The walk of the law LexRoundTrip: whatever the text, it answers true.
-/
import Derived.Test.YtkmdojghimfmeaaDoorSanity
namespace Go.Proofs.YtkmdojghimfmeaaDoor
open Go.RowKit

def sumLen (ts : List Lx.Tok) : Nat := (ts.map fun t => t.text.length + 1).sum
theorem words_sum : ∀ (p : Nat) (l : List UInt8) (ts : List Lx.Tok), Lx.words p l = some ts → sumLen ts ≤ 2 * l.length := by
  refine Lx.words_induct (P := fun p l => ∀ ts, Lx.words p l = some ts → sumLen ts ≤ 2 * l.length) (fun p ts h => ?_) (fun p c r hb ih ts h => ?_) (fun p c r hb ht ts h => ?_) (fun p c r k w n hb ht ih ts h => ?_)
  · rw [Lx.words_nil] at h; cases h; exact Nat.le_refl _
  · rw [Lx.words_blank _ _ _ hb] at h
    have := ih ts h
    simp only [List.length_cons]
    omega
  · rw [Lx.words_none _ _ _ hb ht] at h; cases h
  · rw [Lx.words_some _ _ _ hb ht] at h
    have hw := Lx.tok1_text ht
    cases hx : Lx.words (p + w.length) ((c :: r).drop w.length) with
    | none => rw [hx] at h; cases h
    | some us =>
      rw [hx] at h
      simp only [Option.map_some, Option.some.injEq] at h
      subst h
      have := ih us hx
      rw [List.length_drop] at this
      unfold sumLen at this ⊢
      simp only [List.map_cons, List.sum_cons] at this ⊢
      omega
theorem join_le_sum : ∀ ts : List Lx.Tok, (Lib.join (Lx.texts ts) [32]).length ≤ sumLen ts
  | [] => Nat.le_refl _
  | t :: r => by
    unfold Lx.texts sumLen
    rw [List.map_cons, Lib.join_cons, List.length_append, List.map_cons, List.sum_cons]
    have : (Lib.joinTail [32] (r.map (·.text))).length = (r.map fun t => t.text.length + 1).sum := by
      unfold Lib.joinTail
      clear t
      induction r with
      | nil => rfl
      | cons a r ih =>
        simp only [List.map_cons, List.flatten_cons, List.length_append, List.length_cons, List.length_nil, List.sum_cons] at ih ⊢
        omega
    omega
theorem shown_toks (ts : List Lx.Tok) : shown (ts.map toV) = Lib.join (Lx.texts ts) [32] := by
  unfold shown Lx.texts
  rw [List.map_map]
  congr 1
theorem relay_length : ∀ (p : Nat) (ts : List Lx.Tok), (Lx.relay p ts).length = ts.length
  | _, [] => rfl
  | p, t :: ts => by simp [Lx.relay, relay_length _ ts]
theorem relay_alike : ∀ (p : Nat) (ts : List Lx.Tok) (i : Nat) (t u : Lx.Tok), ts[i]? = some t → (Lx.relay p ts)[i]? = some u → AlikeV (toV t) (toV u)
  | _, [], i, t, u, h, _ => by simp at h
  | p, a :: r, 0, t, u, h, k => by
    simp only [List.getElem?_cons_zero, Option.some.injEq] at h
    simp only [Lx.relay, List.getElem?_cons_zero, Option.some.injEq] at k
    subst h; subst k
    exact ⟨rfl, rfl, rfl⟩
  | p, a :: r, i + 1, t, u, h, k => relay_alike _ r i t u (by simpa using h) (by simpa [Lx.relay] using k)
theorem relay_shown (p : Nat) (ts : List Lx.Tok) : shown ((Lx.relay p ts).map toV) = shown (ts.map toV) := by rw [shown_toks, shown_toks, Lx.relay_texts]
theorem tok_small : ∀ (p : Nat) (l : List UInt8) (ts : List Lx.Tok), Lx.words p l = some ts → ∀ t ∈ ts, t.text.length ≤ l.length := by
  refine Lx.words_induct (P := fun p l => ∀ ts, Lx.words p l = some ts → ∀ t ∈ ts, t.text.length ≤ l.length) (fun p ts h t ht => ?_) (fun p c r hb ih ts h t ht => ?_) (fun p c r hb ht ts h t ht => ?_) (fun p c r k w n hb ht ih ts h t hin => ?_)
  · rw [Lx.words_nil] at h; cases h; cases ht
  · rw [Lx.words_blank _ _ _ hb] at h
    have := ih ts h t ht
    simp only [List.length_cons]
    omega
  · rw [Lx.words_none _ _ _ hb ‹_›] at h; cases h
  · rw [Lx.words_some _ _ _ hb ht] at h
    have hw := Lx.tok1_text ht
    cases hx : Lx.words (p + w.length) ((c :: r).drop w.length) with
    | none => rw [hx] at h; cases h
    | some us =>
      rw [hx] at h
      simp only [Option.map_some, Option.some.injEq] at h
      subst h
      rcases List.mem_cons.1 hin with rfl | hin
      · exact hw.2.1
      · have := ih us hx t hin
        rw [List.length_drop] at this
        omega
theorem small_toks {ts : List Lx.Tok} {n : Nat} (hn : n ≤ 3000) (h : ∀ t ∈ ts, t.text.length ≤ n) : ∀ t ∈ ts.map toV, t.text.size ≤ 3000 := by
  intro t ht
  obtain ⟨x, hx, rfl⟩ := List.mem_map.1 ht
  have := h x hx
  show (toV x).text.size ≤ 3000
  unfold toV
  simp only [size_mk]
  omega
theorem words_tally : ∀ (p : Nat) (l : List UInt8) (ts : List Lx.Tok), Lx.words p l = some ts → ts.length ≤ l.length := by
  refine Lx.words_induct (P := fun p l => ∀ ts, Lx.words p l = some ts → ts.length ≤ l.length) (fun p ts h => ?_) (fun p c r hb ih ts h => ?_) (fun p c r hb ht ts h => ?_) (fun p c r k w n hb ht ih ts h => ?_)
  · rw [Lx.words_nil] at h; cases h; exact Nat.le_refl _
  · rw [Lx.words_blank _ _ _ hb] at h
    have := ih ts h
    simp only [List.length_cons]
    omega
  · rw [Lx.words_none _ _ _ hb ht] at h; cases h
  · rw [Lx.words_some _ _ _ hb ht] at h
    have hw := Lx.tok1_text ht
    cases hx : Lx.words (p + w.length) ((c :: r).drop w.length) with
    | none => rw [hx] at h; cases h
    | some us =>
      rw [hx] at h
      simp only [Option.map_some, Option.some.injEq] at h
      subst h
      have := ih us hx
      rw [List.length_drop] at this
      simp only [List.length_cons] at this hw ⊢
      omega

set_option maxRecDepth 100000 in
theorem lexRoundTrip_walk (s : ByteArray) (w : World) (hm : s.size ≤ 9223372036854775807) (G : Glob w) : Calls Tryd.prog 6 #[.string s] w fun e w' => e = .returned (.bool true) ∧ Below w.heap.size w w' := by
  by_cases hbig : 600 < s.size
  · go_enter Tryd.func6, Tryd.ntmps6
    go_wp2_with fail
    refine (sanity_any _ G).mono ?_
    rintro e w1 ⟨rfl, hb1⟩
    go_wp2
    go_ret
    exact ⟨rfl, hb1⟩
  · have hs : s.size ≤ 600 := by omega
    have hs3 : s.size ≤ 3000 := by omega
    clear hbig
    cases hw : Lx.words 0 s.data.toList with
    | none =>
      have HW := Lib.hid hw
      clear hw
      go_enter Tryd.func6, Tryd.ntmps6
      go_wp2_with fail
      refine (sanity_any _ G).mono ?_
      rintro e w1 ⟨rfl, hb1⟩
      have G1 := G.below hb1
      go_wp2_with fail
      refine (words_none_any _ _ hs3 G1 HW.out).mono ?_
      rintro e w2 ⟨rfl, hb2⟩
      go_wp2
      go_ret
      exact ⟨rfl, Below.up hb1 hb2⟩
    | some ts =>
      have hsl : s.data.toList.length = s.size := rfl
      have hcnt : ts.length ≤ s.size := words_tally 0 _ _ hw
      have HSM := Lib.hid (small_toks hs3 (tok_small 0 _ _ hw))
      have hown := Lx.words_own 0 _ _ hw
      have hjn := Lx.words_join 0 ts hown
      have hsum : (shown (ts.map toV)).length ≤ 1200 := by
        have h1 := words_sum 0 _ _ hw
        have h2 := join_le_sum ts
        rw [shown_toks]
        omega
      obtain ⟨S, hS⟩ : ∃ S : ByteArray, S = ⟨(shown (ts.map toV)).toArray⟩ := ⟨_, rfl⟩
      have hS3 : S.size ≤ 3000 := by rw [hS, size_mk]; omega
      have HW2 := Lib.hid (show Lx.words 0 S.data.toList = some (Lx.relay 0 ts) by rw [hS, data_mk, shown_toks]; exact hjn)
      have HSM2 := Lib.hid (show ∀ t ∈ (Lx.relay 0 ts).map toV, t.text.size ≤ 3000 from small_toks (n := S.size) hS3 (tok_small 0 _ _ HW2.out))
      have HS := Lib.hid hS
      have HW := Lib.hid hw
      have hrl := relay_length 0 ts
      have HRL := Lib.hid hrl
      clear hown hjn hsum hS hw hsl hrl
      go_enter Tryd.func6, Tryd.ntmps6
      go_wp2_with fail
      refine (sanity_any _ G).mono ?_
      rintro e w1 ⟨rfl, hb1⟩
      have G1 := G.below hb1
      go_wp2_with fail
      refine (words_some_any _ _ hs3 G1 HW.out).mono ?_
      rintro e w2 ⟨a, c, rfl, hr2, hb2⟩
      have HR2 := Lib.hid hr2
      have G2 := G1.below hb2
      clear hr2
      go_wp2_with fail
      refine (lexshow_any _ (ts.map toV) _ HR2.out (by rw [List.length_map]; omega) HSM.out).mono ?_
      rintro e w3 ⟨rfl, hb3⟩
      rw [← HS.out]
      have G3 := G2.below hb3
      go_wp2_with fail
      refine (words_some_any _ _ hS3 G3 HW2.out).mono ?_
      rintro e w4 ⟨a', c', rfl, hr4, hb4⟩
      rw [HRL.out] at hr4 ⊢
      have HR4 := Lib.hid hr4
      clear hr4
      go_wp2_with fail
      refine (alike_any ((HR2.out.below hb3).below hb4) HR4.out (by rw [List.length_map]; omega) (by rw [List.length_map, List.length_map]; exact HRL.out) ?_).mono ?_
      · intro i t u h1 h2
        rw [List.getElem?_map] at h1 h2
        cases hi : ts[i]? with
        | none => rw [hi] at h1; cases h1
        | some x =>
          cases hj : (Lx.relay 0 ts)[i]? with
          | none => rw [hj] at h2; cases h2
          | some y =>
            rw [hi] at h1
            rw [hj] at h2
            cases h1; cases h2
            exact relay_alike 0 ts i x y hi hj
      rintro e w5 ⟨rfl, hb5⟩
      go_wp2_with fail
      refine (lexshow_any _ ((Lx.relay 0 ts).map toV) _ (HR4.out.below hb5) (by rw [List.length_map, HRL.out]; omega) HSM2.out).mono ?_
      rintro e w6 ⟨rfl, hb6⟩
      rw [relay_shown, ← HS.out]
      go_wp2
      go_ret
      exact ⟨rfl, Below.up (Below.up (Below.up (Below.up (Below.up hb1 hb2) hb3) hb4) hb5) hb6⟩
end Go.Proofs.YtkmdojghimfmeaaDoor
