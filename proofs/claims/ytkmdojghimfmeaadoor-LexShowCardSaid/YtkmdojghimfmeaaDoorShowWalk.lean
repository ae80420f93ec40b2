/-
  The walk of the law LexShow: whatever the tokens, it answers true.
-/
import Derived.Test.YtkmdojghimfmeaaDoorSanity
namespace Go.Proofs.YtkmdojghimfmeaaDoor
open Go.RowKit

set_option maxRecDepth 100000 in
theorem lexShow_walk (v : Value) (ts : List TokV) (w : World) (hr : Rd w w.heap.size v ts) (hn : ts.length ≤ 9223372036854775807) (hb : ∀ t ∈ ts, t.text.size ≤ 9223372036854775807) (G : Glob w) :
    Calls Tryd.prog 4 #[v] w fun e w' => e = .returned (.bool true) ∧ Below w.heap.size w w' := by
  have hr0 := hr
  obtain ⟨a, c, rfl, hc, hrd⟩ := hr
  obtain ⟨n, hlen⟩ : ∃ n, n = ts.length := ⟨_, rfl⟩
  rw [← hlen] at hc hn hr0 ⊢
  have HRd := Lib.hid hr0
  have HR := Lib.hid hrd
  have HL := Lib.hid hlen
  have HBd := Lib.hid hb
  clear hrd hlen hb hr0
  by_cases hbig : 100 < n
  · go_enter Tryd.func4, Tryd.ntmps4
    go_wp2_with fail
    refine (sanity_any _ G).mono ?_
    rintro e w1 ⟨rfl, hb1⟩
    go_wp2
    go_ret
    exact ⟨rfl, hb1⟩
  · go_enter Tryd.func4, Tryd.ntmps4
    go_wp2_with fail
    refine (sanity_any _ G).mono ?_
    rintro e w1 ⟨rfl, hb1⟩
    have HB1 := Lib.hid hb1
    clear hb1
    go_wp2_with fail
    go_loop [4] (fun i => ∃ k : Nat, k ≤ n ∧ i = .int .i64 k ∧ Hid (∀ (j : Nat) t, j < k → ts[j]? = some t → t.text.size ≤ 100)) (fun i => n - (intOf i).toNat)
    case atStart => exact ⟨0, Nat.zero_le _, rfl, Lib.hid fun j t h => absurd h (Nat.not_lt_zero _)⟩
    case round =>
      obtain ⟨k, hk, rfl, HSm⟩ := hrel
      by_cases hlt : k < n
      · obtain ⟨b, o, rfl, hbl, hat⟩ := HR.out (by intro e; have := HL.out; rw [e] at this; simp at this; omega)
        obtain ⟨t, ht⟩ : ∃ t, ts[k]? = some t := ⟨_, List.getElem?_eq_getElem (by have := HL.out; omega)⟩
        obtain ⟨p0, p1, p2, p3⟩ := (hat k t ht).below hbl HB1.out
        have htb : t.text.size ≤ 9223372036854775807 := HBd.out t (mem_of_at ht)
        have HTK := Lib.hid ht
        clear hat ht
        by_cases hts : 100 < t.text.size
        · go_wp2
          go_ret
          exact ⟨rfl, HB1.out⟩
        · go_wp2
          go_round
          case rel =>
            refine ⟨k + 1, by omega, by go_num, Lib.hid fun j u hj hu => ?_⟩
            rcases Nat.lt_or_ge j k with h | h
            · exact HSm.out j u h hu
            · obtain rfl : j = k := by omega
              obtain rfl : t = u := Option.some.inj (HTK.out.symm.trans hu)
              omega
          case measure => simp [intOf]; omega
      · obtain rfl : k = n := by omega
        have HSA : Hid (∀ t ∈ ts, t.text.size ≤ 3000) := Lib.hid fun t ht => by
          obtain ⟨j, hj, rfl⟩ := List.getElem_of_mem ht
          have := HSm.out j _ (by have := HL.out; omega) (List.getElem?_eq_getElem hj)
          omega
        go_wp2_with fail
        refine (lexshow_any _ ts _ (HRd.out.below HB1.out) (by have := HL.out; omega) HSA.out).mono ?_
        rintro e w2 ⟨rfl, hb2⟩
        have HB2 := Lib.hid hb2
        clear hb2
        go_wp2_with fail
        refine (refshow_any _ ts _ ((HRd.out.below HB1.out).below HB2.out) (by have := HL.out; omega) HSA.out).mono ?_
        rintro e w3 ⟨rfl, hb3⟩
        have HB3 := Lib.hid hb3
        clear hb3
        go_wp2_with fail
        go_ret
        exact ⟨rfl, Below.up (Below.up HB1.out HB2.out) HB3.out⟩
end Go.Proofs.YtkmdojghimfmeaaDoor
