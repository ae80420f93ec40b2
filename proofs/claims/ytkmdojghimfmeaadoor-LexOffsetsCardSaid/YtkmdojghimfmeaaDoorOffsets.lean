/-
  The walk of the law LexOffsets: whatever the text, it answers true.
-/
import Derived.Test.YtkmdojghimfmeaaDoorRound
import Derived.Test.YtkmdojghimfmeaaDoorRefParts
namespace Go.Proofs.YtkmdojghimfmeaaDoor
open Go.RowKit

theorem blank_cls {c : UInt8} (h : Lx.blank c = true) : (Lx.clsI c.toNat == 4) = true := by
  have e : ((c.toNat : Int) = 9 ∨ (c.toNat : Int) = 10 ∨ (c.toNat : Int) = 32) := by
    unfold Lx.blank at h
    simp only [Bool.or_eq_true, beq_iff_eq] at h
    rcases h with (h | h) | h <;> subst h <;> decide
  unfold Lx.clsI
  rcases e with e | e | e <;> rw [e] <;> decide
theorem extract_from (s : ByteArray) (a k : Nat) : s.extract a (a + k) = ⟨((s.data.toList.drop a).take k).toArray⟩ := by
  have h : (s.extract a (a + k)).data.toList = (s.data.toList.drop a).take k := by
    rw [ByteArray.data_extract, Array.toList_extract, List.extract_eq_take_drop]
    congr 1
    omega
  rw [← h, mk_data]

set_option maxRecDepth 100000 in
theorem lexOffsets_walk (s : ByteArray) (w : World) (hm : s.size ≤ 9223372036854775807) (G : Glob w) : Calls Tryd.prog 5 #[.string s] w fun e w' => e = .returned (.bool true) ∧ Below w.heap.size w w' := by
  by_cases hbig : 600 < s.size
  · go_enter Tryd.func5, Tryd.ntmps5
    go_wp2_with fail
    refine (sanity_any _ G).mono ?_
    rintro e w1 ⟨rfl, hb1⟩
    go_wp2
    go_ret
    exact ⟨rfl, hb1⟩
  · have hs : s.size ≤ 600 := by omega
    have hs3 : s.size ≤ 3000 := by omega
    clear hbig
    cases hw : Lx.words 0 s.data.toList with
    | none =>
      have HW := Lib.hid hw
      clear hw
      go_enter Tryd.func5, Tryd.ntmps5
      go_wp2_with fail
      refine (sanity_any _ G).mono ?_
      rintro e w1 ⟨rfl, hb1⟩
      have G1 := G.below hb1
      go_wp2_with fail
      refine (words_none_any _ _ hs3 G1 HW.out).mono ?_
      rintro e w2 ⟨rfl, hb2⟩
      go_wp2
      go_ret
      exact ⟨rfl, Below.up hb1 hb2⟩
    | some ts =>
      have hcnt : ts.length ≤ s.size := words_tally 0 _ _ hw
      have hlies := Lx.words_lies s.data.toList 0 s.data.toList rfl (Nat.zero_le _) ts hw
      obtain ⟨n, hn⟩ : ∃ n, n = ts.length := ⟨_, rfl⟩
      have HLI := Lib.hid hlies
      have HW := Lib.hid hw
      clear hw hlies
      go_enter Tryd.func5, Tryd.ntmps5
      go_wp2_with fail
      refine (sanity_any _ G).mono ?_
      rintro e w1 ⟨rfl, hb1⟩
      have G1 := G.below hb1
      go_wp2_with fail
      refine (words_some_any _ _ hs3 G1 HW.out).mono ?_
      rintro e w2 ⟨a, c, rfl, hr2, hb2⟩
      rw [← hn] at hcnt hr2 ⊢
      have HN := Lib.hid hn
      have HR2 := Lib.hid hr2
      have HB := Lib.hid (Below.up hb1 hb2)
      clear hr2 hb1 hb2 hn G1
      go_wp2_with fail
      go_loopw [6, 7] (fun av i wr => ∃ k A : Nat, k ≤ n + 1 ∧ A ≤ s.size ∧ i = .int .i64 k ∧ av = .int .i64 A ∧ Hid (Below w2.heap.size w2 wr) ∧ Hid (k ≤ n → Lx.Lies s.data.toList A (ts.drop k))) (fun _ i _ => n + 1 - (intOf i).toNat)
      case atStart => exact ⟨0, 0, by omega, Nat.zero_le _, rfl, rfl, Lib.hid (Below.refl _ _), Lib.hid fun _ => HLI.out⟩
      case round =>
        obtain ⟨k, A, hk, hA, rfl, rfl, HBr, HL⟩ := hrel
        by_cases hlt : k < n
        · obtain ⟨t, ht⟩ : ∃ t, ts[k]? = some t := ⟨_, List.getElem?_eq_getElem (by have := HN.out; omega)⟩
          have hd : ts.drop k = t :: ts.drop (k + 1) := by
            rw [List.drop_eq_getElem_cons (by have := HN.out; omega)]
            congr 1
            exact Option.some.inj ((List.getElem?_eq_getElem _).symm.trans ht)
          have hL := HL.out (by omega)
          rw [hd] at hL
          obtain ⟨l1, l2, l3, l4, l5, l6⟩ := hL
          have hl2 : t.pos + t.text.length ≤ s.size := l2
          obtain ⟨a0, c0, hv0, hc0, hr0⟩ := HR2.out
          obtain ⟨b, o, ha, hbl, hat⟩ := hr0 (by intro e; rw [List.map_eq_nil_iff] at e; have := HN.out; rw [e] at this; simp at this; omega)
          have hva : a = some ⟨b, o, none⟩ := by cases hv0; exact ha
          subst hva
          obtain ⟨p0, p1, p2, p3⟩ := (hat k (toV t) (by rw [List.getElem?_map, ht]; rfl)).below hbl HBr.out
          have hsz : (toV t).text.size = t.text.length := size_mk _
          have hps : (toV t).pos = (t.pos : Int) := rfl
          obtain ⟨T, hT⟩ : ∃ T, T = (toV t).text := ⟨_, rfl⟩
          obtain ⟨P, hP⟩ : ∃ P, P = t.pos := ⟨_, rfl⟩
          obtain ⟨K, hK⟩ : ∃ K, K = t.text.length := ⟨_, rfl⟩
          rw [hps, ← hP] at p3
          rw [← hT] at p1 hsz
          rw [← hK] at hsz hl2 l3
          rw [← hP] at hl2 l1
          have HX := Lib.hid (show s.extract P (P + K) = T by rw [extract_from, hP, hK, l5, hT]; rfl)
          have HBK : Hid (∀ j, A ≤ j → j < P → ∀ b, s.data.toList[j]? = some b → Lx.blank b = true) := Lib.hid (by rw [hP]; exact l4)
          have HL6 : Hid (Lx.Lies s.data.toList (P + K) (ts.drop (k + 1))) := Lib.hid (by rw [hP, hK]; exact l6)
          subst hsz
          clear hat ht hd l2 l4 l5 l6 hv0 hr0 ha hps hT hP hK HL p0 p2
          go_wp2_with fail
          · exfalso
            rename_i h
            rcases h with (h | h) | h
            · omega
            · omega
            · rw [beq_iff_eq] at h; omega
          simp only [show decide (P < A) = false from decide_eq_false (by omega), show decide ((s.size : Int) < (P : Int) + (T.size : Int)) = false from decide_eq_false (by omega), show ((T.size : Int) == 0) = false from beq_eq_false_iff_ne.2 (by omega), Bool.or_false]
          go_loop [9] (fun kv => ∃ j : Nat, A ≤ j ∧ j ≤ P ∧ kv = .int .i64 j) (fun kv => P - (intOf kv).toNat)
          case atStart => exact ⟨A, Nat.le_refl _, l1, rfl⟩
          case round =>
            obtain ⟨j, hj1, hj2, rfl⟩ := hrel
            by_cases hjl : j < P
            · have hjs : j < s.size := by omega
              have hbc := blank_cls (HBK.out j hj1 hjl s[j] (List.getElem?_eq_getElem hjs))
              have HC := Lib.hid hbc
              clear hbc
              go_wp2_with fail
              refine (blank_any _ _).mono ?_
              rintro e w3 ⟨rfl, rfl⟩
              rw [HC.out]
              go_wp2
              go_round
              case rel => exact ⟨j + 1, by omega, by omega, by go_num⟩
              case measure => simp [intOf]; omega
            · obtain rfl : j = P := by omega
              have e1 : ((s.extract j (j + T.size)).toList == T.toList) = true := by rw [HX.out]; exact beq_self_eq_true _
              go_wp2_with fail
              go_quiet (fail)
              all_goals
                go_wp2
                go_roundw
                case rel => exact ⟨k + 1, j + T.size, by omega, by omega, by go_num, by go_num, Lib.hid (below_drewN HBr.out _), Lib.hid fun _ => HL6.out⟩
                case measure => simp [intOf]; omega
        · by_cases hend : k = n
          · subst hend
            have hL := HL.out (Nat.le_refl _)
            rw [List.drop_eq_nil_of_le (by have := HN.out; omega)] at hL
            have HBK : Hid (∀ j, A ≤ j → ∀ b, s.data.toList[j]? = some b → Lx.blank b = true) := Lib.hid hL
            clear hL
            go_wp2_with fail
            go_loop [9] (fun kv => ∃ j : Nat, A ≤ j ∧ j ≤ s.size ∧ kv = .int .i64 j) (fun kv => s.size - (intOf kv).toNat)
            case atStart => exact ⟨A, Nat.le_refl _, hA, rfl⟩
            case round =>
              obtain ⟨j, hj1, hj2, rfl⟩ := hrel
              by_cases hjl : j < s.size
              · have hbc := blank_cls (HBK.out j hj1 s[j] (List.getElem?_eq_getElem hjl))
                have HC := Lib.hid hbc
                clear hbc
                go_wp2_with fail
                refine (blank_any _ _).mono ?_
                rintro e w3 ⟨rfl, rfl⟩
                rw [HC.out]
                go_wp2
                go_round
                case rel => exact ⟨j + 1, by omega, by omega, by go_num⟩
                case measure => simp [intOf]; omega
              · go_wp2
                go_roundw
                case rel => exact ⟨k + 1, A, by omega, hA, by go_num, rfl, HBr, Lib.hid fun h => absurd h (by omega)⟩
                case measure => simp [intOf]
          · go_wp2
            go_ret
            exact ⟨rfl, HB.out.trans (HBr.out.mono HB.out.size)⟩
end Go.Proofs.YtkmdojghimfmeaaDoor
