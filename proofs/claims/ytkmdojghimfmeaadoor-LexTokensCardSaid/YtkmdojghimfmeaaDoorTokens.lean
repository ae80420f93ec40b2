/-
  The walk of the law LexTokens: whatever the text and the number, it answers true.
-/
import Derived.Test.YtkmdojghimfmeaaDoorConcat
import Derived.Test.YtkmdojghimfmeaaDoorTokensN
import Derived.Deep.Cut
import Derived.Deep.CutRange
import Derived.Deep.CutBlock
import Derived.StillTailTactics
namespace Go.Proofs.YtkmdojghimfmeaaDoor
open Go.RowKit

theorem wrap_j (j : Nat) (h : j ≤ 3000) : IntKind.i64.wrap (j : Int) = (j : Int) := by
  rw [IntKind.wrap_i64]
  omega
theorem below_drew1 (w : World) : Below w.heap.size w w.drew := ⟨rfl, rfl, rfl, Nat.le_refl _, fun _ _ => rfl⟩
theorem Glob.drew {w : World} (h : Glob w) : Glob w.drew := h.below (below_drew1 w)
theorem words_tuple (s : ByteArray) (w : World) (hs : s.size ≤ 3000) (G : Glob w) :
    Calls Tryd.prog 10 #[.string s] w fun e w' => ∃ (a : Option Addr) (n c : Nat) (q : Int), e = .returned (.tuple #[.slice a n c, .int .i64 q]) ∧ Hid (∀ vs, Lx.words 0 s.data.toList = some vs → n = vs.length ∧ q = 0) ∧ Below w.heap.size w w' := by
  cases h : Lx.words 0 s.data.toList with
  | none => exact (words_none_any s w hs G h).mono fun e w' ⟨he, hb⟩ => ⟨none, 0, 0, 3, he, Lib.hid (fun vs hv => by cases hv), hb⟩
  | some ts => exact (words_some_any s w hs G h).mono fun e w' ⟨a, c, he, _, hb⟩ => ⟨a, ts.length, c, 0, he, Lib.hid (fun vs hv => by cases hv; exact ⟨rfl, rfl⟩), hb⟩

set_option maxHeartbeats 8000000 in
set_option maxRecDepth 100000 in
theorem lexTokens_some (s : ByteArray) (n : Int) (X : Nat) (w : World) (hs : s.size ≤ 600) (hX : X ≤ 1099511627776) (hn : n.tmod 1099511627777 = X) (G : Glob w) {ts : List Lx.Tok} (hw : Lx.words 0 s.data.toList = some ts) :
    Calls Tryd.prog 8 #[.string s, .int .u64 n] w fun e w' => e = .returned (.bool true) ∧ Below w.heap.size w w' := by
  have hs3 : s.size ≤ 3000 := by omega
  have hcnt : ts.length ≤ s.size := words_tally 0 _ _ hw
  obtain ⟨m, hm⟩ : ∃ m, m = ts.length := ⟨_, rfl⟩
  have HSM := Lib.hid (tok_small 0 _ _ hw)
  have HOW := Lib.hid (Lx.words_own 0 _ _ hw)
  have HTW := Lib.hid (Lx.words_two 0 _ _ hw)
  have HPS : Hid (∀ t ∈ ts, t.pos ≤ s.size) := Lib.hid (lies_pos (Lx.words_lies s.data.toList 0 s.data.toList rfl (Nat.zero_le _) ts hw))
  have hssz : s.data.toList.length = s.size := rfl
  have HW := Lib.hid hw
  clear hw
  go_enter Tryd.func8, Tryd.ntmps8
  go_wp2_with fail
  refine (sanity_any _ G).mono ?_
  rintro e w1 ⟨rfl, hb1⟩
  have G1 := G.below hb1
  go_wp2_with fail
  refine (words_some_any _ _ hs3 G1 HW.out).mono ?_
  rintro e w2 ⟨a, c, rfl, hr2, hb2⟩
  have G2 := G1.below hb2
  rw [← hm] at hcnt hr2 ⊢
  have HM := Lib.hid hm
  have HR2 := Lib.hid hr2
  have HB := Lib.hid (Below.up hb1 hb2)
  clear hr2 hb1 hb2 hm G1
  go_wp2_with fail
  go_loopw [8] (fun i wr => ∃ k : Nat, k ≤ m ∧ i = .int .i64 k ∧ Hid (Below w2.heap.size w2 wr)) (fun i _ => m - (intOf i).toNat)
  case atStart => exact ⟨0, Nat.zero_le _, rfl, Lib.hid (Below.refl _ _)⟩
  case round =>
    obtain ⟨k, hk, rfl, HBr⟩ := hrel
    have Gr := G2.below HBr.out
    by_cases hlt : k < m
    · obtain ⟨t, ht⟩ : ∃ t, ts[k]? = some t := ⟨_, List.getElem?_eq_getElem (by have := HM.out; omega)⟩
      have htm : t ∈ ts := List.mem_of_getElem? ht
      have hown := HOW.out t htm
      have hrg := Lx.tok1_range hown
      have htl := HSM.out t htm
      have hw1 := hown.words 0
      obtain ⟨av, cv, hv0, _, hr0⟩ := HR2.out
      obtain ⟨b, o, ha, hbl, hat⟩ := hr0 (by intro e; rw [List.map_eq_nil_iff] at e; have := HM.out; rw [e] at this; simp at this; omega)
      have hva : a = some ⟨b, o, none⟩ := by cases hv0; exact ha
      subst hva
      have HAT : Hid (∀ j u, ts[j]? = some u → TokAt wr b (o + j * 4) (toV u)) := Lib.hid fun j u hu => (hat j (toV u) (by rw [List.getElem?_map, hu]; rfl)).below hbl HBr.out
      obtain ⟨p0, p1, p2, p3⟩ := HAT.out k t ht
      obtain ⟨T, hT⟩ : ∃ T, T = (toV t).text := ⟨_, rfl⟩
      obtain ⟨K, hK⟩ : ∃ K, K = t.kind := ⟨_, rfl⟩
      obtain ⟨N, hN⟩ : ∃ N, N = t.num := ⟨_, rfl⟩
      obtain ⟨Q, hQ⟩ : ∃ Q, Q = t.pos := ⟨_, rfl⟩
      have hTd : T.data.toList = t.text := by rw [hT]; exact data_mk _
      have hTs : T.size ≤ 600 := by
        rw [hT]
        show (⟨t.text.toArray⟩ : ByteArray).size ≤ 600
        rw [size_mk]
        omega
      have HW1 : Hid (Lx.words 0 T.data.toList = some [⟨K, t.text, N, 0⟩]) := Lib.hid (by rw [hTd, hK, hN]; exact hw1)
      have hNM : N ≤ 1099511627776 := by rw [hN]; exact hrg.1
      have hK2 : Hid (K ≠ 2 → N = 0) := Lib.hid (by rw [hK, hN]; exact hrg.2.1)
      have q0 : wr.cell? ⟨b, o + k * 4, none⟩ = some (.int .i64 (K : Int)) := by rw [hK]; exact p0
      have q1 : wr.cell? ⟨b, o + k * 4 + 1, none⟩ = some (.string T) := by rw [hT]; exact p1
      have q2 : wr.cell? ⟨b, o + k * 4 + 2, none⟩ = some (.int .i64 (N : Int)) := by rw [hN]; exact p2
      have q3 : wr.cell? ⟨b, o + k * 4 + 3, none⟩ = some (.int .i64 (Q : Int)) := by rw [hQ]; exact p3
      have HTK := Lib.hid ht
      have HTT : Hid ((⟨t.text.toArray⟩ : ByteArray) = T) := Lib.hid hT.symm
      have HKK := Lib.hid hK
      have HQQ := Lib.hid hQ
      clear hat hv0 hr0 ha ht htm hown hrg htl hw1 p0 p1 p2 p3 hT hK hN hQ hTd
      have hbr : b < wr.heap.size := Nat.lt_of_lt_of_le hbl HBr.out.size
      go_wp2_with fail
      refine (words_some_any T _ (by omega) Gr HW1.out).mono ?_
      rintro e w3 ⟨a3, c3, rfl, hr3, hb3⟩
      obtain ⟨b3, o3, rfl, hb3l, r0, r1, r2, r3⟩ := one_at hr3
      have HB3 := Lib.hid hb3
      have r0' : w3.cell? ⟨b3, o3, none⟩ = some (.int .i64 (K : Int)) := r0
      have r1' : w3.cell? ⟨b3, o3 + 1, none⟩ = some (.string T) := by rw [← HTT.out]; exact r1
      have r2' : w3.cell? ⟨b3, o3 + 2, none⟩ = some (.int .i64 (N : Int)) := r2
      have r3' : w3.cell? ⟨b3, o3 + 3, none⟩ = some (.int .i64 0) := r3
      have s0 : w3.cell? ⟨b, o + k * 4, none⟩ = some (.int .i64 (K : Int)) := (hb3.cell (p := ⟨b, o + k * 4, none⟩) hbr).trans q0
      have s1 : w3.cell? ⟨b, o + k * 4 + 1, none⟩ = some (.string T) := (hb3.cell (p := ⟨b, o + k * 4 + 1, none⟩) hbr).trans q1
      have s2 : w3.cell? ⟨b, o + k * 4 + 2, none⟩ = some (.int .i64 (N : Int)) := (hb3.cell (p := ⟨b, o + k * 4 + 2, none⟩) hbr).trans q2
      have s3 : w3.cell? ⟨b, o + k * 4 + 3, none⟩ = some (.int .i64 (Q : Int)) := (hb3.cell (p := ⟨b, o + k * 4 + 3, none⟩) hbr).trans q3
      clear hr3 hb3 r0 r1 r2 r3 q0 q1 q2 q3
      go_upto_region 13 with (fail)
      obtain ⟨w4, hw4⟩ : ∃ w4, w4 = w3.alloc (.cells #[.int .i64 (K : Int), .string T, .int .i64 (N : Int), .int .i64 0] 30) := ⟨_, rfl⟩
      have HB4 : Hid (Below w3.heap.size w3 w4) := Lib.hid (by rw [hw4]; exact (Below.refl _ _).alloc (Nat.le_refl _) _)
      have d0 : w4.cell? ⟨w3.heap.size, 0, none⟩ = some (.int .i64 (K : Int)) := by rw [hw4]; simp
      have d1 : w4.cell? ⟨w3.heap.size, 1, none⟩ = some (.string T) := by rw [hw4]; simp
      have d2 : w4.cell? ⟨w3.heap.size, 2, none⟩ = some (.int .i64 (N : Int)) := by rw [hw4]; simp
      have d3 : w4.cell? ⟨w3.heap.size, 3, none⟩ = some (.int .i64 0) := by rw [hw4]; simp
      have f0 : w4.cell? ⟨b3, o3, none⟩ = some (.int .i64 (K : Int)) := (HB4.out.cell (p := ⟨b3, o3, none⟩) hb3l).trans r0'
      have f1 : w4.cell? ⟨b3, o3 + 1, none⟩ = some (.string T) := (HB4.out.cell (p := ⟨b3, o3 + 1, none⟩) hb3l).trans r1'
      have f2 : w4.cell? ⟨b3, o3 + 2, none⟩ = some (.int .i64 (N : Int)) := (HB4.out.cell (p := ⟨b3, o3 + 2, none⟩) hb3l).trans r2'
      have f3 : w4.cell? ⟨b3, o3 + 3, none⟩ = some (.int .i64 0) := (HB4.out.cell (p := ⟨b3, o3 + 3, none⟩) hb3l).trans r3'
      rw [← hw4]
      clear hw4 r0' r1' r2' r3' s0 s1 s2 s3
      have st1 : Tryd.prog.stoodInHeld 30 = false := by kernel_rfl
      have st2 : Tryd.prog.eqGuardType Tryd.prog.depth 30 = false := by kernel_rfl
      have hNM2 : ¬ (1099511627776 : Int) < (N : Int) := by omega
      have hNM3 : ¬ (N : Int) < 0 := by omega
      go_cut [85] from 30 to 152 (fun v wx => v = .bool false ∧ Hid (Below w3.heap.size w3 wx))
      case first =>
        by_cases hk2 : K = 2
        · subst hk2
          go_quiet (fail)
          all_goals
            go_wp2
            go_meet
            case rel => exact ⟨rfl, Lib.hid (below_drewN HB4.out _)⟩
        · have hN0 := hK2.out hk2
          subst hN0
          have hkb1 : ((K : Int) == 2) = false := beq_eq_false_iff_ne.2 (by omega)
          have hkb2 : (K == 2) = false := beq_eq_false_iff_ne.2 hk2
          have hkb3 : ((K : Int) != 2) = true := bne_iff_ne.2 (by omega)
          go_quiet (fail)
          all_goals
            go_wp2
            go_meet
            case rel => exact ⟨rfl, Lib.hid (below_drewN HB4.out _)⟩
      case rest =>
        obtain ⟨rfl, HBx⟩ := hcut
        have hbc : b < wc.heap.size := Nat.lt_of_lt_of_le hbr (Below.up HB3.out HBx.out).size
        have HATc : Hid (∀ j u, ts[j]? = some u → TokAt wc b (o + j * 4) (toV u)) := Lib.hid fun j u hu => (HAT.out j u hu).below hbr (Below.up HB3.out HBx.out)
        have HBc : Hid (Below w2.heap.size w2 wc) := Lib.hid (HBr.out.trans ((Below.up HB3.out HBx.out).mono HBr.out.size))
        clear d0 d1 d2 d3 f0 f1 f2 f3 HBx HB4 HB3 hb3l
        obtain ⟨sg, hsg⟩ : ∃ sg : Bool, sg = true ↔ ∃ j u, k = j + 1 ∧ ts[j]? = some u ∧ K = 3 ∧ u.kind = 3 ∧ Q = u.pos + 1 := ⟨@decide (∃ j u, k = j + 1 ∧ ts[j]? = some u ∧ K = 3 ∧ u.kind = 3 ∧ Q = u.pos + 1) (Classical.propDecidable _), @decide_eq_true_iff _ (Classical.propDecidable _)⟩
        have HSG := Lib.hid hsg
        clear hsg
        go_upto_region 15 with (fail)
        go_cut [119] from 30 to 152 (fun v wx => v = .bool sg ∧ Hid (Below wc.heap.size wc wx))
        case first =>
          obtain ⟨c0, _, _, c3⟩ := HATc.out k t HTK.out
          have c0' : wc.cell? ⟨b, o + k * 4, none⟩ = some (.int .i64 (K : Int)) := by rw [HKK.out]; exact c0
          have c3' : wc.cell? ⟨b, o + k * 4 + 3, none⟩ = some (.int .i64 (Q : Int)) := by rw [HQQ.out]; exact c3
          clear c0 c3
          by_cases hk0 : 0 < k
          · obtain ⟨j, hj⟩ : ∃ j, k = j + 1 := ⟨k - 1, by omega⟩
            have hk1 : (k : Int) - 1 = (j : Int) := by omega
            obtain ⟨u, hu⟩ : ∃ u, ts[j]? = some u := ⟨_, List.getElem?_eq_getElem (by have := HM.out; omega)⟩
            have hQ1 : u.pos ≤ s.size := HPS.out u (List.mem_of_getElem? hu)
            obtain ⟨e0, _, _, e3⟩ := HATc.out j u hu
            obtain ⟨K1, hK1⟩ : ∃ K1, K1 = u.kind := ⟨_, rfl⟩
            obtain ⟨Q1, hQQ1⟩ : ∃ Q1, Q1 = u.pos := ⟨_, rfl⟩
            have e0' : wc.cell? ⟨b, o + j * 4, none⟩ = some (.int .i64 (K1 : Int)) := by rw [hK1]; exact e0
            have e3' : wc.cell? ⟨b, o + j * 4 + 3, none⟩ = some (.int .i64 (Q1 : Int)) := by rw [hQQ1]; exact e3
            rw [← hQQ1] at hQ1
            have HU := Lib.hid hu
            have HK1 := Lib.hid hK1
            have HQ1 := Lib.hid hQQ1
            clear e0 e3 hu hK1 hQQ1
            have hz1 : decide ((0 : Int) < (k : Int)) = true := decide_eq_true (by omega)
            have hz2 : decide (0 < k) = true := decide_eq_true (by omega)
            have key : sg = true → K = 3 ∧ K1 = 3 ∧ Q = Q1 + 1 := fun hc => by
              obtain ⟨j', u', h1, h2, h3, h4, h5⟩ := HSG.out.1 hc
              obtain rfl : j = j' := by omega
              obtain rfl : u = u' := Option.some.inj (HU.out.symm.trans h2)
              exact ⟨h3, by rw [HK1.out, h4], by rw [HQ1.out, h5]⟩
            have HKEY := Lib.hid key
            have HJ := Lib.hid hj
            clear key hj
            by_cases h3 : K = 3
            · have ha1 : ((K : Int) == 3) = true := beq_iff_eq.2 (by omega)
              have ha2 : (K == 3) = true := beq_iff_eq.2 h3
              by_cases h4 : K1 = 3
              · have hb1 : ((K1 : Int) == 3) = true := beq_iff_eq.2 (by omega)
                have hb2 : (K1 == 3) = true := beq_iff_eq.2 h4
                by_cases h5 : Q = Q1 + 1
                · have hs : sg = true := HSG.out.2 ⟨j, u, HJ.out, HU.out, h3, by rw [← HK1.out, h4], by rw [h5, HQ1.out]⟩
                  have hd1 : ((Q : Int) == (Q1 : Int) + 1) = true := beq_iff_eq.2 (by omega)
                  clear h3 h4 h5
                  subst hs
                  go_quiet (fail)
                  all_goals
                    go_wp2
                    go_meet
                    case rel => exact ⟨rfl, Lib.hid (below_drewN (Below.refl _ _) _)⟩
                · have hs : sg = false := by
                    cases hc : sg with
                    | false => rfl
                    | true => exact absurd (HKEY.out hc).2.2 h5
                  have hd1 : ((Q : Int) == (Q1 : Int) + 1) = false := beq_eq_false_iff_ne.2 (by omega)
                  clear h3 h4 h5
                  subst hs
                  go_quiet (fail)
                  all_goals
                    go_wp2
                    go_meet
                    case rel => exact ⟨rfl, Lib.hid (below_drewN (Below.refl _ _) _)⟩
              · have hs : sg = false := by
                  cases hc : sg with
                  | false => rfl
                  | true => exact absurd (HKEY.out hc).2.1 h4
                subst hs
                have hb1 : ((K1 : Int) == 3) = false := beq_eq_false_iff_ne.2 (by omega)
                have hb2 : (K1 == 3) = false := beq_eq_false_iff_ne.2 h4
                go_quiet (fail)
                all_goals
                  go_wp2
                  go_meet
                  case rel => exact ⟨rfl, Lib.hid (below_drewN (Below.refl _ _) _)⟩
            · have hs : sg = false := by
                cases hc : sg with
                | false => rfl
                | true => exact absurd (HKEY.out hc).1 h3
              subst hs
              have ha1 : ((K : Int) == 3) = false := beq_eq_false_iff_ne.2 (by omega)
              have ha2 : (K == 3) = false := beq_eq_false_iff_ne.2 h3
              go_quiet (fail)
              all_goals
                go_wp2
                go_meet
                case rel => exact ⟨rfl, Lib.hid (below_drewN (Below.refl _ _) _)⟩
          · have hs : sg = false := by
              cases hc : sg with
              | false => rfl
              | true => obtain ⟨j, u, h, _⟩ := HSG.out.1 hc; omega
            subst hs
            have hz1 : decide ((0 : Int) < (k : Int)) = false := decide_eq_false (by omega)
            have hz2 : decide (0 < k) = false := decide_eq_false (by omega)
            go_quiet (fail)
            all_goals
              go_wp2
              go_meet
              case rel => exact ⟨rfl, Lib.hid (below_drewN (Below.refl _ _) _)⟩
        case rest =>
          obtain ⟨rfl, HBd⟩ := hcut
          have HATd : Hid (∀ j u, ts[j]? = some u → TokAt wc b (o + j * 4) (toV u)) := Lib.hid fun j u hu => (HATc.out j u hu).below hbc HBd.out
          have HBw : Hid (Below w2.heap.size w2 wc) := Lib.hid (HBc.out.trans (HBd.out.mono HBc.out.size))
          have Gd : Glob wc := G2.below HBw.out
          cases hsv : sg with
          | false =>
            go_wp2_with fail
            go_roundw
            case rel => exact ⟨k + 1, by omega, by go_num, HBw⟩
            case measure => simp [intOf]; omega
          | true =>
            obtain ⟨j, u, hj, hu, h3, h4, h5⟩ := HSG.out.1 hsv
            have hmu := List.mem_of_getElem? hu
            have hul := HSM.out u hmu
            have htw := HTW.out j u t hu (by rw [← hj]; exact HTK.out) h4 (by rw [← HKK.out]; exact h3) (by rw [← HQQ.out]; exact h5)
            obtain ⟨U, hU⟩ : ∃ U, U = (toV u).text := ⟨_, rfl⟩
            have hUd : U.data.toList = u.text := by rw [hU]; exact data_mk _
            have hUl : U.size = u.text.length := by
              show U.data.toList.length = _
              rw [hUd]
            have hUs : U.size ≤ 600 := by omega
            obtain ⟨_, e1, _, _⟩ := HATd.out j u hu
            obtain ⟨_, c1, _, _⟩ := HATd.out k t HTK.out
            have hk1 : (k : Int) - 1 = (j : Int) := by omega
            have hjm : j < m := by omega
            have hbw : b < wc.heap.size := Nat.lt_of_lt_of_le hbc HBd.out.size
            have e1' : wc.cell? ⟨b, o + j * 4 + 1, none⟩ = some (.string U) := by rw [hU]; exact e1
            have c1' : wc.cell? ⟨b, o + k * 4 + 1, none⟩ = some (.string T) := by rw [← HTT.out]; exact c1
            have HTT2 : Hid (U.size = 1 → Lx.words 0 (U ++ T).data.toList = some [⟨3, u.text, 0, 0⟩, ⟨3, t.text, 0, 1⟩]) := Lib.hid fun h => by
              rw [ByteArray.data_append, Array.toList_append, hUd, ← HTT.out, data_mk]
              exact htw (by omega)
            have hUT : (U ++ T).size ≤ 1200 := by rw [ByteArray.size_append]; omega
            clear e1 c1 htw h3 h4 h5 hj hU hUd hUl hul hmu
            subst hsv
            go_upto_region 16 with (fail)
            go_cut [12, 13] from 30 to 152 (fun v e wx => (∃ (a : Option Addr) (n c : Nat) (q : Int), v = .slice a n c ∧ e = .int .i64 q ∧ Hid (U.size = 1 → n = 2 ∧ q = 0)) ∧ Hid (Below wc.heap.size wc wx))
            case first =>
              have hA3 : (j : Int) < (m : Int) := by omega
              have hA8 := wrap_j j (by omega)
              go_region_with (go_at_call 10; refine (words_tuple _ _ (by omega) (Glob.drew Gd)).mono ?_; rintro e w9 ⟨a9, n9, c9, q9, rfl, hq9, hb9⟩)
              all_goals
                go_wp2
                go_meet
                case rel => exact ⟨⟨_, _, _, _, rfl, rfl, Lib.hid fun h => hq9.out _ (HTT2.out h)⟩, Lib.hid (Below.up (below_drew1 _) hb9)⟩
            case rest =>
              obtain ⟨⟨a9, n9, c9, q9, rfl, rfl, HQ9⟩, HBe⟩ := hcut
              have HBv : Hid (Below w2.heap.size w2 wc) := Lib.hid (HBw.out.trans (HBe.out.mono HBw.out.size))
              have e2' : wc.cell? ⟨b, o + j * 4 + 1, none⟩ = some (.string U) := (HBe.out.cell (p := ⟨b, o + j * 4 + 1, none⟩) hbw).trans e1'
              by_cases hU1 : U.size = 1
              · obtain ⟨rfl, rfl⟩ := HQ9.out hU1
                go_wp2_with fail
                go_roundw
                case rel => exact ⟨k + 1, by omega, by go_num, HBv⟩
                case measure => simp [intOf]; omega
              · have hU2 : ((U.size : Int) == 1) = false := beq_eq_false_iff_ne.2 (by omega)
                have hU3 : (U.size == 1) = false := beq_eq_false_iff_ne.2 hU1
                go_wp2_with fail
                go_roundw
                case rel => exact ⟨k + 1, by omega, by go_num, HBv⟩
                case measure => simp [intOf]; omega
    · obtain rfl : k = m := by omega
      have HBt : Hid (Below w.heap.size w wr) := Lib.hid (HB.out.trans (HBr.out.mono HB.out.size))
      obtain ⟨D, hD, hD13, hD1, hD2⟩ := digits_text X hX
      have HD := Lib.hid hD
      have HD1 := Lib.hid hD1
      have HD2 := Lib.hid hD2
      have hDs : ((⟨#[48]⟩ : ByteArray) ++ D).size ≤ 3000 := by
        rw [ByteArray.size_append]
        show 1 + D.size ≤ 3000
        omega
      have HDS := Lib.hid hDs
      clear hD hD1 hD2 hDs
      go_wp2_with fail
      refine (digits_any X _ hX).mono ?_
      rintro e w3 ⟨rfl, hb3⟩
      rw [← HD.out]
      have G3 := Gr.below hb3
      go_wp2_with fail
      refine (words_some_any D _ (by omega) G3 HD1.out).mono ?_
      rintro e w4 ⟨a4, c4, rfl, hr4, hb4⟩
      have G4 := G3.below hb4
      have HR4 := Lib.hid hr4
      have HB4 := Lib.hid (Below.up (Below.up HBt.out hb3) hb4)
      clear hr4 hb3 hb4
      go_wp2_with fail
      refine (words_none_any _ _ HDS.out G4 HD2.out).mono ?_
      rintro e w5 ⟨rfl, hb5⟩
      have HB5 := Lib.hid hb5
      obtain ⟨b5, o5, rfl, hb5l, r0, r1, r2, r3⟩ := one_at (HR4.out.below hb5)
      have r0' : w5.cell? ⟨b5, o5, none⟩ = some (.int .i64 2) := r0
      have r1' : w5.cell? ⟨b5, o5 + 1, none⟩ = some (.string D) := by rw [HD.out]; exact r1
      have r2' : w5.cell? ⟨b5, o5 + 2, none⟩ = some (.int .i64 (X : Int)) := r2
      have r3' : w5.cell? ⟨b5, o5 + 3, none⟩ = some (.int .i64 0) := r3
      have st1 : Tryd.prog.stoodInHeld 30 = false := by kernel_rfl
      have st2 : Tryd.prog.eqGuardType Tryd.prog.depth 30 = false := by kernel_rfl
      clear r0 r1 r2 r3 hb5
      go_wp2_with fail
      go_ret
      exact ⟨rfl, Below.up HB4.out HB5.out⟩

theorem lexTokens_walk (s : ByteArray) (n : Int) (w : World) (hm : s.size ≤ 9223372036854775807) (hn : 0 ≤ n) (G : Glob w) :
    Calls Tryd.prog 8 #[.string s, .int .u64 n] w fun e w' => e = .returned (.bool true) ∧ Below w.heap.size w w' := by
  by_cases hbig : 600 < s.size
  · exact lexTokens_big s n w hm hbig G
  · obtain ⟨X, hX, hr⟩ : ∃ X : Nat, X ≤ 1099511627776 ∧ n.tmod 1099511627777 = X := by
      refine ⟨(n.tmod 1099511627777).toNat, ?_, ?_⟩
      · rw [Int.tmod_eq_emod_of_nonneg hn]; omega
      · rw [Int.tmod_eq_emod_of_nonneg hn]; omega
    cases hw : Lx.words 0 s.data.toList with
    | none => exact lexTokens_none s n X w (by omega) hX hr G hw
    | some ts => exact lexTokens_some s n X w (by omega) hX hr G hw
end Go.Proofs.YtkmdojghimfmeaaDoor
