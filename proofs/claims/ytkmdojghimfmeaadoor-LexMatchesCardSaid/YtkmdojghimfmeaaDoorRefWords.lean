/-
  The contract of Words of the reference.
-/
import Derived.Test.YtkmdojghimfmeaaDoorRefParts
import Derived.Deep.Cut
import Derived.Deep.CutRange
import Derived.Deep.CutBlock
namespace Go.Proofs.YtkmdojghimfmeaaDoor
open Go.RowKit

set_option maxRecDepth 100000 in
set_option maxHeartbeats 1000000 in
theorem refwords_any (s : ByteArray) (w : World) (hs : s.size ≤ 3000) : Calls Tryd.prog 11 #[.string s] w (WordsPost s.data.toList w) := by
  obtain ⟨i0, hi, hz0, hz1, hz2⟩ := info_parts info30
  have HI := Lib.hid (And.intro hi (And.intro hz0 (And.intro hz1 hz2)))
  clear hi hz0 hz1 hz2
  go_enter Tryd.func11, Tryd.ntmps11
  go_wp2_with fail
  go_loopw [4, 5] (fun v pv wr => ∃ (ao : Option Addr) (c p : Nat) (done : List Lx.Tok), v = .slice ao done.length c ∧ pv = .int .i64 p ∧ p ≤ s.size ∧ Sr s w.heap.size w wr v done p) (fun _ pv _ => s.size - (intOf pv).toNat)
  case atStart => exact ⟨none, 0, 0, [], rfl, rfl, Nat.zero_le _, Sr.start s _ w⟩
  case round =>
    obtain ⟨ao, c, p, done, rfl, rfl, hps, hst⟩ := hrel
    have HT := Lib.hid hst
    have hfw : done.length ≤ p := hst.few
    have hbw := Lib.hid hst.below
    have hwz : w.heap.size ≤ wr.heap.size := hst.below.size
    clear hst
    by_cases hp : p < s.size
    · rcases cls_cases s[p] with ⟨hc, hl⟩ | ⟨hc, hl, hd, hw⟩ | ⟨hc, h95⟩ | ⟨hc, hb⟩ | ⟨hc, hb, hl, hd, hw⟩
      · -- a name
        have HC := Lib.hid hc
        have HB := Lib.hid (Lx.letter_blank hl)
        have htk := tok1_letterL hp hl
        have hle := Lx.takeWhile_length_le Lx.within (s.data.toList.drop p)
        have hle2 : ((s.data.toList.drop p).takeWhile Lx.within).length ≤ s.size - p := by rw [List.length_drop] at hle; exact hle
        have hre := Lx.takeWhile_take Lx.within (s.data.toList.drop p)
        clear hle
        generalize hT : (s.data.toList.drop p).takeWhile Lx.within = T at htk hle2 hre
        obtain ⟨n, hn⟩ : ∃ n, n = T.length := ⟨_, rfl⟩
        rw [← hn] at htk hle2 hre
        have HK := Lib.hid htk
        have HTT := Lib.hid hT
        have HNT := Lib.hid hn
        have HRE := Lib.hid hre
        have HW0 := Lib.hid (Lx.letter_within hl)
        clear hc hl htk hT hn hre
        go_upto_block 2 with (go_at_call 20; refine (class_any _ _).mono ?_; rintro e w2 ⟨rfl, rfl⟩; rw [HC.out])
        go_cut [8, 9] from 52 to 75 (fun nv _ wx => nv = .int .i64 ((p + n : Nat) : Int) ∧ wx = wr)
        case first =>
          go_wp2_with fail
          go_loop [8] (fun nv => ∃ m : Nat, p + 1 ≤ m ∧ m ≤ s.size ∧ nv = .int .i64 m ∧ ∀ j c, p ≤ j → j < m → s.data.toList[j]? = some c → Lx.within c = true) (fun nv => s.size - (intOf nv).toNat)
          case atStart => exact ⟨p + 1, Nat.le_refl _, by omega, by go_num, fun j c h1 h2 hc => by
            obtain rfl : j = p := by omega
            rw [byte_at s j hp] at hc
            cases hc
            exact HW0.out⟩
          case round =>
            obtain ⟨m, hm1, hm2, rfl, hall⟩ := hrel
            have HA := Lib.hid hall
            clear hall
            by_cases hlt : m < s.size
            · have HX := Lib.hid (byte_at s m hlt)
              have hcw := cls_within s[m]
              cases hw : Lx.within s[m] with
              | true =>
                have HW := Lib.hid hw
                rcases hcw.1 hw with h | h | h
                all_goals
                  have HV := Lib.hid h
                  clear hw hcw h
                  go_wp2_with (go_at_call 20; refine (class_any _ _).mono ?_; rintro e w2 ⟨rfl, rfl⟩; rw [HV.out])
                  go_round
                  case rel =>
                    refine ⟨m + 1, by omega, by omega, by go_num, fun j c h1 h2 hc => ?_⟩
                    rcases Nat.lt_or_ge j m with hj | hj
                    · exact HA.out j c h1 hj hc
                    · obtain rfl : j = m := by omega
                      rw [HX.out] at hc
                      cases hc
                      exact HW.out
                  case measure => simp [intOf]; omega
              | false =>
                have HW := Lib.hid hw
                rcases hcw.2 hw with h | h
                all_goals
                  have HV := Lib.hid h
                  clear hw hcw h
                  go_wp2_with (go_at_call 20; refine (class_any _ _).mono ?_; rintro e w2 ⟨rfl, rfl⟩; rw [HV.out])
                  go_meet
                  case rel =>
                    have hm := run_end Lx.within (by omega) hm2 HA.out (fun c hc => by rw [HX.out] at hc; cases hc; exact HW.out)
                    rw [HTT.out, ← HNT.out] at hm
                    exact ⟨by rw [hm], rfl⟩
            · go_wp2_with fail
              go_meet
              case rel =>
                have hm := run_end Lx.within (by omega) hm2 HA.out (fun c hc => by rw [byte_end s m hlt] at hc; cases hc)
                rw [HTT.out, ← HNT.out] at hm
                exact ⟨by rw [hm], rfl⟩
        case rest =>
          obtain ⟨rfl, rfl⟩ := hcut
          by_cases h12 : n ≤ 12
          · have HO := Lib.hid HT.out.own
            go_wp2_with (at_builtin; refine wpList_append_own _ rfl (.tmp 118) (.tmp 120) 23 rfl w.heap.size 30 i0 _ 4 40 Tryd.underlying23 HI.out.1 HI.out.2.1 HI.out.2.2.1 HI.out.2.2.2 rfl (by decide) _ _ _ rfl ((HO.out.alloc _).alloc _) ⟨wc.heap.size + 1, 0, none⟩ 1 1 [.int .i64 1, .string (s.extract p (p + n)), .int .i64 0, .int .i64 p] rfl rfl ?_ ?_ ?_ ?_ ?_ ?_)
            · exact cell_four_new _ (by simp) _ _ _ _ _
            · exact four_one _ _ _ _
            · unfold maxLen; omega
            · omega
            · simp; omega
            intro v' w3 hown hgrow _
            obtain ⟨g, cap, rfl, hg1, hg2⟩ := own_form hown (by omega)
            have hB3 : Below w.heap.size w w3 := ((hbw.out.alloc hwz _).alloc (by simp; omega) _).grown hgrow (by simp; omega) (fun j hj => (HO.out.lt j hj).1)
            have HN4 := Lib.hid (Sr.push_sign HT.out hp HB.out (k := 1) (m := 0) (n := n) (by rw [HK.out, if_pos h12, HRE.out]) hle2 hown hB3)
            clear hown hgrow hB3
            go_wp2
            go_roundw
            case rel => exact ⟨some ⟨g, 0, none⟩, cap, p + n, _, by simp, by go_num, by omega, HN4.out⟩
            case measure => have := HNT.out; have := Lx.tok1_text (HK.out.trans (if_pos h12)); simp [intOf]; omega
          · go_wp2_with fail
            go_ret2
            refine ⟨hbw.out.alloc hwz _, ?_⟩
            rw [HT.out.fail hp HB.out (by rw [HK.out, if_neg h12])]
            exact rfl
      · -- a number
        have HC := Lib.hid hc
        have HB := Lib.hid (Lx.digit_blank hd)
        have htk := tok1_digitL hp hl hd
        have hle := Lx.takeWhile_length_le Lx.digit (s.data.toList.drop p)
        have hle2 : ((s.data.toList.drop p).takeWhile Lx.digit).length ≤ s.size - p := by rw [List.length_drop] at hle; exact hle
        have hre := Lx.takeWhile_take Lx.digit (s.data.toList.drop p)
        have hTall := Lx.takeWhile_all Lx.digit (s.data.toList.drop p)
        have hstop := takeWhile_stop Lx.digit (s.data.toList.drop p)
        have hge : 1 ≤ ((s.data.toList.drop p).takeWhile Lx.digit).length := by rw [drop_one hp]; simp [hd]
        clear hle
        generalize hT : (s.data.toList.drop p).takeWhile Lx.digit = T at htk hle2 hre hTall hge hstop
        obtain ⟨n, hn⟩ : ∃ n, n = T.length := ⟨_, rfl⟩
        rw [← hn] at htk hle2 hre hge hstop
        obtain ⟨M, hM⟩ : ∃ M, M = p + n := ⟨_, rfl⟩
        have hMs : M ≤ s.size := by omega
        have hpM : p < M := by omega
        have hxd : (s.extract p M).data.toList = T := by rw [hM, extract_eq, data_mk, hre]
        have hxsz : (s.extract p M).size = n := by rw [hM, extract_eq, size_mk, hre, hn]
        have hx3 : (s.extract p M).size ≤ 3000 := by omega
        have hx1 : 0 < (s.extract p M).size := by omega
        have HXD := Lib.hid (show ∀ c ∈ (s.extract p M).data.toList, Lx.digit c = true by rw [hxd]; exact hTall)
        have HXT := Lib.hid hxd
        have HK := Lib.hid htk
        have HTT := Lib.hid hT
        have HNT := Lib.hid hn
        have HRE := Lib.hid hre
        have HM := Lib.hid hM
        have HST := Lib.hid hstop
        have HD0 := Lib.hid hd
        have hMp : M ≤ p + n := by omega
        have hpn : p + n ≤ M := by omega
        clear hc hl hd hw htk hT hn hre hTall hxsz hxd hM hstop
        go_upto_block 2 with (go_at_call 20; refine (class_any _ _).mono ?_; rintro e w2 ⟨rfl, rfl⟩; rw [HC.out])
        go_cut [8, 9] from 52 to 75 (fun nv _ wx => nv = .int .i64 (M : Int) ∧ wx = wr)
        case first =>
          go_wp2_with fail
          go_loop [8] (fun nv => ∃ m : Nat, p + 1 ≤ m ∧ m ≤ s.size ∧ nv = .int .i64 m ∧ ∀ j c, p ≤ j → j < m → s.data.toList[j]? = some c → Lx.digit c = true) (fun nv => s.size - (intOf nv).toNat)
          case atStart => exact ⟨p + 1, Nat.le_refl _, by omega, by go_num, fun j c h1 h2 hc => by
            obtain rfl : j = p := by omega
            rw [byte_at s j hp] at hc
            cases hc
            exact HD0.out⟩
          case round =>
            obtain ⟨m, hm1, hm2, rfl, hall⟩ := hrel
            have HA := Lib.hid hall
            clear hall
            by_cases hlt : m < s.size
            · have HX := Lib.hid (byte_at s m hlt)
              have hcw := cls_digit s[m]
              cases hw : Lx.digit s[m] with
              | true =>
                have HW := Lib.hid hw
                have HV := Lib.hid (hcw.1 hw)
                clear hw hcw
                go_wp2_with (go_at_call 20; refine (class_any _ _).mono ?_; rintro e w2 ⟨rfl, rfl⟩; rw [HV.out])
                go_round
                case rel =>
                  refine ⟨m + 1, by omega, by omega, by go_num, fun j c h1 h2 hc => ?_⟩
                  rcases Nat.lt_or_ge j m with hj | hj
                  · exact HA.out j c h1 hj hc
                  · obtain rfl : j = m := by omega
                    rw [HX.out] at hc
                    cases hc
                    exact HW.out
                case measure => simp [intOf]; omega
              | false =>
                have HW := Lib.hid hw
                rcases hcw.2 hw with h | h | h | h
                all_goals
                  have HV := Lib.hid h
                  clear hw hcw h
                  go_wp2_with (go_at_call 20; refine (class_any _ _).mono ?_; rintro e w2 ⟨rfl, rfl⟩; rw [HV.out])
                  go_meet
                  case rel =>
                    have hm := run_end Lx.digit (by omega) hm2 HA.out (fun c hc => by rw [HX.out] at hc; cases hc; exact HW.out)
                    rw [HTT.out, ← HNT.out, ← HM.out] at hm
                    exact ⟨by rw [hm], rfl⟩
            · go_wp2_with fail
              go_meet
              case rel =>
                have hm := run_end Lx.digit (by omega) hm2 HA.out (fun c hc => by rw [byte_end s m hlt] at hc; cases hc)
                rw [HTT.out, ← HNT.out, ← HM.out] at hm
                exact ⟨by rw [hm], rfl⟩
        case rest =>
          obtain ⟨rfl, rfl⟩ := hcut
          cases hok : Lx.numOk T with
          | true =>
            have HOK := Lib.hid hok
            have hnv : refNum (s.extract p M).data.toList = (Lx.numVal T : Nat) := by rw [HXT.out]; unfold refNum; rw [if_pos hok]
            have hnb : ((Lx.numVal T : Nat) : Int) ≤ 1099511627776 := by rw [Lx.numOk_eq] at hok; omega
            have HNV := Lib.hid hnv
            clear hok hnv
            by_cases hlt : M < s.size
            · have hfo : Lx.follows ((s.data.toList.drop p).drop n) = Lx.within s[M] := nextByteM HM.out hlt
              have hnd : Lx.digit s[M] = false := HST.out _ (by rw [List.getElem?_drop, ← HM.out]; exact byte_at s M hlt)
              cases hw : Lx.within s[M] with
              | true =>
                have HFO := Lib.hid (hfo.trans hw)
                have h2 := cls_other hnd hw
                clear hfo hnd hw
                rcases h2 with h | h
                all_goals
                  have HV := Lib.hid h
                  clear h
                  go_wp2_with (first | (go_at_call 22; refine (refnumber_any _ _ hx3 hx1 HXD.out).mono ?_; rintro e w2 ⟨rfl, rfl⟩; rw [HNV.out]) | (go_at_call 20; refine (class_any _ _).mono ?_; rintro e w2 ⟨rfl, rfl⟩; rw [HV.out]))
                  go_ret2
                  refine ⟨hbw.out.alloc hwz _, ?_⟩
                  rw [HT.out.fail hp HB.out (by rw [HK.out, if_neg (by rw [HOK.out, HFO.out]; decide)])]
                  exact rfl
              | false =>
                have HFO := Lib.hid (hfo.trans hw)
                have h2 := (cls_within s[M]).2 hw
                clear hfo hnd hw
                rcases h2 with h | h
                all_goals
                  have HV := Lib.hid h
                  clear h
                  have HO := Lib.hid HT.out.own
                  go_wp2_with (first | (go_at_call 22; refine (refnumber_any _ _ hx3 hx1 HXD.out).mono ?_; rintro e w2 ⟨rfl, rfl⟩; rw [HNV.out]) | (go_at_call 20; refine (class_any _ _).mono ?_; rintro e w2 ⟨rfl, rfl⟩; rw [HV.out]) | (at_builtin; refine wpList_append_own _ rfl (.tmp 118) (.tmp 120) 23 rfl w.heap.size 30 i0 _ 4 40 Tryd.underlying23 HI.out.1 HI.out.2.1 HI.out.2.2.1 HI.out.2.2.2 rfl (by decide) _ _ _ rfl ((HO.out.alloc _).alloc _) ⟨wc.heap.size + 1, 0, none⟩ 1 1 [.int .i64 2, .string (s.extract p M), .int .i64 (Lx.numVal T : Nat), .int .i64 p] rfl rfl ?_ ?_ ?_ ?_ ?_ ?_))
                  · exact cell_four_new _ (by simp) _ _ _ _ _
                  · exact four_one _ _ _ _
                  · unfold maxLen; omega
                  · omega
                  · simp; omega
                  intro v' w3 hown hgrow _
                  obtain ⟨g, cap, rfl, hg1, hg2⟩ := own_form hown (by omega)
                  have hB3 : Below w.heap.size w w3 := ((hbw.out.alloc hwz _).alloc (by simp; omega) _).grown hgrow (by simp; omega) (fun j hj => (HO.out.lt j hj).1)
                  have HN4 := Lib.hid (Sr.push_sign HT.out hp HB.out (k := 2) (m := Lx.numVal T) (n := n) (by rw [HK.out, if_pos (by rw [HOK.out, HFO.out]; rfl), HRE.out]) hle2 (HM.out ▸ hown) hB3)
                  clear hown hgrow hB3
                  go_wp2
                  go_roundw
                  case rel => exact ⟨some ⟨g, 0, none⟩, cap, M, _, by simp, rfl, hMs, HM.out ▸ HN4.out⟩
                  case measure => simp [intOf]; omega
            · have HFO := Lib.hid (nextNone (s := s) (p := p) (n := n) (by omega))
              have HO := Lib.hid HT.out.own
              go_wp2_with (first | (go_at_call 22; refine (refnumber_any _ _ hx3 hx1 HXD.out).mono ?_; rintro e w2 ⟨rfl, rfl⟩; rw [HNV.out]) | (at_builtin; refine wpList_append_own _ rfl (.tmp 118) (.tmp 120) 23 rfl w.heap.size 30 i0 _ 4 40 Tryd.underlying23 HI.out.1 HI.out.2.1 HI.out.2.2.1 HI.out.2.2.2 rfl (by decide) _ _ _ rfl ((HO.out.alloc _).alloc _) ⟨wc.heap.size + 1, 0, none⟩ 1 1 [.int .i64 2, .string (s.extract p M), .int .i64 (Lx.numVal T : Nat), .int .i64 p] rfl rfl ?_ ?_ ?_ ?_ ?_ ?_))
              · exact cell_four_new _ (by simp) _ _ _ _ _
              · exact four_one _ _ _ _
              · unfold maxLen; omega
              · omega
              · simp; omega
              intro v' w3 hown hgrow _
              obtain ⟨g, cap, rfl, hg1, hg2⟩ := own_form hown (by omega)
              have hB3 : Below w.heap.size w w3 := ((hbw.out.alloc hwz _).alloc (by simp; omega) _).grown hgrow (by simp; omega) (fun j hj => (HO.out.lt j hj).1)
              have HN4 := Lib.hid (Sr.push_sign HT.out hp HB.out (k := 2) (m := Lx.numVal T) (n := n) (by rw [HK.out, if_pos (by rw [HOK.out, HFO.out]; rfl), HRE.out]) hle2 (HM.out ▸ hown) hB3)
              clear hown hgrow hB3
              go_wp2
              go_roundw
              case rel => exact ⟨some ⟨g, 0, none⟩, cap, M, _, by simp, rfl, hMs, HM.out ▸ HN4.out⟩
              case measure => simp [intOf]; omega
          | false =>
            have HOK := Lib.hid hok
            have hnv : refNum (s.extract p M).data.toList = -1 := by rw [HXT.out]; unfold refNum; rw [hok]; rfl
            have HNV := Lib.hid hnv
            clear hok hnv
            by_cases hlt : M < s.size
            · skip
              go_wp2_with (first | (go_at_call 22; refine (refnumber_any _ _ hx3 hx1 HXD.out).mono ?_; rintro e w2 ⟨rfl, rfl⟩; rw [HNV.out]) | (go_at_call 20; refine (class_any _ _).mono ?_; rintro e w2 ⟨rfl, rfl⟩))
              go_ret2
              refine ⟨hbw.out.alloc hwz _, ?_⟩
              rw [HT.out.fail hp HB.out (by rw [HK.out, if_neg (by rw [HOK.out, Bool.false_and]; decide)])]
              exact rfl
            · skip
              go_wp2_with (first | (go_at_call 22; refine (refnumber_any _ _ hx3 hx1 HXD.out).mono ?_; rintro e w2 ⟨rfl, rfl⟩; rw [HNV.out]))
              go_ret2
              refine ⟨hbw.out.alloc hwz _, ?_⟩
              rw [HT.out.fail hp HB.out (by rw [HK.out, if_neg (by rw [HOK.out, Bool.false_and]; decide)])]
              exact rfl
      · -- an underscore
        have HC := Lib.hid hc
        have H95 := Lib.hid h95
        clear hc h95
        go_wp2_with (go_at_call 20; refine (class_any _ _).mono ?_; rintro e w2 ⟨rfl, rfl⟩; rw [HC.out])
        go_ret2
        refine ⟨hbw.out, ?_⟩
        rw [HT.out.fail hp (by rw [H95.out]; decide) (tok1_95 hp H95.out)]
        exact rfl
      · -- white space
        have HC := Lib.hid hc
        have HB := Lib.hid hb
        clear hc hb
        go_wp2_with (go_at_call 20; refine (class_any _ _).mono ?_; rintro e w2 ⟨rfl, rfl⟩; rw [HC.out])
        go_roundw
        case rel => exact ⟨ao, c, p + 1, done, rfl, by go_num, by omega, HT.out.skip hp HB.out⟩
        case measure => simp [intOf]; omega
      · -- an operator
        have HC := Lib.hid hc
        have HB := Lib.hid hb
        have hsg := tok1_signL hp hl hd
        have hsl := signLen_le' hp
        generalize hn : Lx.signLen (s.data.toList.drop p) = n at hsg hsl
        have HG := Lib.hid hsg
        have HN := Lib.hid hn
        clear hc hb hl hd hw hsg hn
        by_cases hn0 : n = 0
        · subst hn0
          go_wp2_with (first | (go_at_call 20; refine (class_any _ _).mono ?_; rintro e w2 ⟨rfl, rfl⟩; rw [HC.out]) | (go_at_call 21; refine (sign_any s p _ hs hp).mono ?_; rintro e w2 ⟨rfl, rfl⟩; rw [HN.out]))
          go_ret2
          refine ⟨hbw.out, ?_⟩
          rw [HT.out.fail hp HB.out (by rw [HG.out]; rfl)]
          exact rfl
        · have hnz : ((n : Int) == 0) = false := beq_eq_false_iff_ne.2 (by omega)
          have HT0 := Lib.hid hn0
          have hn1 : 1 ≤ n := by omega
          clear hn0
          have HO := Lib.hid HT.out.own
          go_wp2_with (first | (go_at_call 20; refine (class_any _ _).mono ?_; rintro e w2 ⟨rfl, rfl⟩; rw [HC.out]) | (go_at_call 21; refine (sign_any s p _ hs hp).mono ?_; rintro e w2 ⟨rfl, rfl⟩; rw [HN.out]) | (at_builtin; refine wpList_append_own _ rfl (.tmp 36) (.tmp 45) 23 rfl w.heap.size 30 i0 _ 4 40 Tryd.underlying23 HI.out.1 HI.out.2.1 HI.out.2.2.1 HI.out.2.2.2 rfl (by decide) _ _ _ rfl (HO.out.alloc _) ⟨wr.heap.size, 0, none⟩ 1 1 [.int .i64 3, .string (s.extract p (p + n)), .int .i64 0, .int .i64 p] rfl rfl ?_ ?_ ?_ ?_ ?_ ?_))
          · exact cell_four_new _ rfl _ _ _ _ _
          · exact four_one _ _ _ _
          · unfold maxLen; omega
          · omega
          · simp; omega
          intro v' w3 hown hgrow _
          obtain ⟨g, cap, rfl, hg1, hg2⟩ := own_form hown (by omega)
          have hB3 : Below w.heap.size w w3 := (hbw.out.alloc hwz _).grown hgrow (by simp; omega) (fun j hj => (HO.out.lt j hj).1)
          have HN4 := Lib.hid (Sr.push_sign HT.out hp HB.out (HG.out.trans (if_neg HT0.out)) hsl hown hB3)
          clear hown hgrow hB3
          go_wp2
          go_roundw
          case rel => exact ⟨some ⟨g, 0, none⟩, cap, p + n, _, by simp, by go_num, by omega, HN4.out⟩
          case measure => simp [intOf]; omega
    · go_wp2_with fail
      go_ret2
      refine ⟨hbw.out, ?_⟩
      rw [HT.out.last (by omega)]
      exact ⟨_, rfl, HT.out.own⟩
end Go.Proofs.YtkmdojghimfmeaaDoor
