/- FrameBack: what was listed and packed comes back. -/
import Derived.Test.YtcfomkbmmpogdaaFrG
import Derived.Test.YtcfomkbmmpogdaaFrP
set_option linter.unusedVariables false
namespace Go.Proofs.Ytcfomkbmmpogdaa
open Go Go.RowKit

/-- The texts that are listed: at most 20, of at most 200 bytes each. -/
def ownL (ls : List (List UInt8)) : List (List UInt8) := (ls.take 20).map fun s => s.take 200
theorem ownL_le (ls : List (List UInt8)) : ∀ s ∈ ownL ls, s.length ≤ 200 := by
  intro s hs
  unfold ownL at hs
  obtain ⟨t, _, rfl⟩ := List.mem_map.1 hs
  rw [List.length_take]; omega
theorem szL_bd (ls : List (List UInt8)) (h : ∀ s ∈ ls, s.length ≤ 200) : szL ls ≤ 204 * ls.length := by
  unfold szL
  induction ls with
  | nil => simp
  | cons a t ih =>
    have h1 := h a (by simp)
    have h2 := ih (fun s hs => h s (by simp [hs]))
    simp only [List.map_cons, List.sum_cons, List.length_cons]; omega
theorem ownL_length (ls : List (List UInt8)) : (ownL ls).length = min 20 ls.length := by unfold ownL; simp
theorem ownL_sz (ls : List (List UInt8)) : 4 + szL (ownL ls) ≤ 4084 := by
  have h1 := szL_bd _ (ownL_le ls)
  rw [ownL_length] at h1; omega
theorem ownL_take (ls : List (List UInt8)) (k : Nat) (hk : k < ls.length) (h20 : k < 20) :
    (ls.take (k + 1)).map (fun s => s.take 200) = (ls.take k).map (fun s => s.take 200) ++ [(gL ls k).take 200] := by
  rw [take_snocL ls k hk, List.map_append]; rfl

set_option maxRecDepth 100000 in
set_option maxHeartbeats 4000000 in
theorem FrameBack_any (A : Option Addr) (len cap : Nat) (ls : List (List UInt8)) (e n : Int) (bh : List UInt8) (w : World)
    (hst : StrsAt w A len ls) (hcap : cap ≤ 9223372036854775807) (hlc : len ≤ cap) (hlb : ∀ s ∈ ls, s.length ≤ 9223372036854775807) (hb : bh.length ≤ 140737488355328) :
    Calls Try.prog 4 #[.slice A len cap, .int .i64 e, .int .i64 n, .string ⟨bh.toArray⟩] w fun x w' => x = .returned (.bool true) ∧ Q w w' := by
  have hn := hst.1
  have ho1 := ownL_sz ls
  have ho2 := ownL_length ls
  have ho3 := listL_length (ownL ls)
  have hsp := split_list (ownL ls) (by omega)
  have HO1 := Lib.hid ho1
  have HO2 := Lib.hid ho2
  have HO3 := Lib.hid ho3
  have HSP := Lib.hid hsp
  clear ho1 ho2 ho3 hsp
  go_enter Try.func4, Try.ntmps4
  go_wp2_with fail
  refine (known_any _).mono ?_
  rintro x w1 ⟨rfl, hq⟩
  go_wp2_with fail
  go_loopw [10, 11] (fun v i wr => ∃ k : Nat, k ≤ ls.length ∧ k ≤ 20 ∧ i = .int .i64 k ∧ OwnS 9 w wr v (((ls.take k).map (fun s => s.take 200)).map strV) ∧ Q w wr) (fun _ i _ => 20 - (intOf i).toNat)
  case atStart => exact ⟨0, by omega, by omega, rfl, OwnS.nil _ _ _, hq⟩
  case round =>
    obtain ⟨k, hk, hk20, rfl, hown, hq⟩ := hrel
    by_cases hlt : k < ls.length ∧ k < 20
    · obtain ⟨hlt, h20⟩ := hlt
      have hd1 : decide (k < ls.length) = true := by simp; omega
      have hd2 : decide ((k : Int) < 20) = true := by simp; omega
      obtain ⟨ad, rfl, hc⟩ := (hst.q hq).at (by omega : k < len)
      have hlk : (gL ls k).length ≤ 9223372036854775807 := hlb _ (by unfold gL; simp [List.getD, hlt])
      have HT : Hid ((ls.take (k + 1)).map (fun s => s.take 200) = (ls.take k).map (fun s => s.take 200) ++ [(gL ls k).take 200]) := ownL_take ls k hlt h20
      go_wp2_with fail
      refine (cut_any _ _ _ (by omega) hlk).mono ?_
      rintro x w2 ⟨rfl, rfl⟩
      rw [show (200 : Int).toNat = 200 from rfl]
      have hsz := hq.size
      have hml : ((ls.take k).map (fun s => s.take 200)).length ≤ 20 := by simp; omega
      go_wp2_with (at_builtin; refine wpList_append_one rfl (.tmp 33) (.tmp 39) 31 9 _ 16 oneStr rfl w wr u10 (strV ((gL ls k).take 200)) (((ls.take k).map (fun s => s.take 200)).map strV) rfl hown rfl rfl hsz (by rw [List.length_map]; unfold maxLen; omega) (by rw [List.length_map]; omega) ?_; intro v' w' hown' hb')
      clear hown
      go_roundw
      case rel => exact ⟨k + 1, by omega, by omega, by go_num, by rw [HT.out, List.map_append]; exact hown', hq.below hb'⟩
      case measure => simp [intOf]; omega
    · have hown : OwnS 9 w wr u10 ((ownL ls).map strV) := by
        have e1 : (ls.take k).map (fun s => s.take 200) = ownL ls := by
          unfold ownL
          congr 1
          rcases Nat.lt_or_ge k 20 with h1 | h1
          · rw [List.take_of_length_le (by omega), List.take_of_length_le (by omega)]
          · rw [show k = 20 from by omega]
        rw [e1] at hown; exact hown
      obtain ⟨Ao, co, rfl, hc1, hc2, hso⟩ := hown.strs
      clear hown
      have hcap3 : co ≤ 9223372036854775807 := hc2
      have h2 : k < ls.length → decide ((k : Int) < 20) = false := fun h1 => by
        have h3 : ¬ k < 20 := fun x => hlt ⟨h1, x⟩
        simp; omega
      clear hlt
      have hd : (decide (k < ls.length) = true ∧ decide ((k : Int) < 20) = false) ∨ (decide (k < ls.length) = false ∧ True) := by
        by_cases h1 : k < ls.length
        · exact .inl ⟨by simp; omega, h2 h1⟩
        · exact .inr ⟨by simp; omega, trivial⟩
      rcases hd with ⟨hd1, hd2⟩ | ⟨hd1, hd2⟩
      all_goals
        clear h2
        go_wp2_with fail
        refine (List_ok Ao _ co (ownL ls) _ hso (by have := HO1.out; omega) hcap3).mono ?_
        rintro x w2 ⟨rfl, hq2⟩
        have hso := hso.q hq2
        have hq := hq.trans hq2
        clear hq2
        go_wp2_with fail
        refine (Split_any _ _ (by rw [HO3.out]; have := HO1.out; omega)).mono ?_
        rintro x w4 ⟨A4, cap4, ev4, rfl, _, _, hst4, he4, hq4⟩
        have hlen : (splitL (listL (ownL ls))).1.length = (ownL ls).length := by rw [HSP.out]
        rw [hlen]
        clear hlen
        rw [HSP.out] at he4 hst4
        obtain ⟨_, rfl⟩ := he4.resolve_right (fun x => x.1 rfl)
        have hso := hso.q hq4
        have hq := hq.trans hq4
        clear hq4 he4
        go_wp2_with fail
        go_loopw [16] (fun i wr => ∃ k : Nat, k ≤ (ownL ls).length ∧ i = .int .i64 k ∧ Q w wr ∧ StrsAt wr A4 (ownL ls).length (ownL ls) ∧ StrsAt wr Ao (ownL ls).length (ownL ls)) (fun i _ => (ownL ls).length - (intOf i).toNat)
        case atStart => exact ⟨0, by omega, rfl, hq, hst4, hso⟩
        case round =>
          obtain ⟨k, hk, rfl, hq, ha, hb'⟩ := hrel
          by_cases hlt : k < (ownL ls).length
          · obtain ⟨ad1, rfl, hx⟩ := ha.at hlt
            obtain ⟨ad2, rfl, hy⟩ := hb'.at hlt
            have hx' := fun (m : QW wr) => m.cell hx
            have hy' := fun (m : QW wr) => m.cell hy
            have hd3 : decide (k < (ownL ls).length) = true := by simp; omega
            go_wp2_with fail
            refine wp_region_q (by kernel_rfl) (by kernel_rfl) ?_
            repeat (go_big_quiet_step (fail))
            refine wpQuiet_nil ?_
            rintro _ ⟨⟨w9, hq9⟩, rfl⟩
            have ha := ha.q hq9
            have hb' := hb'.q hq9
            have hq := hq.trans hq9
            clear hx hy hx' hy' hq9
            go_wp2_with fail
            go_roundw
            case rel => exact ⟨k + 1, by omega, by go_num, hq, ha, hb'⟩
            case measure => simp [intOf]; omega
          · obtain rfl : k = (ownL ls).length := by omega
            have hd3 : decide ((ownL ls).length < (ownL ls).length) = false := by simp
            clear ha hb'
            by_cases hr : rightB e n = true
            · obtain ⟨e0, e1, n0, n1⟩ := right_spec hr
              have hpl : (listL (ownL ls)).length ≤ 60000 := by rw [HO3.out]; have := HO1.out; omega
              have hPl := packL_length e n (listL (ownL ls))
              obtain ⟨hU, hN, hS⟩ := packL_unp e n (listL (ownL ls)) bh hr hpl
              have hP1 : (packL e n (listL (ownL ls))).length ≤ 61000 := by have : endsN ((listL (ownL ls)).length : Int) ≤ 61000 := by { unfold endsN; omega }; omega
              have hP2 : (((packL e n (listL (ownL ls))).length : Int) % 64 == 0) = true := by rw [hPl]; unfold endsN; simp
              have hPk := Pack_ok e n (listL (ownL ls))
              generalize packL e n (listL (ownL ls)) = P at *
              generalize listL (ownL ls) = L at *
              have HPL := Lib.hid hPl
              clear hPl
              go_wp2_with fail
              refine (hPk _ hpl hr).mono ?_
              rintro x w5 ⟨rfl, hq5⟩
              have hq := hq.trans hq5
              clear hq5 hPk
              go_wp2_with fail
              refine (Unpack_ok (P ++ bh) e n _ (by rw [List.length_append]; omega) hU).mono ?_
              rintro x w6 ⟨rfl, hq6⟩
              rw [hN, hS, ← HPL.out]
              go_wp2_with fail
              go_ret
              exact ⟨rfl, hq.trans hq6⟩
            · have hr' := rightB_false (by simpa using hr)
              by_cases a1 : e < 0
              · go_wp2_with fail
                go_ret
                exact ⟨rfl, hq⟩
              by_cases a2 : 4611686018427387904 < e
              · go_wp2_with fail
                go_ret
                exact ⟨rfl, hq⟩
              by_cases a3 : n < 0
              · go_wp2_with fail
                go_ret
                exact ⟨rfl, hq⟩
              have a4 : 4294967295 < n := by omega
              go_wp2_with fail
              go_ret
              exact ⟨rfl, hq⟩
end Go.Proofs.Ytcfomkbmmpogdaa
