/- frame.Split. -/
import Derived.Test.YtcfomkbmmpogdaaFrB
import Derived.Outline
set_option linter.unusedVariables false
namespace Go.Proofs.Ytcfomkbmmpogdaa
open Go Go.RowKit

/-- The number that stands at a place. -/
def nAt (l : List UInt8) (at_ : Nat) : Nat := (r32 (sub l at_ l.length)).toNat
theorem r32_bd (l : List UInt8) : 0 ≤ r32 l ∧ r32 l < 4294967296 := by
  unfold r32; have := gB_lt l 0; have := gB_lt l 1; have := gB_lt l 2; have := gB_lt l 3; omega
theorem nAt_r32 (l : List UInt8) (k : Nat) : r32 (sub l k l.length) = (nAt l k : Int) := by
  unfold nAt; have := r32_bd (sub l k l.length); omega
theorem nAt_zero (l : List UInt8) : r32 l = (nAt l 0 : Int) := by
  rw [← nAt_r32]; simp [sub]
/-- What Split tells: the texts, the error's number, its place. -/
def splGo (l : List UInt8) : Nat → Nat → List (List UInt8) → List (List UInt8) × Int × Int
  | 0, k, acc => if k < l.length then ([], 20, k) else (acc, 0, 0)
  | c + 1, k, acc => if l.length < k + 4 ∨ l.length < k + 4 + nAt l k then ([], 20, k)
    else splGo l c (k + 4 + nAt l k) (acc ++ [sub l (k + 4) (k + 4 + nAt l k)])
def splitL (l : List UInt8) : List (List UInt8) × Int × Int :=
  if l.length < 4 ∨ l.length < 4 + nAt l 0 then ([], 20, 0) else splGo l (nAt l 0) 4 []

set_option maxHeartbeats 400000 in
theorem Split1_any (a : Int) (w : World) :
    Calls Try.prog 35 #[.int .i64 a] w fun e w' => ∃ ev, e = .returned (.tuple #[.slice none 0 0, ev]) ∧ ErrIs w' ev 20 a ∧ Q w w' := by
  go_enter Try.func35, Try.ntmps35
  go_wp2_with (go_at_call 25; refine (fault_any _ _ _).mono ?_; rintro e w1 ⟨⟨b, rfl, hf⟩, hq1⟩)
  go_ret2
  exact ⟨_, rfl, .inr ⟨by decide, b, rfl, ‹_›⟩, ‹_›⟩
set_option maxHeartbeats 400000 in
theorem Clone_any (l : List UInt8) (w : World) (hl : l.length ≤ 140737488355328) :
    Calls Try.prog 37 #[.string ⟨l.toArray⟩] w fun e w' => e = .returned (.string ⟨l.toArray⟩) ∧ Q w w' := by
  go_enter Try.func37, Try.ntmps37
  go_wp2_with (go_at_call 49; refine (Try.stringslite_Clone _ _ (by simp [ByteArray.size]; omega)).mono ?_; rintro e w1 ⟨rfl, hq1⟩)
  go_ret
  exact ⟨rfl, ‹_›⟩

def SplitPost (l : List UInt8) (w : World) (e : Ending) (w' : World) : Prop :=
  ∃ A cap ev, e = .returned (.tuple #[.slice A (splitL l).1.length cap, ev]) ∧ (splitL l).1.length ≤ cap ∧ cap ≤ maxLen ∧ StrsAt w' A (splitL l).1.length (splitL l).1 ∧ ErrIs w' ev (splitL l).2.1 (splitL l).2.2 ∧ Q w w'

set_option maxRecDepth 100000 in
set_option maxHeartbeats 2000000 in
theorem Split_any (l : List UInt8) (w : World) (hl : l.length ≤ 1073741824) :
    Calls Try.prog 15 #[.string ⟨l.toArray⟩] w (SplitPost l w) := by
  have n0 := nAt_zero l
  have hn0 := (r32_bd l).2
  rw [n0] at hn0
  have N0 := Lib.hid n0
  clear n0
  by_cases h4 : l.length < 4
  · have hsp : splitL l = ([], 20, 0) := by unfold splitL; rw [if_pos (.inl h4)]
    have HSP := Lib.hid hsp
    clear hsp
    have hd : decide ((l.length : Int) < 4) = true := by simp; omega
    go_enter Try.func15, Try.ntmps15
    go_wp2_with fail
    refine (Split1_any _ _).mono ?_
    rintro e w1 ⟨ev, rfl, he, hq1⟩
    go_wp2_with fail
    go_ret2
    refine ⟨none, 0, ev, by rw [HSP.out]; rfl, ?_⟩
    rw [HSP.out]
    exact ⟨by simp, by simp, ⟨rfl, fun h => by simp at h⟩, he, hq1⟩
  · by_cases hb : l.length < 4 + nAt l 0
    · have hsp : splitL l = ([], 20, 0) := by unfold splitL; rw [if_pos (.inr hb)]
      have HSP := Lib.hid hsp
      clear hsp
      have hd : decide ((l.length : Int) < 4) = false := by simp; omega
      have hd2 : decide ((l.length : Int) - 4 < (nAt l 0 : Int)) = true := by simp; omega
      go_enter Try.func15, Try.ntmps15
      go_wp2_with fail
      refine (read32_any _ _ (by omega)).mono ?_
      rintro e w1 ⟨rfl, hq1⟩
      rw [N0.out]
      go_wp2_with fail
      refine (Split1_any _ _).mono ?_
      rintro e w2 ⟨ev, rfl, he, hq2⟩
      go_wp2_with fail
      go_ret2
      refine ⟨none, 0, ev, by rw [HSP.out]; rfl, ?_⟩
      rw [HSP.out]
      exact ⟨by simp, by simp, ⟨rfl, fun h => by simp at h⟩, he, hq1.trans hq2⟩
    · have hsp : splitL l = splGo l (nAt l 0) 4 [] := by unfold splitL; rw [if_neg (by omega)]
      have HSP := Lib.hid hsp
      clear hsp
      have hd : decide ((l.length : Int) < 4) = false := by simp; omega
      have hd2 : decide ((l.length : Int) - 4 < (nAt l 0 : Int)) = false := by simp; omega
      go_enter Try.func15, Try.ntmps15
      go_wp2_with fail
      refine (read32_any _ _ (by omega)).mono ?_
      rintro e w1 ⟨rfl, hq1⟩
      rw [N0.out]
      go_wp2_with fail
      refine (read32_any _ _ (by omega)).mono ?_
      rintro e w2 ⟨rfl, hq2⟩
      rw [N0.out]
      have hq := hq1.trans hq2
      clear hq1 hq2
      go_wp2_with fail
      go_loopw [5, 6, 25] (fun v z i wr => ∃ (k p : Nat) (ts : List (List UInt8)), k ≤ nAt l 0 ∧ 4 + 4 * k ≤ p ∧ p ≤ l.length ∧ i = .int .i64 k ∧ z = .int .i64 p ∧ ts.length = k ∧ OwnS 9 w wr v (ts.map strV) ∧ Hid (splitL l = splGo l (nAt l 0 - k) p ts) ∧ Q w wr) (fun _ _ i _ => nAt l 0 - (intOf i).toNat)
      case atStart => exact ⟨0, 4, [], by omega, by omega, by omega, rfl, rfl, rfl, OwnS.nil _ _ _, HSP, hq⟩
      case round =>
        obtain ⟨k, p, ts, hk, hp1, hp2, rfl, rfl, hts, hown, hgo, hq⟩ := hrel
        by_cases hlt : k < nAt l 0
        · have hdk : decide (k < nAt l 0) = true := by simp; omega
          obtain ⟨c, hc⟩ : ∃ c, nAt l 0 - k = c + 1 := ⟨nAt l 0 - k - 1, by omega⟩
          have hc' : nAt l 0 - (k + 1) = c := by omega
          have HG : splitL l = splGo l (c + 1) p ts := by rw [← hc]; exact hgo.out
          have HC := Lib.hid hc'
          clear hgo hc hc'
          by_cases h1 : l.length < p + 4
          · have HF : Hid (splitL l = ([], 20, (p : Int))) := by rw [HG, splGo, if_pos (.inl h1)]; rfl
            clear HG
            have hd3 : decide ((l.length : Int) - p < 4) = true := by simp; omega
            go_wp2_with fail
            refine (Split1_any _ _).mono ?_
            rintro e w5 ⟨ev, rfl, he, hq5⟩
            go_wp2_with fail
            go_ret2
            refine ⟨none, 0, ev, by rw [HF.out]; rfl, ?_⟩
            rw [HF.out]
            exact ⟨by simp, by simp, ⟨rfl, fun h => by simp at h⟩, he, hq.trans hq5⟩
          · have hd3 : decide ((l.length : Int) - p < 4) = false := by simp; omega
            have hr := nAt_r32 l p
            have HR := Lib.hid hr
            clear hr
            by_cases h2 : l.length < p + 4 + nAt l p
            · have HF : Hid (splitL l = ([], 20, (p : Int))) := by rw [HG, splGo, if_pos (.inr h2)]; rfl
              clear HG
              have hd4 : decide ((l.length : Int) - p - 4 < (nAt l p : Int)) = true := by simp; omega
              go_wp2_with fail
              refine (read32_any _ _ (by rw [length_sub]; omega)).mono ?_
              rintro e w4 ⟨rfl, hq4⟩
              rw [HR.out]
              go_wp2_with fail
              refine (Split1_any _ _).mono ?_
              rintro e w5 ⟨ev, rfl, he, hq5⟩
              go_wp2_with fail
              go_ret2
              refine ⟨none, 0, ev, by rw [HF.out]; rfl, ?_⟩
              rw [HF.out]
              exact ⟨by simp, by simp, ⟨rfl, fun h => by simp at h⟩, he, (hq.trans hq4).trans hq5⟩
            · have HF : Hid (splitL l = splGo l c (p + 4 + nAt l p) (ts ++ [sub l (p + 4) (p + 4 + nAt l p)])) := by rw [HG, splGo, if_neg (by omega)]; rfl
              clear HG
              have hd4 : decide ((l.length : Int) - p - 4 < (nAt l p : Int)) = false := by simp; omega
              have ht1 : ((p : Int) + 4).toNat = p + 4 := by omega
              have ht2 : ((p : Int) + 4 + (nAt l p : Int)).toNat = p + 4 + nAt l p := by omega
              have hsl := length_sub l (p + 4) (p + 4 + nAt l p)
              have HSL := Lib.hid hsl
              clear hsl
              go_wp2_with fail
              refine (read32_any _ _ (by rw [length_sub]; omega)).mono ?_
              rintro e w4 ⟨rfl, hq4⟩
              rw [HR.out]
              have hq := hq.trans hq4
              have hown := hown.q hq4
              clear hq4
              go_wp2_with fail
              refine (read32_any _ _ (by rw [length_sub]; omega)).mono ?_
              rintro e w5 ⟨rfl, hq5⟩
              rw [HR.out]
              have hq := hq.trans hq5
              have hown := hown.q hq5
              clear hq5
              go_wp2_with fail
              refine (Clone_any _ _ (by rw [HSL.out]; omega)).mono ?_
              rintro e w6 ⟨rfl, hq6⟩
              have hq := hq.trans hq6
              have hown := hown.q hq6
              clear hq6
              have hsz := hq.size
              have hml : ts.length ≤ 1073741824 := by omega
              go_wp2_with (at_builtin; refine wpList_append_one rfl (.tmp 57) (.tmp 63) 31 9 _ 16 oneStr rfl w w6 u5 (strV (sub l (p + 4) (p + 4 + nAt l p))) (ts.map strV) rfl hown rfl rfl hsz (by rw [List.length_map]; unfold maxLen; omega) (by rw [List.length_map]; omega) ?_; intro v' w' hown' hb')
              clear hown hb
              go_roundw
              case rel => exact ⟨k + 1, p + 4 + nAt l p, ts ++ [sub l (p + 4) (p + 4 + nAt l p)], by omega, by omega, by omega, by go_num, by go_num, by simp; omega, by rw [List.map_append]; exact hown', by rw [HC.out]; exact HF, hq.below hb'⟩
              case measure => simp [intOf]; omega
        · obtain rfl : k = nAt l 0 := by omega
          have HG : splitL l = splGo l 0 p ts := by rw [hgo.out, Nat.sub_self]
          clear hgo
          have hdk : decide (nAt l 0 < nAt l 0) = false := by simp
          by_cases h1 : p < l.length
          · have HF : Hid (splitL l = ([], 20, (p : Int))) := by rw [HG, splGo, if_pos h1]; rfl
            clear HG
            have hd3 : decide (p < l.length) = true := by simp; omega
            go_wp2_with fail
            refine (Split1_any _ _).mono ?_
            rintro e w5 ⟨ev, rfl, he, hq5⟩
            go_wp2_with fail
            go_ret2
            refine ⟨none, 0, ev, by rw [HF.out]; rfl, ?_⟩
            rw [HF.out]
            exact ⟨by simp, by simp, ⟨rfl, fun h => by simp at h⟩, he, hq.trans hq5⟩
          · have HF : Hid (splitL l = (ts, 0, 0)) := by rw [HG, splGo, if_neg h1]; rfl
            clear HG
            have hd3 : decide (p < l.length) = false := by simp; omega
            obtain ⟨A, cap, rfl, hc1, hc2, hst⟩ := hown.strs
            go_wp2_with fail
            go_ret2
            refine ⟨A, cap, .nilIface, by rw [HF.out]; rfl, ?_⟩
            rw [HF.out]
            exact ⟨hc1, hc2, hst, .inl ⟨rfl, rfl⟩, hq⟩
end Go.Proofs.Ytcfomkbmmpogdaa
