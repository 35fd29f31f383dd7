/- FrameAgain: what can be taken apart is a List of what it is. -/
import Derived.Test.YtcfomkbmmpogdaaFrG
import Derived.Test.YtcfomkbmmpogdaaFrP
set_option linter.unusedVariables false
namespace Go.Proofs.Ytcfomkbmmpogdaa
open Go Go.RowKit

theorem mem_szL (ls : List (List UInt8)) (s : List UInt8) (h : s ∈ ls) : s.length ≤ szL ls := by
  unfold szL
  induction ls with
  | nil => cases h
  | cons a t ih =>
    simp only [List.map_cons, List.sum_cons]
    rcases List.mem_cons.1 h with rfl | h
    · omega
    · have := ih h; omega

set_option maxRecDepth 100000 in
set_option maxHeartbeats 1000000 in
theorem FrameAgain_any (s : List UInt8) (w : World) (hl : s.length ≤ 1048576) :
    Calls Try.prog 5 #[.string ⟨s.toArray⟩] w fun x w' => x = .returned (.bool true) ∧ Q w w' := by
  have hcode := split_code s
  have hzero := split_zero s
  have hback := list_split s
  rcases hR : splitL s with ⟨ts, c, a⟩
  rw [hR] at hcode hzero
  have hlen : (splitL s).1.length = ts.length := by rw [hR]
  have HR := Lib.hid hR
  have HL := Lib.hid hlen
  clear hR hlen
  by_cases hc : c = 0
  · subst hc
    have ha := hzero rfl
    simp only at ha
    subst ha
    have hls := hback ts HR.out
    have hsz := listL_length ts
    rw [hls] at hsz
    have HS := Lib.hid hls
    clear hcode hzero hback hls
    by_cases hb : 4 + szL ts ≤ 60000
    · go_enter Try.func5, Try.ntmps5
      go_wp2_with fail
      refine (known_any _).mono ?_
      rintro x w1 ⟨rfl, hq⟩
      go_wp2_with fail
      refine (Split_any _ _ (by omega)).mono ?_
      rintro e w4 ⟨A, cap, ev4, rfl, hcap1, hcap2, hst, he4, hq4⟩
      rw [HR.out] at hcap1 hst he4
      rw [HL.out]
      obtain ⟨_, rfl⟩ := he4.resolve_right (fun x => x.1 rfl)
      have hq := hq.trans hq4
      clear hq4 he4
      have hcap3 : cap ≤ 9223372036854775807 := hcap2
      go_wp2_with fail
      refine (List_ok A _ cap ts _ hst hb hcap3).mono ?_
      rintro e w5 ⟨rfl, hq5⟩
      rw [HS.out]
      go_wp2_with fail
      go_ret
      exact ⟨rfl, hq.trans hq5⟩
    · go_enter Try.func5, Try.ntmps5
      go_wp2_with fail
      refine (known_any _).mono ?_
      rintro x w1 ⟨rfl, hq⟩
      go_wp2_with fail
      refine (Split_any _ _ (by omega)).mono ?_
      rintro e w4 ⟨A, cap, ev4, rfl, hcap1, hcap2, hst, he4, hq4⟩
      rw [HR.out] at hcap1 hst he4
      rw [HL.out]
      obtain ⟨_, rfl⟩ := he4.resolve_right (fun x => x.1 rfl)
      have hq := hq.trans hq4
      clear hq4 he4
      have hcap3 : cap ≤ 9223372036854775807 := hcap2
      go_wp2_with fail
      refine (List_bad A _ cap ts _ hst (by omega) hcap3 hcap1 (fun x hx => by have := mem_szL ts x hx; omega)).mono ?_
      rintro e w5 ⟨ev5, rfl, he5, hq5⟩
      obtain ⟨_, b, rfl, _⟩ := he5.resolve_left (fun x => absurd x.1 (by decide))
      have hd : decide (60000 < (s.length : Int)) = true := by simp; omega
      go_wp2_with fail
      go_ret
      exact ⟨ret_eq (congrArg Value.bool (by simp; omega)), hq.trans hq5⟩
  · obtain ⟨hc2, ht⟩ := hcode.resolve_left hc
    simp only at hc2 ht
    subst hc2 ht
    clear hcode hzero hback
    go_enter Try.func5, Try.ntmps5
    go_wp2_with fail
    refine (known_any _).mono ?_
    rintro x w1 ⟨rfl, hq⟩
    go_wp2_with fail
    refine (Split_any _ _ (by omega)).mono ?_
    rintro e w4 ⟨A, cap, ev4, rfl, hcap1, hcap2, hst, he4, hq4⟩
    rw [HR.out] at he4
    rw [HL.out]
    obtain ⟨_, b, rfl, _⟩ := he4.resolve_left (fun x => hc x.1)
    have hq := hq.trans hq4
    clear hq4 he4
    go_wp2_with fail
    go_ret
    exact ⟨rfl, hq⟩
end Go.Proofs.Ytcfomkbmmpogdaa
