/- DigestPieces: what the law answers. -/
import Derived.Test.YteadblkkbbhpjaaDgP
set_option linter.unusedVariables false
namespace Go.Proofs.Yteadblkkbbhpjaa
open Go Go.RowKit
theorem flat_snoc (ls : List (List UInt8)) (k : Nat) (h : k < ls.length) : (ls.take (k + 1)).flatten = (ls.take k).flatten ++ gL ls k := by
  rw [List.take_succ_eq_append_getElem h, List.flatten_append]; simp [gL, List.getD, h]
theorem flat_take (ls : List (List UInt8)) (k : Nat) : (ls.take k).flatten.length ≤ ls.flatten.length := by
  have h : ls.flatten = (ls.take k).flatten ++ (ls.drop k).flatten := by rw [← List.flatten_append, List.take_append_drop]
  rw [h, List.length_append]; omega
set_option maxRecDepth 100000 in
set_option maxHeartbeats 4000000 in
theorem DigestPieces_any (A : Option Addr) (n cap : Nat) (ls : List (List UInt8)) (w : World) (h : StrsAt w A n ls) (hcap : cap ≤ 9223372036854775807) (hnc : n ≤ cap) (htot : ls.flatten.length ≤ 1048576) :
    Calls Try.prog 11 #[.slice A n cap] w fun e w' => e = .returned (.bool true) ∧ Q w w' := by
  have hn := h.1
  have HA := Lib.hid h
  have HN := Lib.hid hn
  clear h hn
  go_enter Try.func11, Try.ntmps11
  go_wp2_with fail
  with_reducible refine (examples_any _).mono ?_
  rintro e w1 ⟨rfl, hq1⟩
  have HQ1 := Lib.hid hq1
  clear hq1
  go_wp2_with fail
  with_reducible refine (SNew_any _).mono ?_
  rintro e w2 ⟨g, hl, sl, hs, ss, rfl, ⟨a1, a2, a3, a4, a5⟩, hS, hq2⟩
  have s1 := HQ1.out.size
  have hgl : g < w2.heap.size := lt_of_cell hS.c0
  have hll := ToldAt.ltH hS.long
  have hsl := ToldAt.ltS hS.long
  have hls := ToldAt.ltH hS.short
  have hss := ToldAt.ltS hS.short
  have HS2 := Lib.hid hS
  have HQ2 := Lib.hid (HQ1.out.trans hq2)
  clear hS hq2 HQ1
  go_wp2_with fail
  with_reducible refine (SNew_any _).mono ?_
  rintro e w3 ⟨g', hl', sl', hs', ss', rfl, ⟨b1, b2, b3, b4, b5⟩, hS', hq3⟩
  have HS' := Lib.hid hS'
  have HS3 := Lib.hid (HS2.out.q hq3)
  have HQ3 := Lib.hid (HQ2.out.trans hq3)
  clear hS' hq3 HQ2 HS2
  go_wp2_with fail
  go_loopw [6, 7] (fun v i wr => ∃ k : Nat, k ≤ n ∧ i = .int .i64 k ∧ v = .string ⟨(ls.take k).flatten.toArray⟩ ∧ SumsAt wr g hl sl hs ss (ls.take k).flatten ∧ GX [g, hl, sl, hs, ss] w3 wr) (fun _ i _ => n - (intOf i).toNat)
  case atStart => exact ⟨0, by omega, rfl, rfl, HS3.out, GX.refl _ _⟩
  case round =>
    obtain ⟨k, hk, rfl, rfl, hS, hG⟩ := hrel
    have hft := flat_take ls k
    have hq : Q w wr := hG.toQ HQ3.out (by intro x hx; simp at hx; omega)
    by_cases hlt : k < n
    · have hd : decide (k < n) = true := by simpa using hlt
      obtain ⟨ad, rfl, hc0⟩ := HA.out.at hlt
      have hc := hq.cell hc0
      have hsn := flat_snoc ls k (by rw [← HN.out]; exact hlt)
      have hft2 := flat_take ls (k + 1)
      rw [hsn] at hft2
      have hTp : ((ls.take k).flatten ++ gL ls k).length = (ls.take k).flatten.length + (gL ls k).length := List.length_append
      generalize (ls.take k).flatten = T at *
      generalize gL ls k = p at *
      have HSN := Lib.hid hsn
      have HS := Lib.hid hS
      have HG := Lib.hid hG
      have HC0 := Lib.hid hc0
      have HTP := Lib.hid hTp
      have hTpb : T.length + p.length ≤ 1048576 := by omega
      clear hsn hS hG hc0 hq hTp HS3
      go_wp2_with fail
      with_reducible refine (SWrite_any g hl sl hs ss T p _ HS.out (by rw [HTP.out] at hft2; omega)).mono ?_
      rintro e w4 ⟨rfl, hS4, hG4⟩
      have hq4 : Q w w4 := (HG.out.trans hG4).toQ HQ3.out (by intro x hx; simp at hx; omega)
      have hc := hq4.cell HC0.out
      have HS4 := Lib.hid hS4
      have HG4 := Lib.hid (HG.out.trans hG4)
      clear hS4 hG4 hq4 HS HG
      go_upto_region 12 with (fail)
      clear hc
      generalize T ++ p = U at *
      by_cases h3 : k % 3 = 0
      · have t3 : ((k : Int) % 3 == 0) = true := by simp; omega
        have H3 := Lib.hid h3
        clear h3
        go_wp2_with fail
        with_reducible refine (SSum256_any g hl sl hs ss U _ HS4.out).mono ?_
        rintro e w5 ⟨rfl, hq5⟩
        have HS5 := Lib.hid (HS4.out.q hq5)
        have HG5 := Lib.hid (HG4.out.trans (GX.q hq5))
        clear hq5 HS4 HG4
        go_wp2_with fail
        with_reducible refine (Sum256_any U _ (by omega)).mono ?_
        rintro e w6 ⟨rfl, hq6⟩
        have HS6 := Lib.hid (HS5.out.q hq6)
        have HG6 := Lib.hid (HG5.out.trans (GX.q hq6))
        clear hq6 HS5 HG5
        go_wp2_with fail
        with_reducible refine (SSum5_any g hl sl hs ss U _ HS6.out).mono ?_
        rintro e w7 ⟨rfl, hq7⟩
        have HS7 := Lib.hid (HS6.out.q hq7)
        have HG7 := Lib.hid (HG6.out.trans (GX.q hq7))
        clear hq7 HS6 HG6
        go_wp2_with fail
        with_reducible refine (Sum5_any U _ (by omega)).mono ?_
        rintro e w8 ⟨rfl, hq8⟩
        have HS8 := Lib.hid (HS7.out.q hq8)
        have HG8 := Lib.hid (HG7.out.trans (GX.q hq8))
        clear hq8 HS7 HG7
        go_wp2_with fail
        with_reducible refine (SSize_any g hl sl hs ss U _ HS8.out).mono ?_
        rintro e w9 ⟨rfl, rfl⟩
        go_wp2_with fail
        go_roundw
        case rel => exact ⟨k + 1, by omega, by go_num, by rw [HSN.out], by rw [HSN.out]; exact HS8.out, HG8.out⟩
        case measure => simp [intOf]; omega
      · have t3 : ((k : Int) % 3 == 0) = false := by simp; omega
        have H3 := Lib.hid h3
        clear h3
        go_wp2_with fail
        with_reducible refine (SSize_any g hl sl hs ss U _ HS4.out).mono ?_
        rintro e w9 ⟨rfl, rfl⟩
        go_wp2_with fail
        go_roundw
        case rel => exact ⟨k + 1, by omega, by go_num, by rw [HSN.out], by rw [HSN.out]; exact HS4.out, HG4.out⟩
        case measure => simp [intOf]; omega
    · obtain rfl : k = n := by omega
      have hd : decide (k < k) = false := by simp
      generalize (ls.take k).flatten = T at *
      have HS := Lib.hid hS
      have HQ := Lib.hid hq
      have HO := Lib.hid (HS'.out.x hG (by simp; omega))
      clear hS hq hG HS3
      go_wp2_with fail
      with_reducible refine (SSum256_any g hl sl hs ss T _ HS.out).mono ?_
      rintro e w5 ⟨rfl, hq5⟩
      have HS5 := Lib.hid (HS.out.q hq5)
      have HO5 := Lib.hid (HO.out.q hq5)
      have HQ5 := Lib.hid (HQ.out.trans hq5)
      clear hq5 HS HO HQ
      go_wp2_with fail
      with_reducible refine (Sum256_any T _ (by omega)).mono ?_
      rintro e w6 ⟨rfl, hq6⟩
      have HS6 := Lib.hid (HS5.out.q hq6)
      have HO6 := Lib.hid (HO5.out.q hq6)
      have HQ6 := Lib.hid (HQ5.out.trans hq6)
      clear hq6 HS5 HO5 HQ5
      go_wp2_with fail
      with_reducible refine (SSum5_any g hl sl hs ss T _ HS6.out).mono ?_
      rintro e w7 ⟨rfl, hq7⟩
      have HO7 := Lib.hid (HO6.out.q hq7)
      have HQ7 := Lib.hid (HQ6.out.trans hq7)
      clear hq7 HS6 HO6 HQ6
      go_wp2_with fail
      with_reducible refine (Sum5_any T _ (by omega)).mono ?_
      rintro e w8 ⟨rfl, hq8⟩
      have HO8 := Lib.hid (HO7.out.q hq8)
      have HQ8 := Lib.hid (HQ7.out.trans hq8)
      clear hq8 HO7 HQ7
      go_wp2_with fail
      with_reducible refine (SSize_any g' hl' sl' hs' ss' [] _ HO8.out).mono ?_
      rintro e w9 ⟨rfl, rfl⟩
      go_wp2_with fail
      with_reducible refine (SSum5_any g' hl' sl' hs' ss' [] _ HO8.out).mono ?_
      rintro e w10 ⟨rfl, hq10⟩
      have HQ10 := Lib.hid (HQ8.out.trans hq10)
      clear hq10 HO8 HQ8
      go_wp2_with fail
      with_reducible refine (Sum5_any [] _ (by simp)).mono ?_
      rintro e w11 ⟨rfl, hq11⟩
      have HQ11 := Lib.hid (HQ10.out.trans hq11)
      clear hq11 HQ10
      go_wp2_with fail
      go_ret
      exact ⟨rfl, HQ11.out⟩
end Go.Proofs.Yteadblkkbbhpjaa
