/- digest.Hex, digest.Unhex. -/
import Derived.Test.YteadblkkbbhpjaaByt
import Derived.Test.YteadblkkbbhpjaaQt
import Derived.Test.YteadblkkbbhpjaaBits
import Derived.Test.YteadblkkbbhpjaaShelf
import Derived.Deep.RegionHeld3
import Derived.Deep.DeepCutAuto
set_option linter.unusedVariables false
namespace Go.Proofs.Yteadblkkbbhpjaa
open Go Go.RowKit
def hexd : List UInt8 := [48, 49, 50, 51, 52, 53, 54, 55, 56, 57, 97, 98, 99, 100, 101, 102]
def hexC (c : UInt8) : List UInt8 := [gB hexd (c.toNat / 16), gB hexd (c.toNat % 16)]
def hexL (l : List UInt8) : List UInt8 := l.flatMap hexC
theorem hexL_length (l : List UInt8) : (hexL l).length = 2 * l.length := by
  induction l with
  | nil => rfl
  | cons a t ih => simp only [hexL, List.flatMap_cons, List.length_append] at *; rw [ih]; simp only [hexC, List.length_cons, List.length_nil]; omega
theorem hexL_snoc (l : List UInt8) (k : Nat) (h : k < l.length) : hexL (l.take (k + 1)) = hexL (l.take k) ++ hexC (gB l k) := by
  rw [List.take_succ_eq_append_getElem h]
  unfold hexL
  rw [List.flatMap_append]
  simp [gB, List.getD, h]
theorem and15 : ∀ c : Nat, c < 256 → bits .and .u8 (c : Int) 15 = ((c % 16 : Nat) : Int) := by decide +kernel
set_option maxRecDepth 100000 in
set_option maxHeartbeats 4000000 in
theorem Hex_any (l : List UInt8) (w : World) (hl : l.length ≤ 140737488355328) :
    Calls Try.prog 22 #[.string ⟨l.toArray⟩] w fun e w' => e = .returned (.string ⟨(hexL l).toArray⟩) ∧ Q w w' := by
  obtain ⟨w1, hmk, hO, hQ⟩ := make_b (2 * l.length) w (by omega)
  obtain ⟨v2, w2, hcv, hO2, hQ2, cap2, hv2⟩ := bytes_of l w1 (by omega)
  rw [hv2] at hcv hO2
  rw [show ((2 * l.length : Nat) : Int) = 2 * (l.length : Int) from by omega] at hmk
  have HO := Lib.hid (hO.q hQ2)
  have HQ := Lib.hid (hQ.trans hQ2)
  have hb2 : w.heap.size < w1.heap.size := by
    rcases hO with ⟨h, _⟩ | ⟨g, cap, cur, fz, hv, hbg, hg, _⟩
    · cases h
    · cases hv; exact lt_of_heap hg
  have HO2 := Lib.hid hO2
  clear hO hQ hO2 hQ2 hv2
  go_enter Try.func22, Try.ntmps22
  go_wp2_with fail
  clear hmk hcv
  go_loopw [3, 13] (fun v i wr => ∃ k K : Nat, k ≤ l.length ∧ K = 2 * k ∧ i = .int .i64 k ∧ v = .slice (some ⟨w.heap.size, 0, none⟩) K (2 * l.length) ∧ OwnB w wr (.slice (some ⟨w.heap.size, 0, none⟩) K (2 * l.length)) (hexL (l.take k)) ∧ Q w wr ∧ OwnB w1 wr (.slice (some ⟨w1.heap.size, 0, none⟩) l.length cap2) l) (fun _ i _ => l.length - (intOf i).toNat)
  case atStart => exact ⟨0, 0, by omega, rfl, rfl, rfl, HO.out, HQ.out, HO2.out⟩
  case round =>
    obtain ⟨k, K, hk, hK, rfl, rfl, hO, hq, hO3⟩ := hrel
    by_cases hlt : k < l.length
    · have hd : decide (k < l.length) = true := by simpa using hlt
      obtain ⟨g, cc, hv, _, _, _, hcell⟩ := hO3.pos (by omega)
      cases hv
      have hc := (hcell k hlt).1
      have hlk : (hexL (l.take k)).length = K := by rw [hexL_length, List.length_take, hK]; omega
      have hroom : K + 2 ≤ 2 * l.length := by omega
      have HSN := Lib.hid (hexL_snoc l k hlt)
      generalize hexL (l.take k) = F at *
      have hcn := (gB l k).toNat_lt
      generalize gB l k = c at *
      have hC : hexC c = [gB hexd (c.toNat / 16), gB hexd (c.toNat % 16)] := rfl
      have a1 := and15 c.toNat hcn
      have i1 : (c.toNat : Int) / 16 < 16 := by omega
      have i2 : (0 : Int) ≤ (c.toNat : Int) / 16 := by omega
      have i3 : (c.toNat : Int) % 16 < 16 := by omega
      have i4 : (0 : Int) ≤ (c.toNat : Int) % 16 := by omega
      have n1 : ((c.toNat : Int) / 16).toNat = c.toNat / 16 := by omega
      have n2 : ((c.toNat : Int) % 16).toNat = c.toNat % 16 := by omega
      have hsz := lt_of_cell hc
      have hszd : Hid (w.heap.size < wr.drew.heap.size) := Lib.hid (by show w.heap.size < wr.heap.size; simp at hsz; omega)
      have HSZ := Lib.hid hsz
      have HC := Lib.hid hC
      have HKK := Lib.hid hK
      have HO := Lib.hid (hO.q (Q.refl wr).drew)
      have HQ := Lib.hid hq.drew
      have HO3 := Lib.hid (hO3.q (Q.refl wr).drew)
      have HLK := Lib.hid hlk
      clear hO hq hO3 hcell hC hlk hK hsz
      go_upto_region 5 with (fail)
      clear hc
      go_region_held3 (fun w' => True) (trivial) ((refine step_append_room_b (by rfl) (.tmp 17) (.tmp 24) (by rfl) w wr.drew w.heap.size K (2 * l.length) F HLK.out (by rfl) HO.out hszd.out [gB hexd (c.toNat / 16), gB hexd (c.toNat % 16)] 2 rfl (by rfl) hroom ?_; intro w9 hown2 hg2))
      all_goals
        have HO9 := Lib.hid hown2
        have HG9 := Lib.hid hg2
        clear hown2 hg2 a1 i1 i2 i3 i4 n1 n2
        go_wp2_with fail
        go_roundw
        case rel =>
          refine ⟨k + 1, K + 2, by omega, by have := HKK.out; omega, by go_num, rfl, by rw [HSN.out, HC.out]; exact HO9.out, ?_, OwnB.g HO3.out HG9.out ?_⟩
          · exact gb_q_own (v := .slice (some ⟨w.heap.size, 0, none⟩) K (2 * l.length)) HG9.out HQ.out (by intro x hx; simp [Value.ownBlock] at hx; omega)
          · intro x hx e
            simp [Value.ownBlock] at hx e
            omega
        case measure => simp [intOf]; omega
    · obtain rfl : k = l.length := by omega
      have hd : decide (l.length < l.length) = false := by simp
      rw [List.take_length] at hO
      have hcv := conv_b hO
      have HQ := Lib.hid hq
      clear hO hq hO3 hK
      go_wp2_with fail
      go_ret
      exact ⟨rfl, HQ.out⟩

/-! Unhex. -/
def hexI (c : UInt8) : Int := Lib.indexByte hexd c
theorem hexI_bd (c : UInt8) : -1 ≤ hexI c ∧ hexI c ≤ 15 := by
  have h : ∀ n : Nat, n < 256 → -1 ≤ hexI (UInt8.ofNat n) ∧ hexI (UInt8.ofNat n) ≤ 15 := by decide +kernel
  have := h c.toNat c.toNat_lt
  rwa [UInt8.ofNat_toNat] at this
def sixteen : List UInt8 := hexd
theorem ib_hex (c : UInt8) (w : World) : Calls Try.prog 50 #[.string ⟨#[48, 49, 50, 51, 52, 53, 54, 55, 56, 57, 97, 98, 99, 100, 101, 102]⟩, .int .u8 (c.toNat : Int)] w fun e w' => e = .returned (.int .i64 (hexI c)) ∧ w = w' :=
  (Try.strings_IndexByte _ _ _).mono fun e w' ⟨h1, h2⟩ => ⟨by rw [h1]; simp [hexI, hexd], h2.symm⟩
def pairV (l : List UInt8) (j : Nat) : UInt8 := byteOf (16 * hexI (gB l (2 * j)) + hexI (gB l (2 * j + 1)))
def pairsL (l : List UInt8) (n : Nat) : List UInt8 := (List.range n).map (pairV l)
def badHex (l : List UInt8) : Option Nat := (List.range l.length).find? fun i => decide (hexI (gB l i) < 0)
def unhexL (l : List UInt8) : List UInt8 × Int × Int :=
  match badHex l with
  | some i => ([], 50, i)
  | none => if l.length % 2 = 1 then ([], 50, l.length) else (pairsL l (l.length / 2), 0, 0)
theorem find_range_some {p : Nat → Bool} {n k : Nat} (hk : k < n) (h1 : ∀ j, j < k → p j = false) (h2 : p k = true) : (List.range n).find? p = some k := by
  rw [List.find?_range_eq_some]
  exact ⟨h2, by simpa using hk, fun j hj => by rw [h1 j hj]; rfl⟩
theorem find_range_none {p : Nat → Bool} {n : Nat} (h1 : ∀ j, j < n → p j = false) : (List.range n).find? p = none := by
  rw [List.find?_eq_none]
  intro j hj
  rw [h1 j (List.mem_range.1 hj)]
  decide
theorem pairsL_succ (l : List UInt8) (n : Nat) : pairsL l (n + 1) = pairsL l n ++ [pairV l n] := by
  unfold pairsL; rw [List.range_succ, List.map_append]; rfl
def halfV (l : List UInt8) (k : Nat) : Int := if k % 2 = 1 then hexI (gB l (k - 1)) else 0
def UnPost (r : List UInt8 × Int × Int) (w : World) (e : Ending) (w' : World) : Prop := e = .returned (.tuple #[.string ⟨r.1.toArray⟩, .int .i64 r.2.1, .int .i64 r.2.2]) ∧ Q w w'
set_option maxRecDepth 100000 in
set_option maxHeartbeats 4000000 in
theorem Unhex_any (l : List UInt8) (w : World) (hl : l.length ≤ 281474976710656) : Calls Try.prog 21 #[.string ⟨l.toArray⟩] w (UnPost (unhexL l) w) := by
  go_enter Try.func21, Try.ntmps21
  go_wp2_with fail
  go_loopw [5, 6, 11] (fun v h i wr => ∃ k : Nat, k ≤ l.length ∧ i = .int .i64 k ∧ h = .int .i64 (halfV l k) ∧ Hid (∀ j, j < k → 0 ≤ hexI (gB l j)) ∧ OwnB w wr v (pairsL l (k / 2)) ∧ Q w wr) (fun _ _ i _ => l.length - (intOf i).toNat)
  case atStart => exact ⟨0, by omega, rfl, rfl, Lib.hid (fun j hj => by omega), OwnB.nil _ _, Q.refl _⟩
  case round =>
    obtain ⟨k, hk, rfl, rfl, hgood, hO, hq⟩ := hrel
    by_cases hlt : k < l.length
    · have hd : decide (k < l.length) = true := by simpa using hlt
      have hb := hexI_bd (gB l k)
      have HO := Lib.hid hO
      have HQ := Lib.hid hq
      clear hO hq
      by_cases hbad : hexI (gB l k) < 0
      · have hdb : decide (hexI (gB l k) < 0) = true := by simpa using hbad
        have hres : unhexL l = ([], 50, (k : Int)) := by
          unfold unhexL
          rw [show badHex l = some k from find_range_some hlt (fun j hj => by have := hgood.out j hj; simp; omega) (by simpa using hbad)]
        have HR := Lib.hid hres
        clear hres
        go_wp2_with (go_at_call 50; refine (ib_hex _ _).mono ?_; rintro e w' ⟨rfl, rfl⟩)
        go_ret3
        exact ⟨by rw [HR.out]; rfl, HQ.out⟩
      · have hdb : decide (hexI (gB l k) < 0) = false := by simpa using hbad
        have hg2 : Hid (∀ j, j < k + 1 → 0 ≤ hexI (gB l j)) := Lib.hid fun j hj => by
          by_cases e : j = k
          · subst e; omega
          · exact hgood.out j (by omega)
        by_cases hodd : k % 2 = 1
        · have ht : ((k : Int) % 2 == 1) = true := by simp; omega
          have hh : halfV l k = hexI (gB l (k - 1)) := by unfold halfV; rw [if_pos hodd]
          have hb2 := hexI_bd (gB l (k - 1))
          have hb3 := hgood.out (k - 1) (by omega)
          have hh2 : halfV l (k + 1) = 0 := by unfold halfV; rw [if_neg (by omega)]
          have hp : pairV l (k / 2) = byteOf (16 * hexI (gB l (k - 1)) + hexI (gB l k)) := by unfold pairV; rw [show 2 * (k / 2) = k - 1 from by omega, show k - 1 + 1 = k from by omega]
          have hps := pairsL_succ l (k / 2)
          rw [hp, show k / 2 + 1 = (k + 1) / 2 from by omega] at hps
          rw [hh]
          have hll : (pairsL l (k / 2)).length + 1 ≤ 140737488355329 := by simp [pairsL]; omega
          generalize pairsL l (k / 2) = F at *
          generalize hexI (gB l (k - 1)) = d1 at *
          generalize hD2 : hexI (gB l k) = d2 at *
          have hor : bits .or .i64 (d1 * 16) d2 = d1 * 16 + d2 := or_i64 4 (d1 * 16) d2 (by omega) (by omega) (by omega) (by omega) (by omega) (by omega)
          have hby : ((byteOf (16 * d1 + d2)).toNat : Int) = d1 * 16 + d2 := by rw [byteOf_int _ (by omega) (by omega)]; omega
          generalize byteOf (16 * d1 + d2) = BB at *
          rw [← hby] at hor
          have h256 : (BB.toNat : Int) < 256 := by omega
          clear hby
          have HD2 := Lib.hid hD2
          have HH2 := Lib.hid hh2
          have HPS := Lib.hid hps
          have HLL := Lib.hid hll
          clear hD2 hh2 hps hll hh hp
          go_upto_region 11 with (go_at_call 50; refine (ib_hex _ _).mono ?_; rintro e w' ⟨rfl, rfl⟩; rw [HD2.out])
          go_wp2_with (at_builtin; refine wpList_append_b rfl (.tmp 28) (.tmp 31) rfl w wr _ F (by rfl) HO.out HQ.out [BB] 1 rfl (by rfl) (by have := HLL.out; omega) ?_; intro v2 w2 hown2 hq2 _; have HO2 := Lib.hid hown2; have HQ2 := Lib.hid hq2; clear hown2 hq2)
          go_roundw
          case rel => exact ⟨k + 1, by omega, by go_num, by rw [HH2.out], hg2, by rw [HPS.out]; exact HO2.out, HQ2.out⟩
          case measure => simp [intOf]; omega
        · have ht : ((k : Int) % 2 == 1) = false := by simp; omega
          have hh : halfV l k = 0 := by unfold halfV; rw [if_neg hodd]
          have hh2 : halfV l (k + 1) = hexI (gB l k) := by unfold halfV; rw [if_pos (by omega)]; rfl
          have hps : pairsL l ((k + 1) / 2) = pairsL l (k / 2) := by rw [show (k + 1) / 2 = k / 2 from by omega]
          rw [hh]
          generalize hD2 : hexI (gB l k) = d2 at *
          have hor : bits .or .i64 0 d2 = d2 := by have := or_i64 4 0 d2 (by omega) (by omega) (by omega) (by omega) (by omega) (by omega); simpa using this
          have HD2 := Lib.hid hD2
          have HH2 := Lib.hid hh2
          have HPS := Lib.hid hps
          clear hD2 hh2 hps hh
          go_wp2_with (go_at_call 50; refine (ib_hex _ _).mono ?_; rintro e w' ⟨rfl, rfl⟩; rw [HD2.out])
          go_roundw
          case rel => exact ⟨k + 1, by omega, by go_num, by rw [HH2.out], hg2, by rw [HPS.out]; exact HO.out, HQ.out⟩
          case measure => simp [intOf]; omega
    · obtain rfl : k = l.length := by omega
      have hd : decide (l.length < l.length) = false := by simp
      have hbn : badHex l = none := find_range_none (fun j hj => by have := hgood.out j hj; simp; omega)
      by_cases hodd : l.length % 2 = 1
      · have ht : ((l.length : Int) % 2 == 1) = true := by simp; omega
        have hres : unhexL l = ([], 50, (l.length : Int)) := by unfold unhexL; rw [hbn]; simp only; rw [if_pos hodd]
        have HR := Lib.hid hres
        have HQ := Lib.hid hq
        clear hres hbn hO hq hgood
        go_wp2_with fail
        go_ret3
        exact ⟨by rw [HR.out]; rfl, HQ.out⟩
      · have ht : ((l.length : Int) % 2 == 1) = false := by simp; omega
        have hres : unhexL l = (pairsL l (l.length / 2), 0, 0) := by unfold unhexL; rw [hbn]; simp only; rw [if_neg hodd]
        have hcv := conv_b hO
        have HR := Lib.hid hres
        have HQ := Lib.hid hq
        clear hres hbn hO hq hgood
        go_wp2_with fail
        go_ret3
        exact ⟨by rw [HR.out]; rfl, HQ.out⟩
end Go.Proofs.Yteadblkkbbhpjaa
