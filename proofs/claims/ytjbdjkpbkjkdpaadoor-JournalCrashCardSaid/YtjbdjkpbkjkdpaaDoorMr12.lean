/- Texts of this proof, laid into one: JqH. -/
import Derived.Test.YtjbdjkpbkjkdpaaDoorMr11
/- JournalCrash, walked. -/
set_option linter.unusedVariables false
set_option linter.unusedSimpArgs false
namespace Go.Proofs.YtjbdjkpbkjkdpaaDoor
open Go Go.RowKit
theorem append_strs (w0 w : World) (v : Value) (us : List Value) (ls : List (List UInt8)) (A : Option Addr) (c : Nat) (ty : TypeId) (hown : OwnS 9 w0 w v us) (hp : StrsAt w A ls.length ls) (hb : (us.length + ls.length) * 16 ≤ 140737488355328) (hq : w0.heap.size ≤ w.heap.size) :
    ∃ v' w', (Builtin.append_ #[22, 22] ty #[v, .slice A ls.length c]).run Tryd.prog w = .ok v' w' ∧ OwnS 9 w0 w' v' (us ++ ls.map strV) ∧ w.grownBy w' v.ownBlock := by
  obtain ⟨i, hi, hz, hsz, hby⟩ := info_parts oneStr'.info
  cases A with
  | some ad =>
    have hnews : ∀ j u, (ls.map strV)[j]? = some u → w.cell? (ad.add j) = some u := by
      intro j u hu
      have hj : j < ls.length := by have := (List.getElem?_eq_some_iff.1 hu).1; rwa [List.length_map] at this
      obtain ⟨ad2, e, hc⟩ := hp.2 (by omega)
      cases e
      rw [hc j hj, ← hu, List.getElem?_map, List.getElem?_eq_getElem hj]
      rfl
    obtain ⟨v', w', hr, h2, h3, _⟩ := run_append_own (P := Tryd.prog) w w0.heap.size 22 ty 9 i _ 1 16 oneStr'.under hi hz hsz hby oneStr'.zsize (by decide) v us.length us hown ad ls.length c (ls.map strV) (by simp) hnews (by
      intro u hu
      obtain ⟨s, _, rfl⟩ := List.mem_map.1 hu
      rfl) (by unfold maxLen; omega) hb hq
    refine ⟨v', w', hr, ?_, h3⟩
    unfold OwnS
    rw [List.length_append, List.length_map]
    exact h2
  | none =>
    have h0 : ls = [] := by
      rcases Nat.eq_zero_or_pos ls.length with h | h
      · exact List.eq_nil_of_length_eq_zero h
      · obtain ⟨ad, e, _⟩ := hp.2 h; cases e
    subst h0
    have hu := oneStr'.under
    refine ⟨v, w, ?_, by rw [List.map_nil, List.append_nil]; exact hown, ⟨rfl, rfl, rfl, Nat.le_refl _, fun _ _ _ => rfl⟩⟩
    rcases hown.2 with ⟨rfl, h0⟩ | ⟨g, cap, cur, rfl, h1, h2, h3, _⟩
    · simp [Builtin.append_, run_underlying hu, sizeOf, typeInfo, hi, Builtin.lenOf, Builtin.firstCells]
    · simp [Builtin.append_, run_underlying hu, sizeOf, typeInfo, hi, Builtin.lenOf, h3, Builtin.firstCells, storeCells]
/-- append(l, x...). -/
theorem wpList_append_strs {ops : Array Oper} {rest : List Oper} {o : Oper} {a : Act} {R : Exit → Act → World → Prop} (hgd : o.guard = none) (s x : Operand)
    (ho : o.op = .call { callee := .builtin .append, args := #[s, x], argTypes := #[22, 22] })
    (w0 W : World) (v : Value) (us : List Value) (ls : List (List UInt8)) (A : Option Addr) (n c : Nat) (hn : ls.length = n) (hs : a.eval s = v) (hown : OwnS 9 w0 W v us) (hx : a.eval x = .slice A n c) (hp : StrsAt W A n ls) (hq : w0.heap.size ≤ W.heap.size) (hb : (us.length + n) * 16 ≤ 140737488355328)
    (h : ∀ v' w', OwnS 9 w0 w' v' (us ++ ls.map strV) → W.grownBy w' v.ownBlock → wpList Tryd.prog ops R rest (a.put o.dst v') w') : wpList Tryd.prog ops R (o :: rest) a W := by
  subst hn
  obtain ⟨v', w', hr, h2, h3⟩ := append_strs w0 W v us ls A c o.type hown hp hb hq
  refine wpList_plain hgd fun K hK => ?_
  unfold Oper.wp execOp
  simp only [ho, resolve, invoke, builtin, Sem.run_bind, Sem.run_pure, Result.andThen_ok, List.map_toArray, List.map_cons, List.map_nil, hs, hx, hr]
  exact hK _ _ (h v' w' h2 h3)
theorem WrapAt.k {w0 w w' : World} {b : Nat} {c : Int} (h : WrapAt w b c) (hk : K w0 [] w w') : WrapAt w' b c := by
  obtain ⟨b2, h1, h2⟩ := h
  exact ⟨b2, hk.heap (by simp) (by decide) h1, h2.k hk (by simp)⟩
set_option maxRecDepth 100000 in
set_option maxHeartbeats 32000000 in
theorem JournalCrash_walk (A C : Option Addr) (ca n cc : Nat) (la : List (List UInt8)) (last : List UInt8) (bs : List Bool) (fuse torn : Int) (w : World) (hA : StrsAt w A la.length la) (hba : la.length ≤ 9223372036854775807) (hsa : ∀ s ∈ la, s.length ≤ 9223372036854775807) (hls : last.length ≤ 140737488355328)
    (hf : -9223372036854775808 ≤ fuse ∧ fuse ≤ 9223372036854775807) (hC : BoolsAt w C n bs) (het : ErrT w) :
    Calls Tryd.prog 6 #[.slice A la.length ca, .string ⟨last.toArray⟩, .int .i64 fuse, .slice C n cc, .int .i64 torn] w fun e w' => e = .returned (.bool true) ∧ Q w w' := by
  have HTa := Lib.hid (textsL_mem la 8 100)
  have hla := textsL_len la 8 100
  have hwa : ∀ i, wantS ((textsL la 8 100).take i) ≤ 16 := fun i => by
    have := wantS_le 2 ((textsL la 8 100).take i) fun p hp => wantN_le (textsL_mem la 8 100 p (List.mem_of_mem_take hp))
    rw [List.length_take] at this
    omega
  have HWa := Lib.hid hwa
  have HXa := Lib.hid (fun w' (hq : Q w w') => texts_any A ca la 8 100 w' (hA.q hq) hba hsa (by decide) (by decide))
  obtain ⟨ta, hta⟩ : ∃ t, textsL la 8 100 = t := ⟨_, rfl⟩
  rw [hta] at HTa HWa HXa hla
  obtain ⟨Na, hNa⟩ : ∃ N, la.length = N := ⟨_, rfl⟩
  rw [hNa] at HXa ⊢
  clear hA hba hsa hta hNa hwa
  have HX := Lib.hid (fun w' A ca (hA : StrsAt w' A 1 [last]) => texts_any A ca [last] 1 400 w' hA (by rw [List.length_singleton]; decide) (by intro s hs; rw [List.mem_singleton.1 hs]; omega) (by decide) (by decide))
  have htx : textsL [last] 1 400 = [last.take 400] := rfl
  rw [htx] at HX
  obtain ⟨ev, hevt⟩ : ∃ ev, last.take 400 = ev := ⟨_, rfl⟩
  have hev : ev.length ≤ 400 := by rw [← hevt, List.length_take]; omega
  rw [hevt] at HX
  have HEVL := Lib.hid hev
  have hwe : wantN ev ≤ 7 := by unfold wantN; omega
  have HWE := Lib.hid hwe
  have hpk := pickZ_lt fuse 20 (by decide)
  have HPK := Lib.hid (fun w => pick_any fuse 20 w (by decide) hf)
  obtain ⟨F, hF⟩ : ∃ T, pickZ fuse 20 = T := ⟨_, rfl⟩
  rw [hF] at hpk HPK
  have HPP := Lib.hid hpk
  have HBS := Lib.hid hC
  have HET := Lib.hid het
  clear htx hevt hev hwe hf hF hpk hC het hls
  go_enter Tryd.func6, Tryd.ntmps6
  go_wp2_with fail
  refine (known_any w).mono ?_
  rintro e w1 ⟨rfl, hq1⟩
  have HQ1 := Lib.hid hq1
  clear hq1
  go_wp2_with fail
  refine (rack_any w1).mono ?_
  rintro e w2 ⟨⟨bd, bp, gh, rfl, hd⟩, hq2⟩
  have HQ2 := Lib.hid hq2
  have HF : Hid (Calls Tryd.prog 10 #[.pointer (some ⟨bd, 0, none⟩), .int .i64 0, .int .i64 64] w2 _) := Lib.hid (Format_inv 0 32 (rack_live hd) (by decide) (by rw [newD_n]; decide) hq2.size)
  clear hd hq2
  go_wp2_with fail
  refine HF.out.mono ?_
  rintro e w3 ⟨bj, d3, rfl, hj, _, hbj, hk⟩
  have HJ3 := Lib.hid hj
  have HQ3 := Lib.hid (hk.toQ HQ2.out (by simp))
  have HBJ : Hid (w1.heap.size ≤ bj) := Lib.hid (Nat.le_trans HQ2.out.size hbj)
  clear hj hk HF HQ2 hbj
  go_wp2_with fail
  refine (HXa.out w3 (HQ1.out.trans HQ3.out)).mono ?_
  rintro e w4 ⟨⟨va, rfl, hv⟩, hq4⟩
  have HV4 := Lib.hid hv.toS
  have HJ4 := Lib.hid (HJ3.out.q hq4)
  have HQ4 := Lib.hid (HQ3.out.trans hq4)
  obtain ⟨A1, c1, rfl, _⟩ := HV4.out
  obtain ⟨LA, hLA⟩ : ∃ L, ta.length = L := ⟨_, rfl⟩
  rw [hLA] at HV4 hla ⊢
  have HLA := Lib.hid hLA
  have hlai : (LA : Int) ≤ 8 := by omega
  have HLA8 := Lib.hid hla
  clear hv hq4 HJ3 HQ3 HXa hLA
  go_wp2_with fail
  go_loopw [16] (fun iv wr => ∃ (i : Nat) (d : DskS), i ≤ LA ∧ iv = .int .i64 (i : Int) ∧ Hid (JR w1 wr bj bd bp gh 0 32 1 d (ta.take i)) ∧ Hid (StrS wr (.slice A1 LA c1) ta) ∧ Hid (Q w1 wr)) (fun iv _ => LA - (intOf iv).toNat)
  case atStart => exact ⟨0, d3, by omega, rfl, HJ4.out, HV4.out, HQ4.out⟩
  case round =>
    clear HJ4 HV4 HQ4
    obtain ⟨i, d, hi, rfl, HJ, HV, HQ⟩ := hrel
    by_cases hlt : i < LA
    · have g1 : decide (i < LA) = true := decide_eq_true hlt
      obtain ⟨A3, c3, e3, hst, _⟩ := HV.out
      have hst2 : StrsAt wr A1 ta.length ta := by injection e3 with e3 _ _; rw [e3]; exact hst
      obtain ⟨ad1, rfl, hca⟩ := hst2.at (i := i) (by rw [HLA.out]; exact hlt)
      have hto := take_one (ls := ta) (i := i) (by rw [HLA.out]; exact hlt)
      have hgl := HTa.out _ (gL_mem (ls := ta) (i := i) (by rw [HLA.out]; exact hlt))
      have hws := HWa.out (i + 1)
      rw [hto, wantS_snoc] at hws
      have HAP := Lib.hid (Append_inv (gL ta i) HJ.out (by omega) (by omega) HQ.out.size)
      obtain ⟨sx, hsx⟩ : ∃ s, gL ta i = s := ⟨_, rfl⟩
      rw [hsx] at HAP hca hto
      have HTA := Lib.hid hto
      clear hst hst2 e3 hto hgl hws hsx
      go_wp2_with fail
      refine HAP.out.mono ?_
      rintro e w8 ⟨d8, rfl, hj, _, hk⟩
      rw [← HTA.out] at hj
      have HV8 := Lib.hid (HV.out.kr hk HJ.out)
      have HJ8 := Lib.hid hj
      have HQ8 : Hid (Q w1 w8) := Lib.hid (hk.toQ HQ.out (by simpa using HBJ.out))
      clear hj hk HJ HV HQ HAP hca HTA
      go_wp2_with fail
      go_roundw
      case rel => exact ⟨i + 1, d8, by omega, by go_num, HJ8.out, HV8.out, HQ8.out⟩
      case measure => simp [intOf]; omega
    · have g1 : decide (i < LA) = false := decide_eq_false hlt
      have hxl : ta.take i = ta := List.take_of_length_le (by rw [HLA.out]; omega)
      have hwt := HWa.out i
      rw [hxl] at HJ hwt
      have HWT := Lib.hid hwt
      clear hxl hlt hwt HWa hi
      go_wp2_with fail
      have hq4 : Q wr (wr.alloc (.cells #[.string ⟨last.toArray⟩] 9)) := (Q.refl _).alloc _
      have hA4 : StrsAt (wr.alloc (.cells #[.string ⟨last.toArray⟩] 9)) (some ⟨wr.heap.size, 0, none⟩) 1 [last] := StrsAt_new wr _ [last]
      have HJ4 := Lib.hid (HJ.out.q hq4)
      have HV4 := Lib.hid (HV.out.q hq4)
      have HQ4 := Lib.hid (HQ.out.trans hq4)
      have HTX := Lib.hid (HX.out _ (some ⟨wr.heap.size, 0, none⟩) 1 hA4)
      clear hq4 hA4 HJ HV HQ HX
      generalize wr.alloc (.cells #[.string ⟨last.toArray⟩] 9) = W4 at HJ4 HV4 HQ4 HTX ⊢
      refine HTX.out.mono ?_
      rintro e w5 ⟨⟨v5, rfl, hv⟩, hq5⟩
      have HU5 : Hid (StrS w5 v5 [ev]) := Lib.hid hv.toS
      obtain ⟨A5, c5, rfl, hst, _⟩ := HU5.out
      obtain ⟨ad5, rfl, hc5⟩ := hst.at (i := 0) (by rw [List.length_singleton]; decide)
      have hc5 : w5.cell? ad5 = some (.string ⟨ev.toArray⟩) := by
        rw [show gL [ev] 0 = ev from rfl] at hc5
        simpa [Addr.add] using hc5
      have HJ5 := Lib.hid (HJ4.out.q hq5)
      have HV5 := Lib.hid (HV4.out.q hq5)
      have HQ5 := Lib.hid (HQ4.out.trans hq5)
      rw [show ([ev] : List (List UInt8)).length = 1 from rfl] at HU5 ⊢
      clear hv hst hq5 HJ4 HV4 HQ4 HTX
      have HC5 := Lib.hid hc5
      clear hc5
      go_wp2_with fail
      refine (HPK.out _).mono ?_
      rintro e wx ⟨rfl, rfl⟩
      have HFU := Lib.hid (Fuse_any F HJ5.out.dat.1 (by have := HPP.out; omega))
      go_wp2_with fail
      refine HFU.out.mono ?_
      rintro e w7 ⟨rfl, hd7, hk7⟩
      have HQ7 : Hid (Q w1 w7) := Lib.hid (hk7.toQ HQ5.out (by simp))
      have HV7 := Lib.hid (HV5.out.k hk7)
      have HU7 := Lib.hid (HU5.out.k hk7)
      have HAP := Lib.hid (Append_pow ev F (by have := HPP.out; omega) HJ5.out hd7 hk7 (by have := HEVL.out; omega) (by have := HWT.out; have := HWE.out; omega) (HET.out.q HQ1.out) HQ7.out)
      have HKJ : Hid (∀ W, K w1 [bj] w7 W → StrS W (.slice A1 LA c1) ta ∧ StrS W (.slice (some ad5) 1 c5) [ev]) := Lib.hid (fun W hk => by
        have := HJ5.out
        obtain ⟨j, hj, _⟩ := this
        have hj7 : JAt w7 bj bd j := hj.j.k hk7 (by simp)
        exact ⟨HV7.out.kj hk hj7, HU7.out.kj hk hj7⟩)
      have hone : ∀ W, StrS W (.slice (some ad5) 1 c5) [ev] → W.cell? ad5 = some (.string ⟨ev.toArray⟩) := fun W h => by
        obtain ⟨A5, c6, e6, hst, _⟩ := h
        injection e6 with e6 _ _
        subst e6
        obtain ⟨ad6, e7, hc6⟩ := hst.at (i := 0) (by rw [List.length_singleton]; decide)
        cases e7
        rw [show gL [ev] 0 = ev from rfl] at hc6
        simpa [Addr.add] using hc6
      have HONE := Lib.hid hone
      have hc7 := hone w7 HU7.out
      clear hd7 hk7 HFU HJ5 HQ5 HV5 HU5 HPK hone HC5
      go_wp2_with fail
      refine HAP.out.mono ?_
      rintro e w8 ⟨⟨d8, hpe, hcr⟩, hk8⟩
      obtain ⟨evv, rfl, hev⟩ := hpe.val
      have HCR := Lib.hid hcr
      have HEV := Lib.hid hev
      have HQ8 : Hid (Q w1 w8) := Lib.hid (hk8.toQ HQ7.out (by simpa using HBJ.out))
      obtain ⟨hv8, hu8⟩ := HKJ.out w8 hk8
      have HV8 := Lib.hid hv8
      have HU8 := Lib.hid hu8
      obtain ⟨g, hg⟩ : ∃ g, d8.gone = g := ⟨_, rfl⟩
      have HG := Lib.hid hg
      have HGO := Lib.hid (Gone_any hcr.dat)
      rw [hg] at HGO
      have HON := Lib.hid (On_any hcr.dat)
      clear hpe hev hcr hk8 hv8 hu8 hg HAP HKJ HV7 HU7 HQ7 hc7
      go_wp2_with fail
      refine HGO.out.mono ?_
      rintro e wx ⟨rfl, rfl⟩
      go_wp2_with fail
      refine HON.out.mono ?_
      rintro e w9 ⟨rfl, hd9, hk9⟩
      have HQ9 : Hid (Q w1 w9) := Lib.hid (hk9.toQ HQ8.out (by simp))
      have HLO := Lib.hid (Lose_any C n cc bs torn hd9 (HBS.out.q HQ1.out) HQ9.out (by show d8.wait.length ≤ _; have := HCR.out.wait; omega))
      have HV9 := Lib.hid (HV8.out.k hk9)
      have HU9 := Lib.hid (HU8.out.k hk9)
      have HE9 : Hid ((d8.gone = false ∧ evv = .nilIface) ∨ (d8.gone = true ∧ ∃ b, evv = .iface 82 (.pointer (some ⟨b, 0, none⟩)) ∧ WrapAt w9 b 10)) := Lib.hid (HEV.out.imp id fun ⟨h1, b, h2, h3⟩ => ⟨h1, b, h2, h3.k hk9⟩)
      clear hd9 hk9 HGO HON HV8 HU8 HQ8 HEV
      go_wp2_with fail
      refine HLO.out.mono ?_
      rintro e w10 ⟨rfl, hd10, hk10⟩
      have HQ10 : Hid (Q w1 w10) := Lib.hid (hk10.toQ HQ9.out (by simp))
      have HV10 := Lib.hid (HV9.out.k hk10)
      have HU10 := Lib.hid (HU9.out.k hk10)
      have HE10 : Hid ((d8.gone = false ∧ evv = .nilIface) ∨ (d8.gone = true ∧ ∃ b, evv = .iface 82 (.pointer (some ⟨b, 0, none⟩)) ∧ WrapAt w10 b 10)) := Lib.hid (HE9.out.imp id fun ⟨h1, b, h2, h3⟩ => ⟨h1, b, h2, h3.k hk10⟩)
      obtain ⟨j, r, hinv, hf1, hf2, hf3, hr⟩ := HCR.out.inv bs (min (max torn 0) 64).toNat (by omega)
      rw [HG.out] at hr HE10
      have HO := Open_crash hd10 hinv HQ10.out.size
      rw [hf1, hf2] at HO
      have HO : Hid (Calls Tryd.prog 13 #[.pointer (some ⟨bd, 0, none⟩), .int .i64 0, .int .i64 64] w10 _) := Lib.hid HO
      have hrl : r.length ≤ 9 := by
        have h1 := HLA.out
        have h2 := HLA8.out
        rcases hr with rfl | ⟨_, rfl⟩
        · rw [List.length_append, List.length_singleton]; omega
        · omega
      have HR := Lib.hid hr
      have HRL := Lib.hid hrl
      clear hd10 hk10 hinv hf1 hf2 hf3 hr hrl HV9 HU9 HQ9 HLO HCR HE9
      go_wp2_with fail
      refine HO.out.mono ?_
      rintro e w11 ⟨bk, v11, rfl, hs, _, _, hq⟩
      have HQ11 := Lib.hid (HQ10.out.trans hq)
      have HV11 := Lib.hid (HV10.out.q hq)
      have HU11 := Lib.hid (HU10.out.q hq)
      have HE11 : Hid ((g = false ∧ evv = .nilIface) ∨ (g = true ∧ ∃ b, evv = .iface 82 (.pointer (some ⟨b, 0, none⟩)) ∧ WrapAt w11 b 10)) := Lib.hid (HE10.out.imp id fun ⟨h1, b, h2, h3⟩ => ⟨h1, b, h2, h3.q hq⟩)
      have HS11 := Lib.hid hs
      obtain ⟨A7, c7, rfl, hs7, hty7⟩ := hs
      obtain ⟨A3, c3, e3, hst, _⟩ := HV11.out
      have hst3 : StrsAt w11 A1 ta.length ta := by injection e3 with e3 _ _; rw [e3]; exact hst
      have HS1 := Lib.hid (same_any A7 A1 c7 c1 r ta w11 hs7 hst3 (by have := HRL.out; omega) (by rw [HLA.out]; have := HLA8.out; omega))
      rw [HLA.out] at HS1
      obtain ⟨LR, hLR⟩ : ∃ L, r.length = L := ⟨_, rfl⟩
      rw [hLR] at HS1 HS11 ⊢
      have HLR := Lib.hid hLR
      obtain ⟨O, hO⟩ : ∃ b, decide (r = ta) = b := ⟨_, rfl⟩
      rw [hO] at HS1
      have HOO := Lib.hid hO
      clear hs7 hty7 hst hst3 e3 hq hLR hO HO HQ10 HV10 HU10 HE10
      go_wp2_with fail
      refine HS1.out.mono ?_
      rintro e w12 ⟨rfl, hq12⟩
      have HQ12 := Lib.hid (HQ11.out.trans hq12)
      have HV12 := Lib.hid (HV11.out.q hq12)
      have HU12 := Lib.hid (HU11.out.q hq12)
      have HS12 := Lib.hid (HS11.out.q hq12)
      have HE12 : Hid ((g = false ∧ evv = .nilIface) ∨ (g = true ∧ ∃ b, evv = .iface 82 (.pointer (some ⟨b, 0, none⟩)) ∧ WrapAt w12 b 10)) := Lib.hid (HE11.out.imp id fun ⟨h1, b, h2, h3⟩ => ⟨h1, b, h2, h3.q hq12⟩)
      clear hq12 HS1 HQ11 HV11 HU11 HS11 HE11
      have k0 : ∀ m : QW w12, m.val.cell? ad5 = some (.string ⟨ev.toArray⟩) := fun m => m.cell (HONE.out _ HU12.out)
      go_wp2_with fail
      refine wp_region_noPanic ?_
      refine wp_fork [0, 1, 3, 4, 5] 2 6 [([], [7, 8, 9])] (by kernel_rfl) (by kernel_rfl) (fun _ _ _ _ _ h => h) ?_
      simp only [wpPlan, wpListK, List.map_cons, List.map_nil, Array.getD_eq_getD_getElem?, List.getElem?_toArray, List.getElem?_cons_succ, List.getElem?_cons_zero, Option.getD_some]
      (repeat (go_big_quiet_step (fail)))
      refine wpQuiet_nil ?_
      clear k0
      obtain ⟨Wd, hWd⟩ : ∃ W, w12.drew = W := ⟨_, rfl⟩
      have hqd : Q w12 Wd := by rw [← hWd]; exact (Q.refl w12).drew
      rw [hWd]
      have HQd := Lib.hid hqd
      clear hWd hqd
      refine ⟨?_, ?_⟩
      · intro K2 hKK
        refine wpList_append_strs rfl (.const (.slice none 0 0)) (.tmp 89) rfl w12 Wd (.slice none 0 0) [] ta A1 LA c1 HLA.out (by rfl) (OwnS.nil _ _ _) (by rfl) (by obtain ⟨A3, c3, e3, hst, _⟩ := HV12.out.q HQd.out; injection e3 with e3 _ _; rw [e3, ← HLA.out]; exact hst) HQd.out.size (by have := HLA8.out; simp; omega) ?_
        intro va wa hoa hga
        rw [List.nil_append] at hoa
        have hqa : Q w12 wa := gb_q_own hga HQd.out (fun k hk => by cases hk)
        refine wpList_nil ?_
        refine hKK.out _ _ ⟨⟨_, hqa⟩, rfl⟩ ?_
        clear hKK K2 hga
        intro K2 hKK
        go_wp2_with fail
        have hb : StrsAt (wa.alloc (.cells #[.string ⟨ev.toArray⟩] 9)) (some ⟨wa.heap.size, 0, none⟩) 1 [ev] := StrsAt_new wa _ [ev]
        have hqb : Q w12 (wa.alloc (.cells #[.string ⟨ev.toArray⟩] 9)) := hqa.alloc _
        have hoa := hoa.q ((Q.refl wa).alloc (.cells #[.string ⟨ev.toArray⟩] 9))
        generalize wa.alloc (.cells #[.string ⟨ev.toArray⟩] 9) = Wb at hb hqb hoa ⊢
        obtain ⟨G, hG⟩ : ∃ G, wa.heap.size = G := ⟨_, rfl⟩
        rw [hG] at hb ⊢
        clear hG hqa
        have HOa := Lib.hid hoa
        have HB := Lib.hid hb
        have HQb := Lib.hid hqb
        clear hoa hb hqb
        refine hKK.out _ _ ⟨⟨_, HQb.out⟩, rfl⟩ ?_
        clear hKK
        refine wpQuiet_nil ?_
        intro K3 hK3
        refine wpList_append_strs rfl (.tmp 90) (.tmp 94) rfl w12 Wb va (ta.map strV) [ev] (some ⟨G, 0, none⟩) 1 1 rfl (by rfl) HOa.out (by rfl) HB.out HQb.out.size (by rw [List.length_map, HLA.out]; have := HLA8.out; omega) ?_
        intro vc wc hoc hgc
        have hqc : Q w12 wc := gb_q_own hgc HQb.out (fun k hk => HOa.out.block hk)
        refine wpList_nil ?_
        refine hK3.out _ _ ⟨⟨_, hqc⟩, rfl⟩ ?_
        clear hK3 K3
        have hvc : StrS wc vc (ta ++ [ev]) := OwnS.toS (w0 := w12) (by rw [List.map_append]; exact hoc)
        obtain ⟨A8, c8, rfl, hs8, _⟩ := hvc
        obtain ⟨A9, c9, e9, hs9, _⟩ := HS12.out.q hqc
        have hs10 : StrsAt wc A7 r.length r := by injection e9 with e9 _ _; rw [e9]; exact hs9
        have hlt : (ta ++ [ev]).length = LA + 1 := by rw [List.length_append, HLA.out]; rfl
        have HS2 := Lib.hid (same_any A7 A8 c7 c8 r (ta ++ [ev]) wc hs10 hs8 (by have := HRL.out; omega) (by rw [hlt]; have := HLA8.out; omega))
        rw [HLR.out, hlt] at HS2
        rw [hlt]
        obtain ⟨N, hN⟩ : ∃ b, decide (r = ta ++ [ev]) = b := ⟨_, rfl⟩
        rw [hN] at HS2
        have HNN := Lib.hid hN
        have HQc := Lib.hid hqc
        clear hoc hgc hqc hs8 hs9 hs10 e9 hlt hN HOa HB HQb
        intro K4 hK4
        go_wp2_with fail
        refine HS2.out.mono ?_
        rintro e w13 ⟨rfl, hq13⟩
        have hqf := HQc.out.trans hq13
        have HE13 : Hid ((g = false ∧ evv = .nilIface) ∨ (g = true ∧ ∃ b, evv = .iface 82 (.pointer (some ⟨b, 0, none⟩)) ∧ WrapAt w13 b 10)) := Lib.hid (HE12.out.imp id fun ⟨h1, b, h2, h3⟩ => ⟨h1, b, h2, h3.q hqf⟩)
        go_wp2_with fail
        refine hK4.out _ _ ⟨⟨_, hqf⟩, rfl⟩ ?_
        clear hK4 K4
        have HQ13 := Lib.hid (HQ12.out.trans hqf)
        have HQF := Lib.hid hqf
        clear hq13 hqf HS2 HQc
        intro K5 hK5
        go_wp2_with fail
        refine hK5.out _ _ ⟨⟨_, HQF.out⟩, rfl⟩ ?_
        clear hK5 K5
        refine NoPanic.normal ?_
        have hcase : (g = false ∧ evv = .nilIface ∧ N = true) ∨ (g = true ∧ (∃ b, evv = .iface 82 (.pointer (some ⟨b, 0, none⟩)) ∧ WrapAt w13 b 10) ∧ N = true) ∨ (g = true ∧ (∃ b, evv = .iface 82 (.pointer (some ⟨b, 0, none⟩)) ∧ WrapAt w13 b 10) ∧ N = false ∧ O = true) := by
          have h1 := HE13.out
          have h2 := HR.out
          rcases h1 with ⟨h1, h3⟩ | ⟨h1, h3⟩
          · left
            refine ⟨h1, h3, ?_⟩
            rcases h2 with h2 | ⟨h2, _⟩
            · rw [← HNN.out]; exact decide_eq_true h2
            · rw [h1] at h2; cases h2
          · right
            cases hNv : N with
            | true => exact .inl ⟨h1, h3, rfl⟩
            | false =>
              refine .inr ⟨h1, h3, rfl, ?_⟩
              rcases h2 with h2 | ⟨_, h2⟩
              · have := HNN.out; rw [decide_eq_true h2, hNv] at this; cases this
              · rw [← HOO.out]; exact decide_eq_true h2
        clear HE13 HE12 HR HG HOO HNN HLR HRL HV12 HU12 HS12 HQ12 HQF
        rcases hcase with ⟨rfl, rfl, rfl⟩ | ⟨rfl, ⟨b, rfl, hw⟩, rfl⟩ | ⟨rfl, ⟨b, rfl, hw⟩, rfl, rfl⟩
        · go_wp2_with fail
          go_ret
          exact ⟨rfl, HQ1.out.trans HQ13.out⟩
        all_goals
          have HW := Lib.hid (errorsIs_w b 10 w13 hw)
          clear hw
          go_wp2_with fail
          refine HW.out.mono ?_
          rintro e wx ⟨rfl, rfl⟩
          go_wp2_with fail
          go_ret
          exact ⟨rfl, HQ1.out.trans HQ13.out⟩
      · intro K2 hKK
        go_wp2_with fail
        have hb0 : StrsAt (Wd.alloc (.cells #[.string ⟨ev.toArray⟩] 9)) (some ⟨Wd.heap.size, 0, none⟩) 1 [ev] := StrsAt_new Wd _ [ev]
        have hq0 : Q w12 (Wd.alloc (.cells #[.string ⟨ev.toArray⟩] 9)) := HQd.out.alloc _
        generalize Wd.alloc (.cells #[.string ⟨ev.toArray⟩] 9) = Wa at hb0 hq0 ⊢
        obtain ⟨G, hG⟩ : ∃ G, Wd.heap.size = G := ⟨_, rfl⟩
        rw [hG] at hb0 ⊢
        clear hG
        refine hKK.out _ _ ⟨⟨_, hq0⟩, rfl⟩ ?_
        clear hKK K2
        intro K2 hKK
        refine wpList_append_strs rfl (.const (.slice none 0 0)) (.tmp 89) rfl w12 Wa (.slice none 0 0) [] ta A1 LA c1 HLA.out (by rfl) (OwnS.nil _ _ _) (by rfl) (by obtain ⟨A3, c3, e3, hst, _⟩ := HV12.out.q hq0; injection e3 with e3 _ _; rw [e3, ← HLA.out]; exact hst) hq0.size (by have := HLA8.out; simp; omega) ?_
        intro va Wb hoa hga
        rw [List.nil_append] at hoa
        have hqx : Q Wa Wb := ⟨hga.os, hga.tape, hga.output, hga.size, fun k hk => hga.block k hk (by simp [Value.ownBlock])⟩
        have hb := hb0.q hqx
        have hqb := hq0.trans hqx
        refine wpList_nil ?_
        clear hga hqx hb0 hq0
        have HOa := Lib.hid hoa
        have HB := Lib.hid hb
        have HQb := Lib.hid hqb
        clear hoa hb hqb
        refine hKK.out _ _ ⟨⟨_, HQb.out⟩, rfl⟩ ?_
        clear hKK
        refine wpQuiet_nil ?_
        intro K3 hK3
        refine wpList_append_strs rfl (.tmp 90) (.tmp 94) rfl w12 Wb va (ta.map strV) [ev] (some ⟨G, 0, none⟩) 1 1 rfl (by rfl) HOa.out (by rfl) HB.out HQb.out.size (by rw [List.length_map, HLA.out]; have := HLA8.out; omega) ?_
        intro vc wc hoc hgc
        have hqc : Q w12 wc := gb_q_own hgc HQb.out (fun k hk => HOa.out.block hk)
        refine wpList_nil ?_
        refine hK3.out _ _ ⟨⟨_, hqc⟩, rfl⟩ ?_
        clear hK3 K3
        have hvc : StrS wc vc (ta ++ [ev]) := OwnS.toS (w0 := w12) (by rw [List.map_append]; exact hoc)
        obtain ⟨A8, c8, rfl, hs8, _⟩ := hvc
        obtain ⟨A9, c9, e9, hs9, _⟩ := HS12.out.q hqc
        have hs10 : StrsAt wc A7 r.length r := by injection e9 with e9 _ _; rw [e9]; exact hs9
        have hlt : (ta ++ [ev]).length = LA + 1 := by rw [List.length_append, HLA.out]; rfl
        have HS2 := Lib.hid (same_any A7 A8 c7 c8 r (ta ++ [ev]) wc hs10 hs8 (by have := HRL.out; omega) (by rw [hlt]; have := HLA8.out; omega))
        rw [HLR.out, hlt] at HS2
        rw [hlt]
        obtain ⟨N, hN⟩ : ∃ b, decide (r = ta ++ [ev]) = b := ⟨_, rfl⟩
        rw [hN] at HS2
        have HNN := Lib.hid hN
        have HQc := Lib.hid hqc
        clear hoc hgc hqc hs8 hs9 hs10 e9 hlt hN HOa HB HQb
        intro K4 hK4
        go_wp2_with fail
        refine HS2.out.mono ?_
        rintro e w13 ⟨rfl, hq13⟩
        have hqf := HQc.out.trans hq13
        have HE13 : Hid ((g = false ∧ evv = .nilIface) ∨ (g = true ∧ ∃ b, evv = .iface 82 (.pointer (some ⟨b, 0, none⟩)) ∧ WrapAt w13 b 10)) := Lib.hid (HE12.out.imp id fun ⟨h1, b, h2, h3⟩ => ⟨h1, b, h2, h3.q hqf⟩)
        go_wp2_with fail
        refine hK4.out _ _ ⟨⟨_, hqf⟩, rfl⟩ ?_
        clear hK4 K4
        have HQ13 := Lib.hid (HQ12.out.trans hqf)
        have HQF := Lib.hid hqf
        clear hq13 hqf HS2 HQc
        intro K5 hK5
        go_wp2_with fail
        refine hK5.out _ _ ⟨⟨_, HQF.out⟩, rfl⟩ ?_
        clear hK5 K5
        refine NoPanic.normal ?_
        have hcase : (g = false ∧ evv = .nilIface ∧ N = true) ∨ (g = true ∧ (∃ b, evv = .iface 82 (.pointer (some ⟨b, 0, none⟩)) ∧ WrapAt w13 b 10) ∧ N = true) ∨ (g = true ∧ (∃ b, evv = .iface 82 (.pointer (some ⟨b, 0, none⟩)) ∧ WrapAt w13 b 10) ∧ N = false ∧ O = true) := by
          have h1 := HE13.out
          have h2 := HR.out
          rcases h1 with ⟨h1, h3⟩ | ⟨h1, h3⟩
          · left
            refine ⟨h1, h3, ?_⟩
            rcases h2 with h2 | ⟨h2, _⟩
            · rw [← HNN.out]; exact decide_eq_true h2
            · rw [h1] at h2; cases h2
          · right
            cases hNv : N with
            | true => exact .inl ⟨h1, h3, rfl⟩
            | false =>
              refine .inr ⟨h1, h3, rfl, ?_⟩
              rcases h2 with h2 | ⟨_, h2⟩
              · have := HNN.out; rw [decide_eq_true h2, hNv] at this; cases this
              · rw [← HOO.out]; exact decide_eq_true h2
        clear HE13 HE12 HR HG HOO HNN HLR HRL HV12 HU12 HS12 HQ12 HQF
        rcases hcase with ⟨rfl, rfl, rfl⟩ | ⟨rfl, ⟨b, rfl, hw⟩, rfl⟩ | ⟨rfl, ⟨b, rfl, hw⟩, rfl, rfl⟩
        · go_wp2_with fail
          go_ret
          exact ⟨rfl, HQ1.out.trans HQ13.out⟩
        all_goals
          have HW := Lib.hid (errorsIs_w b 10 w13 hw)
          clear hw
          go_wp2_with fail
          refine HW.out.mono ?_
          rintro e wx ⟨rfl, rfl⟩
          go_wp2_with fail
          go_ret
          exact ⟨rfl, HQ1.out.trans HQ13.out⟩
theorem JournalCrash_any (A : Option Addr) (n cap : Nat) (ls : List (List UInt8)) (last : List UInt8) (f : Int) (C : Option Addr) (n3 cap3 : Nat) (bs : List Bool) (t : Int) (W : World) (h : StrsAt W A n ls) (hc : cap ≤ 9223372036854775807) (hn : n ≤ cap) (hb : ∀ s ∈ ls, s.length ≤ 9223372036854775807)
    (hl : last.length ≤ 140737488355328) (hf : -9223372036854775808 ≤ f ∧ f ≤ 9223372036854775807) (hB : BoolsAt W C n3 bs) (hm : n3 ≤ 9223372036854775807) (het : ErrT W) :
    Calls Tryd.prog 6 #[.slice A n cap, .string ⟨last.toArray⟩, .int .i64 f, .slice C n3 cap3, .int .i64 t] W fun e w' => e = .returned (.bool true) ∧ Q W w' := by
  obtain rfl := h.1
  exact JournalCrash_walk A C cap n3 cap3 ls last bs f t W h (Nat.le_trans hn hc) hb hl hf hB het
end Go.Proofs.YtjbdjkpbkjkdpaaDoor
