/- (*hash).write: what is told, piece by piece. -/
import Derived.Test.YteadblkkbbhpjaaHsA
import Derived.StillTailTactics
import Derived.Deep.MidRow
set_option linter.unusedVariables false
namespace Go.Proofs.Yteadblkkbbhpjaa
open Go Go.RowKit
theorem info5 : (Try.prog.info? 5).map (·.size) = some 1 := by kernel_rfl
theorem wpStill_load_mid {P : Program} {ops : Array Oper} {rest : List Oper} {o : Oper} {a : Act} {w : World} {R : Act → Prop} (hgd : o.guard = none) (ty : TypeId) (x : Operand) (ho : o.op = .load ty x)
    (b off : Nat) (hx : a.eval x = .pointer (some ⟨b, off, none⟩)) (cs : List Value) (d : TypeDesc) (hc : w.rangeAt b off cs) (hu : P.underlying ty = some d) (hd : d.isRow = true) (hi : (P.info? ty).map (·.size) = some cs.length)
    (h : wpStill P ops w R rest (a.put o.dst (.agg cs.toArray))) : wpStill P ops w R (o :: rest) a := by
  refine wpStill_step fun K hK => ?_
  rw [if_pos (by simp [Region.wanted, hgd])]
  unfold Oper.still execOp
  rw [ho]
  simp only [hx, Sem.run_bind, Sem.run_pure, run_loadAt_mid w b off ty cs d hc hu hd hi, Result.andThen_ok]
  rw [Oper.stillUpon_value]
  exact hK _ h
theorem take_len (l : List UInt8) (k : Nat) : l.take k = l.take (l.take k).length := by
  rw [List.length_take]
  rcases Nat.le_total k l.length with h | h
  · rw [Nat.min_eq_left h]
  · rw [Nat.min_eq_right h, List.take_length, List.take_of_length_le h]
def lenV : Value → Nat
  | .string s => s.size
  | _ => 0
theorem IntWalk_u64 (n : Int) : IntKind.u64.wrap n = n % 18446744073709551616 := by simp [IntKind.wrap, IntKind.bits, IntKind.signed]
theorem u64_len (a b : Nat) : (((a % 18446744073709551616 : Nat) : Int) + (b : Int)) % 18446744073709551616 = (((a + b) % 18446744073709551616 : Nat) : Int) := by omega
set_option maxRecDepth 100000 in
set_option maxHeartbeats 4000000 in
theorem write_any (A : Alg) (hb sb cap : Nat) (t p : List UInt8) (w : World) (h : ToldAt w A hb sb cap t) (hp : p.length ≤ 9223372036854775807) :
    Calls Try.prog 53 #[.pointer (some ⟨hb, 0, none⟩), .string ⟨p.toArray⟩] w fun e w' => e = .returned (.tuple #[]) ∧ ToldAt w' A hb sb cap (t ++ p) ∧ GX [hb, sb] w w' := by
  obtain ⟨⟨bl, hH, hbl⟩, hS, hne⟩ := h
  have hc := hH.c66
  have hf := hH.frozen 66
  have hw0 : IntKind.u64.wrap (((t.length % 18446744073709551616 : Nat) : Int) + (p.length : Int)) = (((t ++ p).length % 18446744073709551616 : Nat) : Int) := by
    rw [IntWalk_u64, List.length_append]; exact u64_len _ _
  have hS0 := HashAt.setSize hH ((t ++ p).length % 18446744073709551616)
  have HH : Hid (ToldZ (w.setCell ⟨hb, 66, none⟩ (.int .u64 (((t ++ p).length % 18446744073709551616 : Nat) : Int))) A hb sb cap t ((t ++ p).length % 18446744073709551616)) :=
    Lib.hid ⟨⟨bl, hS0, hbl⟩, ((GX.refl [hb] w).set (by simp) _ _).st (by simpa using hne) hS, hne⟩
  have HG : Hid (GX [hb, sb] w (w.setCell ⟨hb, 66, none⟩ (.int .u64 (((t ++ p).length % 18446744073709551616 : Nat) : Int)))) := Lib.hid ((GX.refl _ w).set (by simp) _ _)
  have HP : Hid (ToldAt (w.setCell ⟨hb, 66, none⟩ (.int .u64 (((t ++ p).length % 18446744073709551616 : Nat) : Int))) A hb sb cap (t ++ p) = ToldZ (w.setCell ⟨hb, 66, none⟩ (.int .u64 (((t ++ p).length % 18446744073709551616 : Nat) : Int))) A hb sb cap (t ++ p) ((t ++ p).length % 18446744073709551616)) := Lib.hid rfl
  have HT : Hid (∀ w' : World, ToldZ w' A hb sb cap (t ++ p) ((t ++ p).length % 18446744073709551616) → ToldAt w' A hb sb cap (t ++ p)) := Lib.hid fun w' h => h
  clear hH hS hbl hS0 HP
  generalize t.length % 18446744073709551616 = sz at *
  generalize (t ++ p).length % 18446744073709551616 = SZ at *
  go_enter Try.func53, Try.ntmps53
  go_wp2_with fail
  clear hw0 hc hf
  go_loopw [1] (fun q wr => ∃ r ql : List UInt8, p = r ++ ql ∧ q = .string ⟨ql.toArray⟩ ∧ ToldZ wr A hb sb cap (t ++ r) SZ ∧ GX [hb, sb] w wr) (fun q _ => lenV q)
  case atStart => exact ⟨[], p, rfl, rfl, by simpa using HH.out, HG.out⟩
  case round =>
    obtain ⟨r, ql, hpr, rfl, hT, hG⟩ := hrel
    have hql : ql.length ≤ 9223372036854775807 := by have : p.length = r.length + ql.length := by rw [hpr, List.length_append]
                                                     omega
    have HPR := Lib.hid hpr
    have HGG := Lib.hid hG
    clear hpr hG HH HG
    by_cases h0 : 0 < ql.length
    · obtain ⟨⟨bk, hH, hbk⟩, hS, _⟩ := hT
      have hm : (t ++ r).length % 64 < 64 := by omega
      have hc := hH.c65
      have hf := hH.frozen 65
      have hd0 : decide (0 < ql.length) = true := by simpa using h0
      generalize hM : (t ++ r).length % 64 = m at *
      have HM := Lib.hid hM
      have hsl := fun w => slice64 w hb 1 m m rfl hm
      have HB := Lib.hid hbk
      have HS := Lib.hid hS
      have HH := Lib.hid hH
      clear hM hbk hS hH
      go_wp2_with fail
      go_still_tail 9, (by kernel_rfl)
      change wpList _ _ _ _ _ wr.drew
      have hH := HH.out
      have hl64 := hH.2
      have hsz : 1 + m + (ql.take (64 - m)).length ≤ (hashL A sb cap bk m SZ).toArray.size := by simp [hashL, hl64]; omega
      refine wpList_copy_str rfl (.tmp 25) (.tmp 26) 35 9 5 rfl Try.underlying35 info5 hb (1 + m) (64 - m) (64 - m) rfl ql rfl _ 107 hH.1 (ql.take (64 - m)) rfl hsz ?_
      have hN0 : 0 < (ql.take (64 - m)).length := by rw [List.length_take]; omega
      have hN1 : (ql.take (64 - m)).length ≤ 64 - m := by rw [List.length_take]; omega
      have hN2 : (ql.take (64 - m)).length ≤ ql.length := by rw [List.length_take]; omega
      obtain ⟨N, hN⟩ : ∃ N, N = (ql.take (64 - m)).length := ⟨_, rfl⟩
      have hpq : ql.take (64 - m) = ql.take N := by rw [hN]; exact take_len ql (64 - m)
      obtain ⟨W2, hW2, hH2, hG2⟩ : ∃ W2, W2 = wr.drew.setRow hb ((hashL A sb cap bk m SZ).toArray.toList.take (1 + m) ++ Lib.byteCells (ql.take (64 - m)) ++ (hashL A sb cap bk m SZ).toArray.toList.drop (1 + m + (ql.take (64 - m)).length)).toArray ∧ HashAt W2 A hb sb cap (bk.take m ++ ql.take N ++ bk.drop (m + N)) m SZ ∧ GX [hb] wr W2 := by
        refine ⟨_, rfl, ?_, ((GX.refl _ wr).drew).setRow (by simp) _⟩
        have := HashAt.setBlock (w := wr.drew) hH m (ql.take (64 - m)) (by omega)
        rw [← hN, hpq] at this
        rw [← hN, hpq]
        exact this
      rw [← hW2]
      clear hW2
      rw [← hN] at hN0 hN1 hN2 ⊢
      have hS2 := hG2.st (by simpa using hne) HS.out
      have hG3 := HGG.out.trans (hG2.mono (by simp))
      clear hc hf
      have hc := hH2.c65
      have hf := hH2.frozen 65
      have HN := Lib.hid hN
      have HPQ := Lib.hid hpq
      have HS2 := Lib.hid hS2
      have HG3 := Lib.hid hG3
      have HH2 := Lib.hid hH2
      have HL := Lib.hid hl64
      clear hN hpq hS2 hG3 hH2 hG2 HS HGG HH hH hsl hl64 hsz
      by_cases h64 : m + N = 64
      · have hb64 : ((m : Int) + (N : Int) == 64) = true := by simp; omega
        go_wp2_with fail
        obtain ⟨W3, hW3, hH3, hG4, hS3⟩ : ∃ W3, W3 = W2.setCell ⟨hb, 65, none⟩ (.int .i64 ((m : Int) + (N : Int))) ∧ HashAt W3 A hb sb cap (bk.take m ++ ql.take N ++ bk.drop (m + N)) (m + N) SZ ∧ GX [hb, sb] w W3 ∧ StAt W3 sb (blocksA A (t ++ r) ((t ++ r).length / 64)) := by
          refine ⟨_, rfl, ?_, (HG3.out).set (by simp) _ _, ((GX.refl [hb] W2).set (by simp) _ _).st (by simpa using hne) HS2.out⟩
          have := HashAt.setMany HH2.out (m + N)
          rw [Int.natCast_add] at this
          exact this
        rw [← hW3]
        clear hW3 hc hf hb64 HS2 HG3 HH2
        have hc0 := hH3.c0
        have hc67 := hH3.c67
        have hrg : W3.drew.rangeAt hb 1 ((bk.take m ++ ql.take N ++ bk.drop (m + N)).map u8V) := by
          intro j v hj
          have e := hH3.cell (1 + j)
          rw [show 1 + j = j + 1 from by omega, hashL, List.getElem?_cons_succ, List.getElem?_append_left (by exact (List.getElem?_eq_some_iff.1 hj).1), hj] at e
          rw [show 1 + j = j + 1 from by omega]
          exact e
        have hbl64 := hH3.2
        refine wp_region_still_tail 12 (by kernel_rfl) (by kernel_rfl) ?_
        simp only [List.take_succ_cons, List.take_zero, List.drop_succ_cons, List.drop_zero]
        have HH3 := Lib.hid hH3
        have HG4 := Lib.hid hG4
        have HS3 := Lib.hid hS3
        have HBK := Lib.hid (rfl : bk.take m ++ ql.take N ++ bk.drop (m + N) = bk.take m ++ ql.take N ++ bk.drop (m + N))
        clear hG4 hS3
        revert HBK
        generalize hBK : bk.take m ++ ql.take N ++ bk.drop (m + N) = BK at *
        intro _
        have HBK := Lib.hid hBK
        have HR := Lib.hid hrg
        clear hH3 hrg hBK
        iterate 11 still_step
        refine wpStill_load_mid rfl 77 (.tmp 54) rfl hb 1 rfl _ _ HR.out Try.underlying77 rfl (by rw [List.length_map, hbl64]; kernel_rfl) ?_
        refine wpStill_nil ?_
        change wpList _ _ _ _ _ W3.drew
        have hG5 := HG4.out.drew
        have hS5 : StAt W3.drew sb (blocksA A (t ++ r) ((t ++ r).length / 64)) := HS3.out
        have hH5 : HashAt W3.drew A hb sb cap BK (m + N) SZ := HH3.out
        generalize W3.drew = W5 at *
        have HG5 := Lib.hid hG5
        have HS5 := Lib.hid hS5
        have HH5 := Lib.hid hH5
        clear hG5 hS5 hH5 HH3 HG4 HS3 HR hc0 hc67
        have hent := A.enters
        go_wp2_with fail
        clear hent
        refine (A.call sb cap (blocksA A (t ++ r) ((t ++ r).length / 64)) BK _ (blocksA_length _ _ _) hbl64 HS5.out).mono ?_
        rintro e w6 ⟨rfl, hS6, hg6⟩
        have hG6 := HG5.out.trans (GX.gb hg6 (by simp))
        have hH6 := HH5.out.x (GX.gb (S := [sb]) hg6 (by simp)) (by simpa using Ne.symm hne)
        have hc := hH6.c65
        have hf := hH6.frozen 65
        have HG6 := Lib.hid hG6
        have HS6 := Lib.hid hS6
        have HH6 := Lib.hid hH6
        clear hG6 hS6 hH6 hg6 HG5 HS5 HH5 hbl64
        go_wp2_with fail
        go_roundw
        case rel =>
          refine ⟨r ++ ql.take N, ql.drop N, by rw [HPR.out]; simp, by rw [sub_all], ?_, HG6.out.set (by simp) _ _⟩
          rw [← List.append_assoc]
          have hm1 := HM.out
          exact toldz_full (t ++ r) ql N (by rw [hm1]; exact h64) hN2 bk BK HL.out (by rw [hm1]; exact HB.out) (by rw [hm1]; exact HBK.out) (HashAt.setMany HH6.out 0)
            (((GX.refl [hb] w6).set (by simp) _ _).st (by simpa using hne) HS6.out) hne
        case measure => show (sub ql N ql.length).length < ql.length; rw [length_sub]; omega
      · have hb64 : ((m : Int) + (N : Int) == 64) = false := by simp; omega
        go_wp2_with fail
        go_roundw
        case rel =>
          refine ⟨r ++ ql.take N, ql.drop N, by rw [HPR.out]; simp, by rw [sub_all], ?_, HG3.out.set (by simp) _ _⟩
          rw [← List.append_assoc]
          have hm1 := HM.out
          have hH9 := HashAt.setMany HH2.out (m + N)
          rw [Int.natCast_add] at hH9
          exact toldz_part (t ++ r) ql N (by rw [hm1]; omega) hN2 bk HL.out (by rw [hm1]; exact HB.out) (by rw [hm1]; exact hH9)
            (((GX.refl [hb] W2).set (by simp) _ _).st (by simpa using hne) HS2.out) hne
        case measure => show (sub ql N ql.length).length < ql.length; rw [length_sub]; omega
    · have hql0 : ql = [] := List.eq_nil_of_length_eq_zero (by omega)
      subst hql0
      have hd0 : decide (0 < ([] : List UInt8).length) = false := rfl
      have HTT := Lib.hid hT
      clear hT
      go_wp2_with fail
      go_end0
      refine ⟨rfl, HT.out _ ?_, HGG.out⟩
      have := HTT.out
      rw [HPR.out, List.append_nil]
      exact this
end Go.Proofs.Yteadblkkbbhpjaa
